/- A part of the proof of FnTightRunsSaid. -/
import Derived.Test.YtabgclojkbijbaaTiWalksB
namespace Go.Proofs.Ytabgclojkbijbaa
open Go Go.Wk Go.RowKit
set_option maxRecDepth 4000
set_option maxHeartbeats 4000000
open Try
theorem impl_mapped_impl_Block_impl_Block_ok (w0 : World) (list : List Block_) (v1 : Value) (h1 : GT.rep (hp w0) [v1] list) (f : Block_ → Option Block_) (fv1 : Value) (hfn1 : ∀ (w : World) (y0 : Block_) (z1 : Value) (_ : GT.rep (hp w) [z1] y0.phis) (z2 : Value) (_ : GT.rep (hp w) [z2] y0.ins) (z3 : Value) (_ : GT.rep (hp w) [z3] y0.next_) (r : Block_), Below w0.heap.size w0 w → f y0 = some r → FnOk Try.prog fv1 [(.agg #[z1, z2, (nV y0.jump), (nV y0.on), z3])] w (fun v w' => ∃ (x1 : Value) (x2 : Value) (x3 : Value), v = (.agg #[x1, x2, (nV r.jump), (nV r.on), x3]) ∧ Mem w (hp w) w' [ow [x1] r.phis, ow [x2] r.ins, ow [x3] r.next_])) :
    ConM Try.prog 70 [v1, fv1] w0 (impl_mapped_impl_Block_impl_Block list f) fun r v w' => ∃ (x1 : Value), v = x1 ∧ Mem w0 (hp w0) w' [ow [x1] r] := by
  unfold impl_mapped_impl_Block_impl_Block
  refine gcon func70 rfl fun r => ?_
  have hm := Mem.start w0
  refine gS (gR (gA rfl (gE (gS (gR (gA rfl (gE (gS (gS (gR (gM rfl ?_)))))))))))
  obtain ⟨aR, aS, rfl, ab⟩ := ro_slice h1
  refine gY (yV st_57 rfl) (gM rfl (gE (gBk ?_)))
  replace hm := hm.nilow (α := Block_)
  refine gNg (fun aN aC a w => ∃ (aD : Value), St 22 [(1, fv1), (5, aD), (8, (.slice aR list.length aS)), (9, (nV ((list.length : Int)))), (10, (nV aN))] w0 (hp w0) [ow [aD] aC] a w) (fun a hf => ⟨(.slice none 0 0), hf.sb rfl, hm.pk [0] rfl rfl⟩) ?_ ?_
  ·
   repeat clear hm
   rintro _ _ aN aC a w ⟨aD, hf, hm⟩ ac ae af _
   refine gv hf (gS (gR (gB rfl (gE (gS (go _ 11 rfl (decide_eq_true (by omega)) (gct rfl (gSk (gS (gBk (gS (gR (gg fun aB aT aM => ?_)))))))))))))
   obtain ⟨ag, ah, ai, he⟩ := idx_form' h1 aM
   obtain ⟨rfl, _, rfl⟩ := sl3 he
   obtain ⟨aH, aI, aJ, aU, aO, aP, aQ⟩ := rk_Block_ h1 aM
   refine gI st_57 aT (idx_lt aM) rfl (gY (yn (aU.mono hm.lez) isAgg71 sizeOf71 rfl) (gAl hm zeroValue71 rfl fun aK w hm => gSN hm 0 sizeOf71 (one_cons (rep_one aO) (one_cons (rep_one aP) (one_cons rfl (one_cons rfl (one_cons (rep_one aQ) one_nil))))) rfl fun w hm => gE (gR (gM rfl (gM rfl (gY (yn (hm.blk_at 0 rfl) isAgg71 sizeOf71 rfl) (gb fun aA aV => gf rfl (fun a hf => e_callv hf rfl rfl rfl (hfn1 _ aB aH (hm.now aO) aI (hm.now aP) aJ (hm.now aQ) _ hm.below aV)) ?_)))))))
   rintro aj w ⟨aE, aF, aG, rfl, hB⟩
   replace hm := hm.give hB; clear hB
   refine gf rfl (fun a hf => e_build (vs := #[(0, (.agg #[aE, aF, (nV aA.jump), (nV aA.on), aG]))]) (cs := [aE, aF, (nV aA.jump), (nV aA.on), aG]) et_57 hf hm rfl rfl (by kernel_rfl) rfl rfl) ?_
   rintro _ w ⟨aL, rfl, hm⟩
   replace hm := hm.els_nil (α := Block_)
   replace hm := (mk_Block_ aA.jump aA.on hm 2 3 4 rfl).pk (L' := [els [] ([] : List Block_), blk aL [aE, aF, (nV aA.jump), (nV aA.on), aG] 71, ow [aE, aF, (nV aA.jump), (nV aA.on), aG] (aA : Block_), blk aK [aH, aI, (nV aB.jump), (nV aB.on), aJ] 71, ow [aD] aC]) [0, 1, 2, 5, 6] rfl rfl
   replace hm := (hm.els_cons 0 2 (by decide) rfl rfl).pk (L' := [els [aE, aF, (nV aA.jump), (nV aA.on), aG] ([aA] : List Block_), blk aL [aE, aF, (nV aA.jump), (nV aA.on), aG] 71, blk aK [aH, aI, (nV aB.jump), (nV aB.on), aJ] 71, ow [aD] aC]) [0, 1, 3, 4] rfl rfl
   replace hm := (hm.lit_els 1 0 (by decide) rfl rfl rfl rfl).pk (L' := [ow [(sV aL 0 1 1)] ([aA] : List Block_), blk aK [aH, aI, (nV aB.jump), (nV aB.on), aJ] 71, ow [aD] aC]) [1, 2, 3] rfl rfl
   refine gb fun ak aW => ?_
   obtain ⟨aX, aY⟩ := appM_some.1 aW
   replace hm := (hm.both 2 0 (by decide) rfl rfl).pk (L' := [blk aK [aH, aI, (nV aB.jump), (nV aB.on), aJ] 71, both (ow [aD] aC) (ow [(sV aL 0 1 1)] ([aA] : List Block_))]) [1, 2] rfl rfl
   refine gf rfl (fun a hf => e_appendD (xs := aC) (ys := ([aA] : List Block_)) 1 et_57 hf hm rfl rfl rfl rfl aX) ?_
   rintro aZ w hm
   rw [aY] at hm
   exact gA rfl (gE (gR (gP (by omega) (by omega) rfl (gM rfl (gE (gZe fun a hf => ⟨aZ, hf.sb rfl, hm.pk [1] rfl rfl⟩))))))
  repeat clear hm
  rintro al am a w ⟨aa, hf, hm⟩ an ao
  exact gv hf (gS (gR (gB rfl (gE (gS (go _ 11 rfl (decide_eq_false (by omega)) (gcf rfl (gXt (gHh (gS (gR (gM rfl (gA rfl (gE (gRt (gr1 results70 rfl ⟨aa, rfl, hm.pk [0] rfl rfl⟩))))))))))))))))
theorem impl_mapped_impl_Phi_impl_Phi_ok (w0 : World) (list : List Phi_) (v1 : Value) (h1 : GT.rep (hp w0) [v1] list) (f : Phi_ → Option Phi_) (fv1 : Value) (hfn1 : ∀ (w : World) (y0 : Phi_) (z1 : Value) (_ : GT.rep (hp w) [z1] y0.args) (r : Phi_), Below w0.heap.size w0 w → f y0 = some r → FnOk Try.prog fv1 [(.agg #[(nV y0.to), z1])] w (fun v w' => ∃ (x1 : Value), v = (.agg #[(nV r.to), x1]) ∧ Mem w (hp w) w' [ow [x1] r.args])) :
    ConM Try.prog 92 [v1, fv1] w0 (impl_mapped_impl_Phi_impl_Phi list f) fun r v w' => ∃ (x1 : Value), v = x1 ∧ Mem w0 (hp w0) w' [ow [x1] r] := by
  unfold impl_mapped_impl_Phi_impl_Phi
  refine gcon func92 rfl fun r => ?_
  have hm := Mem.start w0
  refine gS (gR (gA rfl (gE (gS (gR (gA rfl (gE (gS (gS (gR (gM rfl ?_)))))))))))
  obtain ⟨aL, aM, rfl, aV⟩ := ro_slice h1
  refine gY (yV st_68 rfl) (gM rfl (gE (gBk ?_)))
  replace hm := hm.nilow (α := Phi_)
  refine gNg (fun aJ aB a w => ∃ (aC : Value), St 22 [(1, fv1), (5, aC), (8, (.slice aL list.length aM)), (9, (nV ((list.length : Int)))), (10, (nV aJ))] w0 (hp w0) [ow [aC] aB] a w) (fun a hf => ⟨(.slice none 0 0), hf.sb rfl, hm.pk [0] rfl rfl⟩) ?_ ?_
  ·
   repeat clear hm
   rintro _ _ aJ aB a w ⟨aC, hf, hm⟩ aW aX aY _
   refine gv hf (gS (gR (gB rfl (gE (gS (go _ 11 rfl (decide_eq_true (by omega)) (gct rfl (gSk (gS (gBk (gS (gR (gg fun aE aN aI => ?_)))))))))))))
   obtain ⟨aZ, aa, ab, he⟩ := idx_form' h1 aI
   obtain ⟨rfl, _, rfl⟩ := sl3 he
   obtain ⟨aF, aO, aK⟩ := rk_Phi_ h1 aI
   refine gI st_68 aN (idx_lt aI) rfl (gY (yn (aO.mono hm.lez) isAgg66 sizeOf66 rfl) (gAl hm zeroValue66 rfl fun aG w hm => gSN hm 0 sizeOf66 (one_cons rfl (one_cons (rep_one aK) one_nil)) rfl fun w hm => gE (gR (gM rfl (gM rfl (gY (yn (hm.blk_at 0 rfl) isAgg66 sizeOf66 rfl) (gb fun aA aP => gf rfl (fun a hf => e_callv hf rfl rfl rfl (hfn1 _ aE aF (hm.now aK) _ hm.below aP)) ?_)))))))
   rintro ac w ⟨aD, rfl, hB⟩
   replace hm := hm.give hB; clear hB
   refine gf rfl (fun a hf => e_build (vs := #[(0, (.agg #[(nV aA.to), aD]))]) (cs := [(nV aA.to), aD]) et_68 hf hm rfl rfl (by kernel_rfl) rfl rfl) ?_
   rintro _ w ⟨aH, rfl, hm⟩
   replace hm := hm.els_nil (α := Phi_)
   replace hm : Mem w0 (hp w0) _ [els [] ([] : List Phi_), blk aH [(nV aA.to), aD] 66, ow [(nV aA.to), aD] (aA : Phi_), blk aG [(nV aE.to), aF] 66, ow [aC] aB] := mk_Phi_ aA.to hm 2 rfl
   replace hm := (hm.els_cons 0 2 (by decide) rfl rfl).pk (L' := [els [(nV aA.to), aD] ([aA] : List Phi_), blk aH [(nV aA.to), aD] 66, blk aG [(nV aE.to), aF] 66, ow [aC] aB]) [0, 1, 3, 4] rfl rfl
   replace hm := (hm.lit_els 1 0 (by decide) rfl rfl rfl rfl).pk (L' := [ow [(sV aH 0 1 1)] ([aA] : List Phi_), blk aG [(nV aE.to), aF] 66, ow [aC] aB]) [1, 2, 3] rfl rfl
   refine gb fun ae aQ => ?_
   obtain ⟨aR, aS⟩ := appM_some.1 aQ
   replace hm := (hm.both 2 0 (by decide) rfl rfl).pk (L' := [blk aG [(nV aE.to), aF] 66, both (ow [aC] aB) (ow [(sV aH 0 1 1)] ([aA] : List Phi_))]) [1, 2] rfl rfl
   refine gf rfl (fun a hf => e_appendD (xs := aB) (ys := ([aA] : List Phi_)) 1 et_68 hf hm rfl rfl rfl rfl aR) ?_
   rintro aT w hm
   rw [aS] at hm
   exact gA rfl (gE (gR (gP (by omega) (by omega) rfl (gM rfl (gE (gZe fun a hf => ⟨aT, hf.sb rfl, hm.pk [1] rfl rfl⟩))))))
  repeat clear hm
  rintro af ag a w ⟨aU, hf, hm⟩ ah ai
  exact gv hf (gS (gR (gB rfl (gE (gS (go _ 11 rfl (decide_eq_false (by omega)) (gcf rfl (gXt (gHh (gS (gR (gM rfl (gA rfl (gE (gRt (gr1 results92 rfl ⟨aU, rfl, hm.pk [0] rfl rfl⟩))))))))))))))))
theorem impl_clonePhi_ok (w0 : World) (f : Phi_) (v1 : Value) (h1 : GT.rep (hp w0) [v1] f.args) :
    ConM Try.prog 93 [(.agg #[(nV f.to), v1])] w0 (impl_clonePhi f) fun r v w' => ∃ (x1 : Value), v = (.agg #[(nV r.to), x1]) ∧ Mem w0 (hp w0) w' [ow [x1] r.args] := by
  unfold impl_clonePhi
  refine gcon func93 rfl fun r => ?_
  have hm := Mem.start w0
  refine gS (gR (gBx hm rfl fun aD w hm => gAl hm zeroValue66 rfl fun aE w hm => gE (gS (gW (.p 0 (.p 2 (.q 1 (.e 3 (.e 4 (.p 5 (.e 6 .fin .nil)) .nil) .nil)))) [3, 4] [0, 2, 5] hm [0, 1] [blk aE [(nV 0), (.slice none 0 0)] 66, blk aD [(nV f.to), v1] 66] rfl mxo (by kernel_rfl) (fun _ _ _ h => h.2) fun w hm hS => tP rfl (fun w => yF fo_66_0 rfl) (tP rfl (fun w => yF fo_66_1 rfl) (tQ rfl hS (fun w hm => yL hm 1 isAgg3 rfl) (tO (tY rfl (yL hm 1 isAgg26 rfl) (tAs hS (tO (gb fun aA aF => tf rfl rfl (fun a hf => e_call hf rfl call36 rfl (slices_Clone_S_int_int_ok _ f.args v1 (hm.now h1) _ aF)) ?_)))))))))))
  rintro aG w ⟨_, rfl, hB⟩
  replace hm := hm.give hB; clear hB
  refine tAk hm [1, 2] rfl fun hS => ?_
  obtain ⟨aB, aC, rfl, aH⟩ := ro_slice (hm.ow_rep 0 rfl)
  refine tP rfl (fun w => yG rfl (y_build (vs := [(0, (nV f.to)), (1, (.slice aB aA.length aC))]) (cs := #[(nV f.to), (.slice aB aA.length aC)]) rfl rfl (by kernel_rfl))) (tO (tf0 rfl rfl (fun a hf => e_storeN 1 hf hm rfl sizeOf66 rfl rfl rfl (one_cons rfl (one_cons rfl one_nil)) rfl rfl) ?_))
  rintro _ w hm
  exact tAn rfl (tE (gRt (grc 1 results93 hm rfl isAgg66 sizeOf66 ⟨(.slice aB aA.length aC), rfl, hm.pk [0] rfl rfl⟩)))
theorem impl_mapped_impl_Ins_impl_Ins_ok (w0 : World) (list : List Ins_) (v1 : Value) (h1 : GT.rep (hp w0) [v1] list) (f : Ins_ → Option Ins_) (fv1 : Value) (hfn1 : ∀ (w : World) (y0 : Ins_) (z1 : Value) (_ : GT.rep (hp w) [z1] y0.args) (r : Ins_), Below w0.heap.size w0 w → f y0 = some r → FnOk Try.prog fv1 [(.agg #[(nV y0.op), (nV y0.to), z1, (nV y0.n_)])] w (fun v w' => ∃ (x1 : Value), v = (.agg #[(nV r.op), (nV r.to), x1, (nV r.n_)]) ∧ Mem w (hp w) w' [ow [x1] r.args])) :
    ConM Try.prog 94 [v1, fv1] w0 (impl_mapped_impl_Ins_impl_Ins list f) fun r v w' => ∃ (x1 : Value), v = x1 ∧ Mem w0 (hp w0) w' [ow [x1] r] := by
  unfold impl_mapped_impl_Ins_impl_Ins
  refine gcon func94 rfl fun r => ?_
  have hm := Mem.start w0
  refine gS (gR (gA rfl (gE (gS (gR (gA rfl (gE (gS (gS (gR (gM rfl ?_)))))))))))
  obtain ⟨aL, aM, rfl, aV⟩ := ro_slice h1
  refine gY (yV st_69 rfl) (gM rfl (gE (gBk ?_)))
  replace hm := hm.nilow (α := Ins_)
  refine gNg (fun aJ aC a w => ∃ (aD : Value), St 22 [(1, fv1), (5, aD), (8, (.slice aL list.length aM)), (9, (nV ((list.length : Int)))), (10, (nV aJ))] w0 (hp w0) [ow [aD] aC] a w) (fun a hf => ⟨(.slice none 0 0), hf.sb rfl, hm.pk [0] rfl rfl⟩) ?_ ?_
  ·
   repeat clear hm
   rintro _ _ aJ aC a w ⟨aD, hf, hm⟩ aW aX aY _
   refine gv hf (gS (gR (gB rfl (gE (gS (go _ 11 rfl (decide_eq_true (by omega)) (gct rfl (gSk (gS (gBk (gS (gR (gg fun aB aN aI => ?_)))))))))))))
   obtain ⟨aZ, aa, ab, he⟩ := idx_form' h1 aI
   obtain ⟨rfl, _, rfl⟩ := sl3 he
   obtain ⟨aF, aO, aK⟩ := rk_Ins_ h1 aI
   refine gI st_69 aN (idx_lt aI) rfl (gY (yn (aO.mono hm.lez) isAgg75 sizeOf75 rfl) (gAl hm zeroValue75 rfl fun aG w hm => gSN hm 0 sizeOf75 (one_cons rfl (one_cons rfl (one_cons (rep_one aK) (one_cons rfl one_nil)))) rfl fun w hm => gE (gR (gM rfl (gM rfl (gY (yn (hm.blk_at 0 rfl) isAgg75 sizeOf75 rfl) (gb fun aA aP => gf rfl (fun a hf => e_callv hf rfl rfl rfl (hfn1 _ aB aF (hm.now aK) _ hm.below aP)) ?_)))))))
   rintro ac w ⟨aE, rfl, hB⟩
   replace hm := hm.give hB; clear hB
   refine gf rfl (fun a hf => e_build (vs := #[(0, (.agg #[(nV aA.op), (nV aA.to), aE, (nV aA.n_)]))]) (cs := [(nV aA.op), (nV aA.to), aE, (nV aA.n_)]) et_69 hf hm rfl rfl (by kernel_rfl) rfl rfl) ?_
   rintro _ w ⟨aH, rfl, hm⟩
   replace hm := hm.els_nil (α := Ins_)
   replace hm : Mem w0 (hp w0) _ [els [] ([] : List Ins_), blk aH [(nV aA.op), (nV aA.to), aE, (nV aA.n_)] 75, ow [(nV aA.op), (nV aA.to), aE, (nV aA.n_)] (aA : Ins_), blk aG [(nV aB.op), (nV aB.to), aF, (nV aB.n_)] 75, ow [aD] aC] := mk_Ins_ aA.op aA.to aA.n_ hm 2 rfl
   replace hm := (hm.els_cons 0 2 (by decide) rfl rfl).pk (L' := [els [(nV aA.op), (nV aA.to), aE, (nV aA.n_)] ([aA] : List Ins_), blk aH [(nV aA.op), (nV aA.to), aE, (nV aA.n_)] 75, blk aG [(nV aB.op), (nV aB.to), aF, (nV aB.n_)] 75, ow [aD] aC]) [0, 1, 3, 4] rfl rfl
   replace hm := (hm.lit_els 1 0 (by decide) rfl rfl rfl rfl).pk (L' := [ow [(sV aH 0 1 1)] ([aA] : List Ins_), blk aG [(nV aB.op), (nV aB.to), aF, (nV aB.n_)] 75, ow [aD] aC]) [1, 2, 3] rfl rfl
   refine gb fun ae aQ => ?_
   obtain ⟨aR, aS⟩ := appM_some.1 aQ
   replace hm := (hm.both 2 0 (by decide) rfl rfl).pk (L' := [blk aG [(nV aB.op), (nV aB.to), aF, (nV aB.n_)] 75, both (ow [aD] aC) (ow [(sV aH 0 1 1)] ([aA] : List Ins_))]) [1, 2] rfl rfl
   refine gf rfl (fun a hf => e_appendD (xs := aC) (ys := ([aA] : List Ins_)) 1 et_69 hf hm rfl rfl rfl rfl aR) ?_
   rintro aT w hm
   rw [aS] at hm
   exact gA rfl (gE (gR (gP (by omega) (by omega) rfl (gM rfl (gE (gZe fun a hf => ⟨aT, hf.sb rfl, hm.pk [1] rfl rfl⟩))))))
  repeat clear hm
  rintro af ag a w ⟨aU, hf, hm⟩ ah ai
  exact gv hf (gS (gR (gB rfl (gE (gS (go _ 11 rfl (decide_eq_false (by omega)) (gcf rfl (gXt (gHh (gS (gR (gM rfl (gA rfl (gE (gRt (gr1 results94 rfl ⟨aU, rfl, hm.pk [0] rfl rfl⟩))))))))))))))))
theorem impl_cloneIns_ok (w0 : World) (x_ : Ins_) (v1 : Value) (h1 : GT.rep (hp w0) [v1] x_.args) :
    ConM Try.prog 95 [(.agg #[(nV x_.op), (nV x_.to), v1, (nV x_.n_)])] w0 (impl_cloneIns x_) fun r v w' => ∃ (x1 : Value), v = (.agg #[(nV r.op), (nV r.to), x1, (nV r.n_)]) ∧ Mem w0 (hp w0) w' [ow [x1] r.args] := by
  unfold impl_cloneIns
  refine gcon func95 rfl fun r => ?_
  have hm := Mem.start w0
  refine gS (gR (gBx hm rfl fun aB w hm => gAl hm zeroValue75 rfl fun aC w hm => gE (gS (gR (gF fo_75_2 rfl (gL hm 1 isAgg26 rfl (gCg rfl call36 (slices_Clone_S_int_int_ok _ x_.args v1 (hm.now h1)) ?_)))))))
  rintro aD aE aA w ⟨_, rfl, hB⟩
  replace hm := hm.give hB; clear hB
  exact gF fo_75_2 rfl (gS1 hm 2 sizeOf26 (rep_one (hm.ow_rep 0 rfl)) rfl fun w hm => gE (gS (gR (gY (yn (hm.blk_at 2 rfl) isAgg75 sizeOf75 rfl) (gSN hm 1 sizeOf75 (one_cons rfl (one_cons rfl (one_cons (rep_one (hm.ow_rep 0 rfl)) (one_cons rfl one_nil)))) rfl fun w hm => gE (gRt (grc 1 results95 hm rfl isAgg75 sizeOf75 ⟨aA, rfl, hm.pk [0] rfl rfl⟩)))))))
theorem impl_cloneBlock_ok (w0 : World) (b_ : Block_) (v1 : Value) (h1 : GT.rep (hp w0) [v1] b_.phis) (v2 : Value) (h2 : GT.rep (hp w0) [v2] b_.ins) (v3 : Value) (h3 : GT.rep (hp w0) [v3] b_.next_) :
    ConM Try.prog 71 [(.agg #[v1, v2, (nV b_.jump), (nV b_.on), v3])] w0 (impl_cloneBlock b_) fun r v w' => ∃ (x1 : Value) (x2 : Value) (x3 : Value), v = (.agg #[x1, x2, (nV r.jump), (nV r.on), x3]) ∧ Mem w0 (hp w0) w' [ow [x1] r.phis, ow [x2] r.ins, ow [x3] r.next_] := by
  unfold impl_cloneBlock
  refine gcon func71 rfl fun r => ?_
  have hm := Mem.start w0
  refine gS (gR (gBx hm rfl fun aF w hm => gAl hm zeroValue71 rfl fun aG w hm => gE (gS (gR (gF fo_71_0 rfl (gL hm 1 isAgg68 rfl (gCg rfl call92 (impl_mapped_impl_Phi_impl_Phi_ok _ b_.phis v1 (hm.now h1) (fun y0 => impl_clonePhi y0) (.func (.func 93) #[] #[]) (fun w y0 aA aB r hB hq => ⟨93, [], rfl, call93, impl_clonePhi_ok w y0 aA aB  r hq⟩)) ?_)))))))
  rintro aH aI aC w ⟨_, rfl, hB⟩
  replace hm := hm.give hB; clear hB
  refine gF fo_71_0 rfl (gS1 hm 2 sizeOf68 (rep_one (hm.ow_rep 0 rfl)) rfl fun w hm => gE (gS (gR (gF fo_71_1 rfl (gL hm 2 isAgg69 rfl (gCg rfl call94 (impl_mapped_impl_Ins_impl_Ins_ok _ b_.ins v2 (hm.now h2) (fun y0 => impl_cloneIns y0) (.func (.func 95) #[] #[]) (fun w y0 aA aB r hB hq => ⟨95, [], rfl, call95, impl_cloneIns_ok w y0 aA aB  r hq⟩)) ?_))))))
  rintro aJ aK aD w ⟨_, rfl, hB⟩
  replace hm := hm.give hB; clear hB
  refine gF fo_71_1 rfl (gS1 hm 3 sizeOf69 (rep_one (hm.ow_rep 0 rfl)) rfl fun w hm => gE (gS (gR (gF fo_71_4 rfl (gL hm 3 isAgg26 rfl (gCg rfl call36 (slices_Clone_S_int_int_ok _ b_.next_ v3 (hm.now h3)) ?_))))))
  rintro aL aM aE w ⟨_, rfl, hB⟩
  replace hm := hm.give hB; clear hB
  exact gF fo_71_4 rfl (gS1 hm 4 sizeOf26 (rep_one (hm.ow_rep 0 rfl)) rfl fun w hm => gE (gS (gR (gY (yn (hm.blk_at 4 rfl) isAgg71 sizeOf71 rfl) (gSN hm 3 sizeOf71 (one_cons (rep_one (hm.ow_rep 2 rfl)) (one_cons (rep_one (hm.ow_rep 1 rfl)) (one_cons rfl (one_cons rfl (one_cons (rep_one (hm.ow_rep 0 rfl)) one_nil))))) rfl fun w hm => gE (gRt (grc 3 results71 hm rfl isAgg71 sizeOf71 ⟨aC, aD, aE, rfl, hm.pk [2, 1, 0] rfl rfl⟩)))))))
theorem impl_cloneCode_ok (w0 : World) (c_ : Code_) (v1 : Value) (h1 : GT.rep (hp w0) [v1] c_.blocks) :
    ConM Try.prog 42 [(.agg #[(nV c_.params), (nV c_.regs), v1])] w0 (impl_cloneCode c_) fun r v w' => ∃ (x1 : Value), v = (.agg #[(nV r.params), (nV r.regs), x1]) ∧ Mem w0 (hp w0) w' [ow [x1] r.blocks] := by
  unfold impl_cloneCode
  refine gcon func42 rfl fun r => ?_
  have hm := Mem.start w0
  refine gS (gR (gBx hm rfl fun aH w hm => gAl hm zeroValue59 rfl fun aI w hm => gE (gS (gR (gF fo_59_2 rfl (gL hm 1 isAgg57 rfl (gCg rfl call70 (impl_mapped_impl_Block_impl_Block_ok _ c_.blocks v1 (hm.now h1) (fun y0 => impl_cloneBlock y0) (.func (.func 71) #[] #[]) (fun w y0 aA aB aC aD aE aF r hB hq => ⟨71, [], rfl, call71, impl_cloneBlock_ok w y0 aA aB aC aD aE aF  r hq⟩)) ?_)))))))
  rintro aJ aK aG w ⟨_, rfl, hB⟩
  replace hm := hm.give hB; clear hB
  exact gF fo_59_2 rfl (gS1 hm 2 sizeOf57 (rep_one (hm.ow_rep 0 rfl)) rfl fun w hm => gE (gS (gR (gY (yn (hm.blk_at 2 rfl) isAgg59 sizeOf59 rfl) (gSN hm 1 sizeOf59 (one_cons rfl (one_cons rfl (one_cons (rep_one (hm.ow_rep 0 rfl)) one_nil))) rfl fun w hm => gE (gRt (grc 1 results42 hm rfl isAgg59 sizeOf59 ⟨aG, rfl, hm.pk [0] rfl rfl⟩)))))))
theorem impl_tight_1_ok (w0 : World) (hz : Heap) (r_ : Int) (hx0 : Heap) (bp0 ip0 : Nat) (c0_ : MapS Int) (bpc0 : Nat) (v1p : Value) (hm0 : Mem w0 hz w0 [celc hx0 bp0 ip0 (nV r_), blk bpc0 [v1p] 88, owm v1p c0_]) :
    ConM Try.prog 44 [(.pointer (some ⟨bp0, ip0, none⟩)), (pV bpc0)] w0 (impl_tight_1 r_ c0_) fun r v w' => ∃ (x1 : Value), v = (.tuple #[]) ∧ Mem w0 hz w' [celc hx0 bp0 ip0 (nV r.1), blk bpc0 [x1] 88, owm x1 r.2] := by
  unfold impl_tight_1
  refine gcon func44 rfl fun r => ?_
  have hm := hm0
  refine gS (gW (.p 1 (.p 2 (.q 0 (.e 3 (.e 4 (.p 5 (.p 6 (.p 7 (.p 8 (.p 9 .fin))))) .nil) .nil)))) [3] [1, 2, 5, 6, 7, 8, 9] hm [0, 1, 2] [celc hx0 bp0 ip0 (nV r_), blk bpc0 [v1p] 88, owm v1p c0_] rfl mxo (by kernel_rfl) (fun _ _ _ h => h.2) fun w hm hS => tP rfl (fun w => yM rfl) (tP rfl (fun w => yG rfl (y_nilptr rfl rfl)) (tQ rfl hS (fun w hm => yL hm 1 isAgg88 rfl) (tO (tY rfl (yl isAgg3 (hm.cel_cell 0 rfl) rfl) (tAs hS (tO (tY rfl (yG rfl (y_lookI2 (key := r_) (m := (c0_ : MapS Int)) underlying3 underlying88 zeroValue3 (hm.owm_rep 2 rfl) rfl rfl rfl)) (tAn rfl (tP rfl (fun w => yM rfl) (tP rfl (fun w => yX rfl) (tP rfl (fun w => yX rfl) (tP rfl (fun w => yA rfl) (tP rfl (fun w => yA rfl) (tE (gS (gS (gR (gM rfl (gN rfl (gE (gJ hm (fun aA => [(0, (.pointer (some ⟨bp0, ip0, none⟩))), (3, (nV aA.1))]) (fun aA => [celc hx0 bp0 ip0 (nV r_), blk bpc0 [v1p] 88, owm v1p aA.2]) (fun aA => ?_) ?_))))))))))))))))))))))
  ·
   refine gsn 14 rfl (fun aB => ?_) fun aB => ?_
   ·
    refine gct rfl (gS (gR (gL hm 1 isAgg88 rfl (gY (yG rfl (y_lenS (m := (c0_ : MapS Int)) underlying88 (hm.owm_rep 2 rfl) rfl rfl)) (gA rfl (gE (gW (.p 1 (.p 2 (.p 4 (.q 0 (.e 3 (.e 5 .fin .nil) .nil))))) [3] [1, 2, 4] hm [0, 1, 2] [celc hx0 bp0 ip0 (nV r_), blk bpc0 [v1p] 88, owm v1p c0_] rfl mxo (by kernel_rfl) (fun _ _ _ h => h.2) fun w hm hS => tP rfl (fun w => yM rfl) (tP rfl (fun w => yG rfl (y_nilptr rfl rfl)) (tP rfl (fun w => yM rfl) (tQ rfl hS (fun w hm => yL hm 1 isAgg88 rfl) (tO (tY rfl (yl isAgg3 (hm.cel_cell 0 rfl) rfl) (tAs hS (tO (tf0 rfl rfl (fun a hf => e_insM (β := Int) (key := r_) (u := (MapS.len c0_)) (b := false) 2 underlying3 underlying88 hf hm rfl rfl rfl rfl rfl) ?_)))))))))))))))
    rintro _ w hm
    exact tAn rfl (tE (gz hm [0, 1, 2] rfl))
   exact gcf rfl (gSk (gz hm [0, 1, 2] rfl))
  repeat clear hm
  intro aA w hm
  refine gR (gM rfl (gM rfl (gY (yG rfl (y_nilptr rfl rfl)) (gf0 rfl (fun a hf => e_storeC 0 hf hm rfl sizeOf3 rfl rfl rfl rfl) ?_))))
  rintro _ w hm
  exact gE (gre results44 ⟨v1p, rfl, hm.pk [0, 1, 2] rfl rfl⟩)
theorem er_sB : SliceTy Try.prog 57 71 5 := ⟨underlying57, sizeOf71⟩
theorem er_sP : SliceTy Try.prog 68 66 2 := ⟨underlying68, sizeOf66⟩
theorem er_sI : SliceTy Try.prog 69 75 4 := ⟨underlying69, sizeOf75⟩
theorem er_sN : SliceTy Try.prog 26 3 1 := ⟨underlying26, sizeOf3⟩
theorem er_C2 : FieldOff Try.prog 59 2 2 := by have h := FieldOff.mk (k := 2) underlying59 rfl sizeOf57; exact h
theorem er_B0 : FieldOff Try.prog 71 0 0 := by have h := FieldOff.mk (k := 0) underlying71 rfl sizeOf68; exact h
theorem er_B1 : FieldOff Try.prog 71 1 1 := by have h := FieldOff.mk (k := 1) underlying71 rfl sizeOf69; exact h
theorem er_B2 : FieldOff Try.prog 71 2 2 := by have h := FieldOff.mk (k := 2) underlying71 rfl sizeOf3; exact h
theorem er_B3 : FieldOff Try.prog 71 3 3 := by have h := FieldOff.mk (k := 3) underlying71 rfl sizeOf3; exact h
theorem er_P0 : FieldOff Try.prog 66 0 0 := by have h := FieldOff.mk (k := 0) underlying66 rfl sizeOf3; exact h
theorem er_P1 : FieldOff Try.prog 66 1 1 := by have h := FieldOff.mk (k := 1) underlying66 rfl sizeOf26; exact h
theorem er_I0 : FieldOff Try.prog 75 0 0 := by have h := FieldOff.mk (k := 0) underlying75 rfl sizeOf3; exact h
theorem er_I1 : FieldOff Try.prog 75 1 1 := by have h := FieldOff.mk (k := 1) underlying75 rfl sizeOf3; exact h
theorem er_I2 : FieldOff Try.prog 75 2 2 := by have h := FieldOff.mk (k := 2) underlying75 rfl sizeOf26; exact h
section
variable {F : Nat → Prop} {h : Heap} {b off len cap b2 o2 l2 c2 b3 o3 l3 c3 i k j : Nat} {bl : List Block_} {B : Block_} {p : Phi_} {q : Ins_} {n : Int} {v1 v2 v3 va : Value} {j1 j2 : Int}
theorem er_arg {xs : List Int} (hx : xs[j]? = some n) (hc : CellsAt h b3 (o3 + j * 1) [.int .i64 n]) : ∀ G, GT.own G h [.slice (some ⟨b3, o3, none⟩) l3 c3] xs → Deep G h [.slice (some ⟨b3, o3, none⟩) l3 c3] b3 (o3 + j * 1) n (fun y => xs.set j y) := fun G ho =>
  list_shal (d := 0) ho hx hc rfl fun _ ho => shal_int ho
theorem er_phiT (hp : B.phis[k]? = some p) (hc : CellsAt h b2 (o2 + k * 2) [.int .i64 p.to, va]) : ∀ G, GT.own G h [.slice (some ⟨b2, o2, none⟩) l2 c2] B.phis → Deep G h [.slice (some ⟨b2, o2, none⟩) l2 c2] b2 (o2 + k * 2 + 0) p.to (fun y => B.phis.set k { p with to := y }) := fun G ho =>
  list_shal (d := 0) ho hp hc rfl fun G ho => fst_shal (α := Int) (β := List Int) (p := (p.to, p.args)) (c := [.int .i64 p.to]) (d := [va]) ho rfl rfl fun _ ho => shal_int ho
theorem er_phiA (hp : B.phis[k]? = some p) (hc : CellsAt h b2 (o2 + k * 2) [.int .i64 p.to, .slice (some ⟨b3, o3, none⟩) l3 c3]) (hx : p.args[j]? = some n) (hn : CellsAt h b3 (o3 + j * 1) [.int .i64 n]) : ∀ G, GT.own G h [.slice (some ⟨b2, o2, none⟩) l2 c2] B.phis → Deep G h [.slice (some ⟨b2, o2, none⟩) l2 c2] b3 (o3 + j * 1) n (fun y => B.phis.set k { p with args := p.args.set j y }) := fun G ho =>
  list_deep ho hp hc rfl fun G ho => snd_deep (α := Int) (β := List Int) (p := (p.to, p.args)) (c := [.int .i64 p.to]) (d := [.slice (some ⟨b3, o3, none⟩) l3 c3]) ho rfl rfl (er_arg hx hn)
theorem er_insT (hp : B.ins[k]? = some q) (hc : CellsAt h b2 (o2 + k * 4) [.int .i64 q.op, .int .i64 q.to, va, .int .i64 q.n_]) : ∀ G, GT.own G h [.slice (some ⟨b2, o2, none⟩) l2 c2] B.ins → Deep G h [.slice (some ⟨b2, o2, none⟩) l2 c2] b2 (o2 + k * 4 + 1) q.to (fun y => B.ins.set k { q with to := y }) := fun G ho =>
  list_shal (d := 1) ho hp hc rfl fun G ho => snd_shal (α := Int) (β := Int × List Int × Int) (p := (q.op, q.to, q.args, q.n_)) (c := [.int .i64 q.op]) (d := [.int .i64 q.to, va, .int .i64 q.n_]) ho rfl rfl fun G ho =>
    fst_shal (α := Int) (β := List Int × Int) (p := (q.to, q.args, q.n_)) (c := [.int .i64 q.to]) (d := [va, .int .i64 q.n_]) ho rfl rfl fun _ ho => shal_int ho
theorem er_insA (hp : B.ins[k]? = some q) (hc : CellsAt h b2 (o2 + k * 4) [.int .i64 q.op, .int .i64 q.to, .slice (some ⟨b3, o3, none⟩) l3 c3, .int .i64 q.n_]) (hx : q.args[j]? = some n) (hn : CellsAt h b3 (o3 + j * 1) [.int .i64 n]) : ∀ G, GT.own G h [.slice (some ⟨b2, o2, none⟩) l2 c2] B.ins → Deep G h [.slice (some ⟨b2, o2, none⟩) l2 c2] b3 (o3 + j * 1) n (fun y => B.ins.set k { q with args := q.args.set j y }) := fun G ho =>
  list_deep ho hp hc rfl fun G ho => snd_deep (α := Int) (β := Int × List Int × Int) (p := (q.op, q.to, q.args, q.n_)) (c := [.int .i64 q.op]) (d := [.int .i64 q.to, .slice (some ⟨b3, o3, none⟩) l3 c3, .int .i64 q.n_]) ho rfl rfl fun G ho =>
    snd_deep (α := Int) (β := List Int × Int) (p := (q.to, q.args, q.n_)) (c := [.int .i64 q.to]) (d := [.slice (some ⟨b3, o3, none⟩) l3 c3, .int .i64 q.n_]) ho rfl rfl fun G ho =>
      fst_deep (α := List Int) (β := Int) (p := (q.args, q.n_)) (c := [.slice (some ⟨b3, o3, none⟩) l3 c3]) (d := [.int .i64 q.n_]) ho rfl rfl (er_arg hx hn)
theorem er_inP {i2 : Nat} {g : Int → List Phi_} (hb : bl[i]? = some B) (hc : CellsAt h b (off + i * 5) [v1, v2, .int .i64 B.jump, .int .i64 B.on, v3]) (hs : ∀ G, GT.own G h [v1] B.phis → Deep G h [v1] b2 i2 n g) : ∀ F, GT.own F h [.slice (some ⟨b, off, none⟩) len cap] bl → Deep F h [.slice (some ⟨b, off, none⟩) len cap] b2 i2 n (fun y => bl.set i { B with phis := g y }) := fun F ho =>
  list_deep ho hb hc rfl fun G ho => fst_deep (α := List Phi_) (β := List Ins_ × Int × Int × List Int) (p := (B.phis, B.ins, B.jump, B.on, B.next_)) (c := [v1]) (d := [v2, .int .i64 B.jump, .int .i64 B.on, v3]) ho rfl rfl hs
theorem er_inI {i2 : Nat} {g : Int → List Ins_} (hb : bl[i]? = some B) (hc : CellsAt h b (off + i * 5) [v1, v2, .int .i64 B.jump, .int .i64 B.on, v3]) (hs : ∀ G, GT.own G h [v2] B.ins → Deep G h [v2] b2 i2 n g) : ∀ F, GT.own F h [.slice (some ⟨b, off, none⟩) len cap] bl → Deep F h [.slice (some ⟨b, off, none⟩) len cap] b2 i2 n (fun y => bl.set i { B with ins := g y }) := fun F ho =>
  list_deep ho hb hc rfl fun G ho => snd_deep (α := List Phi_) (β := List Ins_ × Int × Int × List Int) (p := (B.phis, B.ins, B.jump, B.on, B.next_)) (c := [v1]) (d := [v2, .int .i64 B.jump, .int .i64 B.on, v3]) ho rfl rfl fun G ho =>
    fst_deep (α := List Ins_) (β := Int × Int × List Int) (p := (B.ins, B.jump, B.on, B.next_)) (c := [v2]) (d := [.int .i64 B.jump, .int .i64 B.on, v3]) ho rfl rfl hs
theorem er_on (hb : bl[i]? = some B) (hc : CellsAt h b (off + i * 5) [v1, v2, .int .i64 B.jump, .int .i64 B.on, v3]) : ∀ F, GT.own F h [.slice (some ⟨b, off, none⟩) len cap] bl → Deep F h [.slice (some ⟨b, off, none⟩) len cap] b (off + i * 5 + 3) B.on (fun y => bl.set i { B with on := y }) := fun F ho =>
  list_shal (d := 3) ho hb hc rfl fun G ho => snd_shal (α := List Phi_) (β := List Ins_ × Int × Int × List Int) (p := (B.phis, B.ins, B.jump, B.on, B.next_)) (c := [v1]) (d := [v2, .int .i64 B.jump, .int .i64 B.on, v3]) (k := 2) ho rfl rfl fun G ho =>
    snd_shal (α := List Ins_) (β := Int × Int × List Int) (p := (B.ins, B.jump, B.on, B.next_)) (c := [v2]) (d := [.int .i64 B.jump, .int .i64 B.on, v3]) (k := 1) ho rfl rfl fun G ho =>
      snd_shal (α := Int) (β := Int × List Int) (p := (B.jump, B.on, B.next_)) (c := [.int .i64 B.jump]) (d := [.int .i64 B.on, v3]) (k := 0) ho rfl rfl fun G ho =>
        fst_shal (α := Int) (β := List Int) (p := (B.on, B.next_)) (c := [.int .i64 B.on]) (d := [v3]) ho rfl rfl fun _ ho => shal_int ho
end
section
variable {w0 w : World} {hz : Heap} {L : List Ch} {vf : Value} {σ : Type} {K : σ → Ch} {f : Int → σ → Option (Int × σ)} {b off len cap n : Nat} {l : Env} {bl : List Block_} {bs : List Block_ × σ} {i k j : Int} {ops : Array Oper} {Q : Exit → Act → World → Prop} {o : Oper} {rest : List Oper} {d : Nat} {ρ : Type} {r : ρ}
theorem er_call {m : Option ρ} {x y : Operand} {tys : Array TypeId} {cs : List Value} {α : Type} [GT α] {z : α} {s : σ} {C : Ch} {b2 i2 : Nat} {nn : Int} {yy : Int × σ} {g : Int → α} (hm : Mem w0 hz w [ow cs z, K s, C]) (hv : VisitS Try.prog vf f hz K) (hd : ∀ F, GT.own F (hp w) cs z → Deep F (hp w) cs b2 i2 nn g) (hy : f nn s = some yy)
    (h : (gd ops l o.guard, o.dst, Nat.blt d n, o.op, ev l x, evs l [y]) = (true, some d, true, .call { callee := .value x, args := #[y], argTypes := tys }, some vf, some [.pointer (some ⟨b2, i2, none⟩)]))
    (k : ∀ v w', Mem w0 hz w' [ow cs (g yy.1), K yy.2, C] → G m r n ((d, v) :: l) (wpList Try.prog ops Q rest) w') : G m r n l (wpList Try.prog ops Q (o :: rest)) w := by
  obtain ⟨h1, h2, h3, h4, h5, h6⟩ := t6 h
  have hm1 := hm.openCel hd
  obtain ⟨hz2, hle, hm2, _, hk⟩ := hm1.take2 (L1 := [celc (hp w) b2 i2 (.int .i64 nn), K s]) (L2 := [dho (hp w) b2 i2 cs g, C]) [0, 2] [1, 3] (by decide) rfl rfl
  refine gf (d := d) (by rw [h1, h2, h3]) (fun a hf => e_callv hf h4 h5 h6 (hv w hz2 (hp w) b2 i2 nn s yy hle hm2 hy)) ?_
  intro v w' hw
  exact k v w' ((hk _ _ hw).pk [0, 2, 1, 3] rfl rfl : Mem w0 hz w' [celc (hp w) b2 i2 (.int .i64 yy.1), dho (hp w) b2 i2 cs g, K yy.2, C]).shutCel
theorem er_PT_some {z : List Block_ × σ} (h : er_PT f i k bs = some z) : ∃ B p y, (0 ≤ i ∧ bs.1[i.toNat]? = some B) ∧ (0 ≤ k ∧ B.phis[k.toNat]? = some p) ∧ f p.to bs.2 = some y ∧ (bs.1.set i.toNat { B with phis := B.phis.set k.toNat { p with to := y.1 } }, y.2) = z := by
  obtain ⟨B, hB, h⟩ := bnd h; obtain ⟨p, hp, h⟩ := bnd h; obtain ⟨y, hy, h⟩ := bnd h
  exact ⟨B, p, y, getI_some.1 hB, getI_some.1 hp, hy, Option.some.inj h⟩
theorem er_PA_some {z : List Block_ × σ} (h : er_PA f i k j bs = some z) : ∃ B p n y, (0 ≤ i ∧ bs.1[i.toNat]? = some B) ∧ (0 ≤ k ∧ B.phis[k.toNat]? = some p) ∧ (0 ≤ j ∧ p.args[j.toNat]? = some n) ∧ f n bs.2 = some y ∧ (bs.1.set i.toNat { B with phis := B.phis.set k.toNat { p with args := p.args.set j.toNat y.1 } }, y.2) = z := by
  obtain ⟨B, hB, h⟩ := bnd h; obtain ⟨p, hp, h⟩ := bnd h; obtain ⟨n, hn, h⟩ := bnd h; obtain ⟨y, hy, h⟩ := bnd h
  exact ⟨B, p, n, y, getI_some.1 hB, getI_some.1 hp, getI_some.1 hn, hy, Option.some.inj h⟩
theorem er_IT_some {z : List Block_ × σ} (h : er_IT f i k bs = some z) : ∃ B p y, (0 ≤ i ∧ bs.1[i.toNat]? = some B) ∧ (0 ≤ k ∧ B.ins[k.toNat]? = some p) ∧ f p.to bs.2 = some y ∧ (bs.1.set i.toNat { B with ins := B.ins.set k.toNat { p with to := y.1 } }, y.2) = z := by
  obtain ⟨B, hB, h⟩ := bnd h; obtain ⟨p, hp, h⟩ := bnd h; obtain ⟨y, hy, h⟩ := bnd h
  exact ⟨B, p, y, getI_some.1 hB, getI_some.1 hp, hy, Option.some.inj h⟩
theorem er_IA_some {z : List Block_ × σ} (h : er_IA f i k j bs = some z) : ∃ B p n y, (0 ≤ i ∧ bs.1[i.toNat]? = some B) ∧ (0 ≤ k ∧ B.ins[k.toNat]? = some p) ∧ (0 ≤ j ∧ p.args[j.toNat]? = some n) ∧ f n bs.2 = some y ∧ (bs.1.set i.toNat { B with ins := B.ins.set k.toNat { p with args := p.args.set j.toNat y.1 } }, y.2) = z := by
  obtain ⟨B, hB, h⟩ := bnd h; obtain ⟨p, hp, h⟩ := bnd h; obtain ⟨n, hn, h⟩ := bnd h; obtain ⟨y, hy, h⟩ := bnd h
  exact ⟨B, p, n, y, getI_some.1 hB, getI_some.1 hp, getI_some.1 hn, hy, Option.some.inj h⟩
theorem er_B (hm : Mem w0 hz w (ow [.slice (some ⟨b, off, none⟩) len cap] bl :: L)) {B : Block_} (hB : bl[i.toNat]? = some B) : ∃ p1 n1 c1 p2 n2 c2 v3, CellsAt (hp w) b (off + i.toNat * 5) [.slice p1 n1 c1, .slice p2 n2 c2, .int .i64 B.jump, .int .i64 B.on, v3] ∧ GT.rep (hp w) [.slice p1 n1 c1] B.phis ∧ GT.rep (hp w) [.slice p2 n2 c2] B.ins ∧ (B.phis.length = n1 ∧ B.ins.length = n2) ∧ n1 ≤ 140737488355328 ∧ n2 ≤ 140737488355328 := by
  obtain ⟨v1, v2, v3, h1, h2, h3, _⟩ := rk_Block_ (hm.ow_rep 0 rfl) hB
  obtain ⟨p1, c1, rfl, l1⟩ := (rep_list.1 h2).len
  obtain ⟨p2, c2, rfl, l2⟩ := (rep_list.1 h3).len
  exact ⟨p1, _, c1, p2, _, c2, v3, h1, h2, h3, ⟨rfl, rfl⟩, l1, l2⟩
theorem er_P {v : Value} {ps : List Phi_} {p : Phi_} (hr : GT.rep (hp w) [v] ps) (hp_ : ps[k.toNat]? = some p) : ∃ b2 o2 c2 p3 n3 c3, v = .slice (some ⟨b2, o2, none⟩) ps.length c2 ∧ CellsAt (hp w) b2 (o2 + k.toNat * 2) [.int .i64 p.to, .slice p3 n3 c3] ∧ GT.rep (hp w) [.slice p3 n3 c3] p.args ∧ p.args.length = n3 ∧ n3 ≤ 140737488355328 := by
  obtain ⟨b2, o2, c2, rfl⟩ := idx_form' hr hp_
  obtain ⟨va, h1, h2⟩ := rk_Phi_ hr hp_
  obtain ⟨p3, c3, rfl, l3⟩ := (rep_list.1 h2).len
  exact ⟨b2, o2, c2, p3, _, c3, rfl, h1, h2, rfl, l3⟩
theorem er_I {v : Value} {ps : List Ins_} {p : Ins_} (hr : GT.rep (hp w) [v] ps) (hp_ : ps[k.toNat]? = some p) : ∃ b2 o2 c2 p3 n3 c3, v = .slice (some ⟨b2, o2, none⟩) ps.length c2 ∧ CellsAt (hp w) b2 (o2 + k.toNat * 4) [.int .i64 p.op, .int .i64 p.to, .slice p3 n3 c3, .int .i64 p.n_] ∧ GT.rep (hp w) [.slice p3 n3 c3] p.args ∧ p.args.length = n3 ∧ n3 ≤ 140737488355328 := by
  obtain ⟨b2, o2, c2, rfl⟩ := idx_form' hr hp_
  obtain ⟨va, h1, h2⟩ := rk_Ins_ hr hp_
  obtain ⟨p3, c3, rfl, l3⟩ := (rep_list.1 h2).len
  exact ⟨b2, o2, c2, p3, _, c3, rfl, h1, h2, rfl, l3⟩
theorem er_N {v : Value} {xs : List Int} {x : Int} (hr : GT.rep (hp w) [v] xs) (hx : xs[j.toNat]? = some x) : ∃ b3 o3 c3, v = .slice (some ⟨b3, o3, none⟩) xs.length c3 ∧ CellsAt (hp w) b3 (o3 + j.toNat * 1) [.int .i64 x] := by
  obtain ⟨b3, o3, c3, rfl⟩ := idx_form hr hx
  exact ⟨b3, o3, c3, rfl, flat_cells (cs := [.int .i64 x]) hr hx rfl⟩
end
theorem impl_eachReg_ok (w0 : World) (hz : Heap) (c_ : Code_) (vf v1 : Value) {σ : Type} (K : σ → Ch) (f : Int → σ → Option (Int × σ)) (s0 : σ) (hm0 : Mem w0 hz w0 [ow [v1] c_.blocks, K s0]) (hv : VisitS Try.prog vf f hz K) :
    ConM Try.prog 43 [(.agg #[(.int .i64 c_.params), (.int .i64 c_.regs), v1]), vf] w0 (impl_eachReg f c_ s0) fun r v w' => v = .tuple #[] ∧ Mem w0 hz w' [ow [v1] r.1, K r.2] := by
  unfold impl_eachReg
  refine gcon func43 rfl fun r => ?_
  have hm := hm0
  obtain ⟨p0, c0, hv1, hlen⟩ := (rep_list.1 (hm.ow_rep 0 rfl)).len
  subst hv1
  refine gS (gR (gBx hm rfl fun b0 w hm => gE (gS (gR (gF er_C2 rfl (gL hm 0 isAgg57 rfl (gY (yV er_sB rfl) (gM rfl (gE ?_)))))))))
  refine gBk (gNf hm (fun i _ => [(1, vf), (2, .pointer (some ⟨b0, 0, none⟩)), (12, .int .i64 (c_.blocks.length : Int)), (13, .int .i64 i)]) (fun _ bl => [ow [.slice p0 c_.blocks.length c0] bl.1, K bl.2, blk b0 [.int .i64 c_.params, .int .i64 c_.regs, .slice p0 c_.blocks.length c0] 59]) [1, 2, 0] rfl ?_ ?_)
  · clear hm hm0
    intro _ _ i bl w hm hi1 hi2 q _
    refine gS (gR (gB rfl (gE (gS (go _ 14 rfl (decide_eq_true (by omega)) (gct rfl (gSk (gS ?_))))))))
    have hbl : bl.1.length = c_.blocks.length := rep_slice_len (hm.ow_rep 0 rfl)
    refine gBk (gS (gR (gM rfl (gA rfl (gE ?_)))))
    have hB0 : bl.1[i.toNat]? = some (bl.1[i.toNat]'(by omega)) := List.getElem?_eq_getElem _
    obtain ⟨bb, off, cc, he⟩ := idx_form' (hm.ow_rep 0 rfl) hB0
    simp only [Value.slice.injEq, Option.some.injEq] at he
    obtain ⟨rfl, _, rfl⟩ := he
    refine gS (gR (gF er_C2 rfl (gL hm 2 isAgg57 rfl (gM rfl (gI er_sB hi1 (show i.toNat < c_.blocks.length by omega) rfl (gA rfl (gE ?_)))))))
    unfold er_blk
    refine gb fun m hm1 => ?_
    obtain ⟨B, hB, hm1⟩ := bnd hm1
    obtain rfl := Option.some.inj hm1
    obtain ⟨p1, n1, c1, p2, n2, c2, v3, hc, hr1, hr2, ⟨e1, e2⟩, q1, q2⟩ := er_B hm (getI_some.1 hB).2
    subst e1
    refine gS (gS (gR (gM rfl (gY (yG rfl (y_nilptr rfl rfl)) (gF er_B0 rfl (gY (yl isAgg68 (hc.cell (j := 0) rfl) rfl) (gY (yV er_sP rfl) (gM rfl (gE ?_)))))))))
    refine gBk (gNf hm (fun k _ => [(1, vf), (2, .pointer (some ⟨b0, 0, none⟩)), (12, .int .i64 (c_.blocks.length : Int)), (13, .int .i64 i), (5, .pointer (some ⟨bb, off + i.toNat * 5, none⟩)), (24, .int .i64 (B.phis.length : Int)), (25, .int .i64 k)]) (fun _ bl => [ow [.slice (some ⟨bb, off, none⟩) c_.blocks.length c0] bl.1, K bl.2, blk b0 [.int .i64 c_.params, .int .i64 c_.regs, .slice (some ⟨bb, off, none⟩) c_.blocks.length c0] 59]) [0, 1, 2] rfl ?_ ?_)
    · clear hm hc hr1 hr2
      intro _ _ k bl1 w hm hk1 hk2 q _
      have hnn : ((B.phis.length : Nat) : Int) ≤ 140737488355328 := by omega
      refine gS (gR (gB rfl (gE (gS (go _ 26 rfl (decide_eq_true (by omega)) (gct rfl (gSk (gS ?_))))))))
      refine gBk (gS (gR (gM rfl (gA rfl (gE (gS ?_))))))
      unfold er_phi
      refine gb fun bl2 hq => ?_
      obtain ⟨B1, P1, y, hB1, hP1, hy, rfl⟩ := er_PT_some hq
      obtain ⟨p1, n1, c1, p2, n2, c2, v3, hc, hr1, hr2, ⟨e1, e2⟩, q1, q2⟩ := er_B hm hB1.2
      obtain ⟨b2, o2, c2', p3, n3, c3, he, hcp, hra, e3, q3⟩ := er_P hr1 hP1.2
      simp only [Value.slice.injEq] at he
      obtain ⟨rfl, rfl, rfl⟩ := he
      refine gR (gM rfl (gM rfl (gY (yG rfl (y_nilptr rfl rfl)) (gF er_B0 rfl (gY (yl isAgg68 (hc.cell (j := 0) rfl) rfl) (gM rfl (gI er_sP hk1 (idx_lt hP1.2) rfl (gF er_P0 rfl (er_call hm hv (er_inP hB1.2 hc (er_phiT hP1.2 hcp)) hy rfl fun v w hm => ?_)))))))))
      refine gE (gS ?_)
      clear hc hr1 hr2 hcp hra
      refine gb fun m hq => ?_
      obtain ⟨B2, hB2, hq⟩ := bnd hq
      obtain ⟨P2, hP2, hq⟩ := bnd hq
      obtain rfl := Option.some.inj hq
      have hB2 := getI_some.1 hB2
      have hP2 := getI_some.1 hP2
      obtain ⟨p1, n1, c1, p2, n2, c2, v3, hc, hr1, hr2, ⟨e1, e2⟩, q1, q2⟩ := er_B hm hB2.2
      obtain ⟨b2, o2, c2', p3, n3, c3, he, hcp, hra, e3, q3⟩ := er_P hr1 hP2.2
      simp only [Value.slice.injEq] at he
      obtain ⟨rfl, rfl, rfl⟩ := he
      subst e3
      refine gR (gM rfl (gY (yG rfl (y_nilptr rfl rfl)) (gF er_B0 rfl (gY (yl isAgg68 (hc.cell (j := 0) rfl) rfl) (gM rfl (gI er_sP hk1 (idx_lt hP2.2) rfl (gF er_P1 rfl (gY (yl isAgg26 (hcp.cell (j := 1) rfl) rfl) (gY (yV er_sN rfl) (gM rfl (gE ?_)))))))))))
      refine gBk (gNf hm (fun j _ => [(1, vf), (2, .pointer (some ⟨b0, 0, none⟩)), (12, .int .i64 (c_.blocks.length : Int)), (13, .int .i64 i), (5, .pointer (some ⟨bb, off + i.toNat * 5, none⟩)), (24, .int .i64 (B.phis.length : Int)), (25, .int .i64 k), (6, .int .i64 k), (45, .int .i64 (P2.args.length : Int)), (46, .int .i64 j)]) (fun _ bl => [ow [.slice (some ⟨bb, off, none⟩) c_.blocks.length c0] bl.1, K bl.2, blk b0 [.int .i64 c_.params, .int .i64 c_.regs, .slice (some ⟨bb, off, none⟩) c_.blocks.length c0] 59]) [0, 1, 2] rfl ?_ ?_)
      · clear hm hc hr1 hr2 hcp hra
        intro _ _ j bl3 w hm hj1 hj2 q _
        refine gS (gR (gB rfl (gE (gS (go _ 47 rfl (decide_eq_true (by omega)) (gct rfl (gSk (gS ?_))))))))
        refine gBk (gS (gR (gM rfl (gA rfl (gE ?_)))))
        refine gb fun bl4 hq => ?_
        obtain ⟨B3, P3, nn, y, hB3, hP3, hn3, hy, rfl⟩ := er_PA_some hq
        obtain ⟨p1, n1, c1, p2, n2, c2, v3, hc, hr1, hr2, ⟨e1, e2⟩, q1, q2⟩ := er_B hm hB3.2
        obtain ⟨b2, o2, c2', p3, n3, c3, he, hcp, hra, e3, q3⟩ := er_P hr1 hP3.2
        simp only [Value.slice.injEq] at he
        obtain ⟨rfl, rfl, rfl⟩ := he
        obtain ⟨b3, o3, c3', he, hcn⟩ := er_N hra hn3.2
        simp only [Value.slice.injEq] at he
        obtain ⟨rfl, rfl, rfl⟩ := he
        refine gR (gM rfl (gM rfl (gY (yG rfl (y_nilptr rfl rfl)) (gF er_B0 rfl (gY (yl isAgg68 (hc.cell (j := 0) rfl) rfl) (gM rfl (gI er_sP hk1 (idx_lt hP3.2) rfl (gF er_P1 rfl (gY (yl isAgg26 (hcp.cell (j := 1) rfl) rfl) (gM rfl (gI er_sN hj1 (idx_lt hn3.2) rfl (er_call hm hv (er_inP hB3.2 hc (er_phiA hP3.2 hcp hn3.2 hcn)) hy rfl fun v w hm => ?_))))))))))))
        exact gE (gR (gP (by omega) (by omega) rfl (gM rfl (gE (gze hm [0, 1, 2] rfl)))))
      · clear hm hc hr1 hr2 hcp hra
        intro j bl3 w hm hj1 hj2
        refine gS (gR (gB rfl (gE (gS (go _ 47 rfl (decide_eq_false (by omega)) (gcf rfl (gXt (gHh ?_))))))))
        exact gR (gP (by omega) (by omega) rfl (gM rfl (gE (gze hm [0, 1, 2] rfl))))
    · clear hm hc hr1 hr2
      intro k bl1 w hm hk1 hk2
      refine gS (gR (gB rfl (gE (gS (go _ 26 rfl (decide_eq_false (by omega)) (gcf rfl (gXt (gHh (gS (gS ?_))))))))))
      refine gb fun m hm2 => ?_
      obtain ⟨B, hB, hm2⟩ := bnd hm2
      obtain rfl := Option.some.inj hm2
      obtain ⟨p1, n1, c1, p2, n2, c2, v3, hc, hr1, hr2, ⟨e1, e2⟩, q1, q2⟩ := er_B hm (getI_some.1 hB).2
      subst e2
      refine gR (gM rfl (gY (yG rfl (y_nilptr rfl rfl)) (gF er_B1 rfl (gY (yl isAgg69 (hc.cell (j := 1) rfl) rfl) (gY (yV er_sI rfl) (gM rfl (gE ?_)))))))
      refine gBk (gNf hm (fun k _ => [(1, vf), (2, .pointer (some ⟨b0, 0, none⟩)), (12, .int .i64 (c_.blocks.length : Int)), (13, .int .i64 i), (5, .pointer (some ⟨bb, off + i.toNat * 5, none⟩)), (67, .int .i64 (B.ins.length : Int)), (68, .int .i64 k)]) (fun _ bl => [ow [.slice (some ⟨bb, off, none⟩) c_.blocks.length c0] bl.1, K bl.2, blk b0 [.int .i64 c_.params, .int .i64 c_.regs, .slice (some ⟨bb, off, none⟩) c_.blocks.length c0] 59]) [0, 1, 2] rfl ?_ ?_)
      · clear hm hc hr1 hr2
        intro _ _ k bl1 w hm hk1 hk2 q _
        refine gS (gR (gB rfl (gE (gS (go _ 69 rfl (decide_eq_true (by omega)) (gct rfl (gSk (gS ?_))))))))
        refine gBk (gS (gR (gM rfl (gA rfl (gE (gS ?_))))))
        unfold er_ins
        refine gJ hm (fun _ => [(1, vf), (2, .pointer (some ⟨b0, 0, none⟩)), (12, .int .i64 (c_.blocks.length : Int)), (13, .int .i64 i), (5, .pointer (some ⟨bb, off + i.toNat * 5, none⟩)), (67, .int .i64 (B.ins.length : Int)), (68, .int .i64 k), (8, .int .i64 k)]) (fun bl => [ow [.slice (some ⟨bb, off, none⟩) c_.blocks.length c0] bl.1, K bl.2, blk b0 [.int .i64 c_.params, .int .i64 c_.regs, .slice (some ⟨bb, off, none⟩) c_.blocks.length c0] 59]) (fun z => ?_) fun bl2 w hm => ?_
        · refine gb fun u hu => ?_
          obtain ⟨B1, hB1, hu⟩ := bnd hu
          obtain ⟨P1, hP1, hu⟩ := bnd hu
          have hB1 := getI_some.1 hB1
          have hP1 := getI_some.1 hP1
          obtain ⟨p1, n1, c1, p2, n2, c2, v3, hc, hr1, hr2, ⟨e1, e2⟩, _, _⟩ := er_B hm hB1.2
          obtain ⟨b2, o2, c2', p3, n3, c3, he, hcp, hra, e3, _⟩ := er_I hr2 hP1.2
          simp only [Value.slice.injEq] at he
          obtain ⟨rfl, rfl, rfl⟩ := he
          refine gS (gR (gM rfl (gY (yG rfl (y_nilptr rfl rfl)) (gF er_B1 rfl (gY (yl isAgg69 (hc.cell (j := 1) rfl) rfl) (gM rfl (gI er_sI hk1 (idx_lt hP1.2) rfl (gF er_I0 rfl (gY (yl isAgg3 (hcp.cell (j := 0) rfl) rfl) (gf rfl (fun a hf => e_call hf rfl call72 rfl (impl_sets_ok _ _ u hu)) ?_))))))))))
          rintro v w ⟨rfl, hBe⟩
          replace hm := hm.below' hBe
          clear hBe hc hr1 hr2 hcp hra
          refine gE (gs 79 rfl (fun _ => ?_) fun _ => gcf rfl (gSk (gz hm [0, 1, 2] rfl)))
          refine gin fun hq => ?_
          obtain ⟨B2, P2, y, hB2, hP2, hy, rfl⟩ := er_IT_some hq
          obtain ⟨p1, n1, c1, p2, n2, c2, v3, hc, hr1, hr2, ⟨e1, e2⟩, _, _⟩ := er_B hm hB2.2
          obtain ⟨b2, o2, c2', p3, n3, c3, he, hcp, hra, e3, _⟩ := er_I hr2 hP2.2
          simp only [Value.slice.injEq] at he
          obtain ⟨rfl, rfl, rfl⟩ := he
          exact gct rfl (gR (gM rfl (gM rfl (gY (yG rfl (y_nilptr rfl rfl)) (gF er_B1 rfl (gY (yl isAgg69 (hc.cell (j := 1) rfl) rfl) (gM rfl (gI er_sI hk1 (idx_lt hP2.2) rfl (gF er_I1 rfl (er_call hm hv (er_inI hB2.2 hc (er_insT hP2.2 hcp)) hy rfl fun v w hm => gE (gz hm [0, 1, 2] rfl)))))))))))
        · refine gb fun m hq => ?_
          obtain ⟨B2, hB2, hq⟩ := bnd hq
          obtain ⟨P2, hP2, hq⟩ := bnd hq
          obtain rfl := Option.some.inj hq
          have hB2 := getI_some.1 hB2
          have hP2 := getI_some.1 hP2
          obtain ⟨p1, n1, c1, p2, n2, c2, v3, hc, hr1, hr2, ⟨e1, e2⟩, _, _⟩ := er_B hm hB2.2
          obtain ⟨b2, o2, c2', p3, n3, c3, he, hcp, hra, e3, q3⟩ := er_I hr2 hP2.2
          simp only [Value.slice.injEq] at he
          obtain ⟨rfl, rfl, rfl⟩ := he
          subst e3
          refine gS (gR (gM rfl (gY (yG rfl (y_nilptr rfl rfl)) (gF er_B1 rfl (gY (yl isAgg69 (hc.cell (j := 1) rfl) rfl) (gM rfl (gI er_sI hk1 (idx_lt hP2.2) rfl (gF er_I2 rfl (gY (yl isAgg26 (hcp.cell (j := 2) rfl) rfl) (gY (yV er_sN rfl) (gM rfl (gE ?_))))))))))))
          refine gBk (gNf hm (fun j _ => [(1, vf), (2, .pointer (some ⟨b0, 0, none⟩)), (12, .int .i64 (c_.blocks.length : Int)), (13, .int .i64 i), (5, .pointer (some ⟨bb, off + i.toNat * 5, none⟩)), (67, .int .i64 (B.ins.length : Int)), (68, .int .i64 k), (8, .int .i64 k), (97, .int .i64 (P2.args.length : Int)), (98, .int .i64 j)]) (fun _ bl => [ow [.slice (some ⟨bb, off, none⟩) c_.blocks.length c0] bl.1, K bl.2, blk b0 [.int .i64 c_.params, .int .i64 c_.regs, .slice (some ⟨bb, off, none⟩) c_.blocks.length c0] 59]) [0, 1, 2] rfl ?_ ?_)
          · clear hm hc hr1 hr2 hcp hra
            intro _ _ j bl3 w hm hj1 hj2 q _
            refine gS (gR (gB rfl (gE (gS (go _ 99 rfl (decide_eq_true (by omega)) (gct rfl (gSk (gS ?_))))))))
            refine gBk (gS (gR (gM rfl (gA rfl (gE ?_)))))
            refine gb fun bl4 hq => ?_
            obtain ⟨B3, P3, nn, y, hB3, hP3, hn3, hy, rfl⟩ := er_IA_some hq
            obtain ⟨p1, n1, c1, p2, n2, c2, v3, hc, hr1, hr2, ⟨e1, e2⟩, _, _⟩ := er_B hm hB3.2
            obtain ⟨b2, o2, c2', p3, n3, c3, he, hcp, hra, e3, _⟩ := er_I hr2 hP3.2
            simp only [Value.slice.injEq] at he
            obtain ⟨rfl, rfl, rfl⟩ := he
            obtain ⟨b3, o3, c3', he, hcn⟩ := er_N hra hn3.2
            simp only [Value.slice.injEq] at he
            obtain ⟨rfl, rfl, rfl⟩ := he
            refine gR (gM rfl (gM rfl (gY (yG rfl (y_nilptr rfl rfl)) (gF er_B1 rfl (gY (yl isAgg69 (hc.cell (j := 1) rfl) rfl) (gM rfl (gI er_sI hk1 (idx_lt hP3.2) rfl (gF er_I2 rfl (gY (yl isAgg26 (hcp.cell (j := 2) rfl) rfl) (gM rfl (gI er_sN hj1 (idx_lt hn3.2) rfl (er_call hm hv (er_inI hB3.2 hc (er_insA hP3.2 hcp hn3.2 hcn)) hy rfl fun v w hm => ?_))))))))))))
            exact gE (gR (gP (by omega) (by omega) rfl (gM rfl (gE (gze hm [0, 1, 2] rfl)))))
          · clear hm hc hr1 hr2 hcp hra
            intro j bl3 w hm hj1 hj2
            refine gS (gR (gB rfl (gE (gS (go _ 99 rfl (decide_eq_false (by omega)) (gcf rfl (gXt (gHh ?_))))))))
            exact gR (gP (by omega) (by omega) rfl (gM rfl (gE (gze hm [0, 1, 2] rfl))))
      · clear hm hc hr1 hr2
        intro k bl1 w hm hk1 hk2
        refine gS (gR (gB rfl (gE (gS (go _ 69 rfl (decide_eq_false (by omega)) (gcf rfl (gXt (gHh ?_))))))))
        refine gJ hm (fun _ => [(1, vf), (2, .pointer (some ⟨b0, 0, none⟩)), (12, .int .i64 (c_.blocks.length : Int)), (13, .int .i64 i)]) (fun bl => [ow [.slice (some ⟨bb, off, none⟩) c_.blocks.length c0] bl.1, K bl.2, blk b0 [.int .i64 c_.params, .int .i64 c_.regs, .slice (some ⟨bb, off, none⟩) c_.blocks.length c0] 59]) (fun z => ?_) fun bl2 w hm => ?_
        · refine gb fun u hu => ?_
          obtain ⟨B1, hB1, hu⟩ := bnd hu
          have hB1 := getI_some.1 hB1
          obtain ⟨p1, n1, c1, p2, n2, c2, v3, hc, hr1, hr2, ⟨e1, e2⟩, _, _⟩ := er_B hm hB1.2
          refine gS (gR (gM rfl (gY (yG rfl (y_nilptr rfl rfl)) (gF er_B2 rfl (gY (yl isAgg3 (hc.cell (j := 2) rfl) rfl) (gf rfl (fun a hf => e_call hf rfl call64 rfl (impl_usesOn_ok _ _ u hu)) ?_))))))
          rintro v w ⟨rfl, hBe⟩
          replace hm := hm.below' hBe
          clear hBe hc hr1 hr2
          refine gE (gs 119 rfl (fun _ => ?_) fun _ => gcf rfl (gSk (gz hm [0, 1, 2] rfl)))
          refine gin fun hq => ?_
          obtain ⟨B2, hB2, hq⟩ := bnd hq
          obtain ⟨y, hy, hq⟩ := bnd hq
          obtain rfl := Option.some.inj hq
          have hB2 := getI_some.1 hB2
          obtain ⟨p1, n1, c1, p2, n2, c2, v3, hc, hr1, hr2, ⟨e1, e2⟩, _, _⟩ := er_B hm hB2.2
          exact gct rfl (gR (gM rfl (gM rfl (gY (yG rfl (y_nilptr rfl rfl)) (gF er_B3 rfl (er_call hm hv (er_on hB2.2 hc) hy rfl fun v w hm => gE (gz hm [0, 1, 2] rfl)))))))
        · exact gR (gP (by omega) (by omega) rfl (gM rfl (gE (gze hm [0, 1, 2] rfl))))
  · clear hm hm0
    intro i bl w hm hi1 hi2
    exact gS (gR (gB rfl (gE (gS (go _ 14 rfl (decide_eq_false (by omega)) (gcf rfl (gXt (gHh (gre rfl ⟨rfl, hm.pk [0, 1] rfl rfl⟩)))))))))
theorem impl_eachRegM_ok (w0 : World) (hz : Heap) (c_ : Code_) (vf v1 : Value) (f : Int → MapS Int → Option (Int × MapS Int)) (s0 : MapS Int) (bpc0 : Nat) (vm : Value) (hm0 : Mem w0 hz w0 [ow [v1] c_.blocks, blk bpc0 [vm] 88, owm vm s0]) (hv : VisitS Try.prog vf f hz (capM bpc0 88)) :
    ConM Try.prog 43 [(.agg #[(.int .i64 c_.params), (.int .i64 c_.regs), v1]), vf] w0 (impl_eachReg f c_ s0) fun r v w' => ∃ (x1 : Value), v = (.tuple #[]) ∧ Mem w0 hz w' [blk bpc0 [x1] 88, ow [v1] r.1, owm x1 r.2] := by
  intro r hq
  refine Con.weak (impl_eachReg_ok w0 hz c_ vf v1 _ f s0 hm0.capM_fold hv r hq) fun v w' h => ?_
  obtain ⟨rfl, hm⟩ := h
  obtain ⟨x1, hm⟩ := hm.capM_open
  exact ⟨x1, rfl, hm.pk [1, 0, 2] rfl rfl⟩
theorem impl_tight_ok (w0 : World) (c_ : Code_) (v1 : Value) (h1 : GT.rep (hp w0) [v1] c_.blocks) :
    ConM Try.prog 25 [(.agg #[(nV c_.params), (nV c_.regs), v1])] w0 (impl_tight c_) fun r v w' => ∃ (x1 : Value), v = (.agg #[(nV r.params), (nV r.regs), x1]) ∧ Mem w0 (hp w0) w' [ow [x1] r.blocks] := by
  unfold impl_tight
  refine gcon func25 rfl fun r => ?_
  have hm := Mem.start w0
  refine gS (gR (gBx hm rfl fun aG w hm => gAl hm zeroValue59 rfl fun aH w hm => gE (gS (gR (gY (yn (hm.blk_at 1 rfl) isAgg59 sizeOf59 rfl) (gCg rfl call42 (impl_cloneCode_ok _ c_ v1 (hm.now h1)) ?_))))))
  rintro aA aO aP w ⟨aQ, rfl, hB⟩
  replace hm := hm.give hB; clear hB
  refine gSN hm 2 sizeOf59 (one_cons rfl (one_cons rfl (one_cons (rep_one (hm.ow_rep 0 rfl)) one_nil))) rfl fun w hm => gE (gS (gR (gf rfl (fun a hf => e_mkM (β := Int) hm rfl) ?_)))
  rintro aE w hm
  refine gAl hm zeroValue88 rfl fun aB w hm => gS1 hm 0 sizeOf88 (owm_one hm 1 rfl) rfl fun w hm => gE (gS (gS (gR (gF fo_59_0 rfl (gL hm 4 isAgg3 rfl (gM rfl (gE ?_)))))))
  obtain ⟨aC, aD, rfl, aR⟩ := ro_slice (hm.ow_rep 2 rfl)
  refine gBk (gb fun _ aJ => ?_)
  replace aJ := fitI_some.1 aJ
  refine gNf hm (fun aF aI => [(1, (pV aG)), (2, (pV aH)), (3, (pV aB)), (9, (nV aA.params)), (10, (nV aF))]) (fun aF aI => [blk aG [(nV aA.params), (nV aA.regs), (.slice aC aA.blocks.length aD)] 59, ow [(.slice aC aA.blocks.length aD)] aA.blocks, blk aH [(nV 0), (nV 0), (.slice none 0 0)] 59, blk aB [aE] 88, owm aE aI]) [4, 2, 3, 0, 1] rfl ?_ ?_
  ·
   repeat clear hm
   intro _ _ aF aI w hm aS aT aU _
   refine gS (gR (gB rfl (gE (gS (go _ 11 rfl (decide_eq_true (by omega)) (gct rfl (gSk (gS (gBk (gS (gR (gM rfl (gA rfl (gE (gR (gL hm 3 isAgg88 rfl (gM rfl (gM rfl (gf0 rfl (fun a hf => e_insM (β := Int) (key := aF) (u := aF) (b := false) 4 underlying3 underlying88 hf hm rfl rfl rfl rfl rfl) ?_)))))))))))))))))))
   rintro _ w hm
   exact gE (gR (gP (by omega) (by omega) rfl (gM rfl (gE (gze hm [0, 1, 2, 3, 4] rfl)))))
  repeat clear hm
  intro aV aK w hm aW aX
  refine gS (gR (gB rfl (gE (gS (go _ 11 rfl (decide_eq_false (by omega)) (gcf rfl (gXt (gHh (gS (gR (gY (yn (hm.blk_at 0 rfl) isAgg59 sizeOf59 rfl) (gY (yU rfl) ?_))))))))))))
  obtain ⟨aL, hle, hm1, hsub, aM⟩ := hm.take2 (L1 := [ow [(.slice aC aA.blocks.length aD)] aA.blocks, blk aB [aE] 88, owm aE aK]) (L2 := [blk aG [(nV aA.params), (nV aA.regs), (.slice aC aA.blocks.length aD)] 59, blk aH [(nV 0), (nV 0), (.slice none 0 0)] 59]) [1, 3, 4] [0, 2] (by decide) rfl rfl
  refine gCg rfl call43 (impl_eachRegM_ok _ aL aA (.func (.func 44) #[] #[(pV aB)]) (.slice aC aA.blocks.length aD) (fun y0 y1 => impl_tight_1 y0 y1) aK aB aE hm1 (visitS_map fun w hz3 h0 b2 i x y1 v y hle3 hm3 hf3 => (FnOk.mono (⟨44, [(pV aB)], rfl, call44, impl_tight_1_ok w hz3 x h0 b2 i y1 aB v hm3 _ hf3⟩) fun _ _ h => ⟨h.choose, h.choose_spec.2⟩))) ?_
  rintro aN aY aZ w ⟨aa, rfl, hB⟩
  replace hm := aM _ _ hB; clear hB
  exact gE (gS (gR (gL hm 0 isAgg88 rfl (gY (yG rfl (y_lenS (m := (aN.2 : MapS Int)) underlying88 (hm.owm_rep 2 rfl) rfl rfl)) (gF fo_59_1 rfl (gS1 hm 3 sizeOf3 rfl rfl fun w hm => gE (gS (gR (gY (yn (hm.blk_at 3 rfl) isAgg59 sizeOf59 rfl) (gSN hm 4 sizeOf59 (one_cons rfl (one_cons rfl (one_cons rfl one_nil))) rfl fun w hm => gE (gRt (grc 4 results25 hm rfl isAgg59 sizeOf59 ⟨(.slice aC aA.blocks.length aD), rfl, hm.pk [1] rfl rfl⟩))))))))))))
theorem impl_TightUnit_ok (w0 : World) (u : Unit_) (v1 : Value) (h1 : GT.rep (hp w0) [v1] u.codes) :
    ConM Try.prog 8 [(.agg #[v1])] w0 (impl_TightUnit u) fun r v w' => ∃ (x1 : Value), v = (.tuple #[(.agg #[x1]), (.bool (r.2))]) ∧ Mem w0 (hp w0) w' [ow [x1] r.1.codes] := by
  unfold impl_TightUnit
  refine gcon func8 rfl fun r => ?_
  have hm := Mem.start w0
  refine gS (gR (gBx hm rfl fun aG w hm => gAl hm zeroValue25 rfl fun aH w hm => gA rfl (gE (gS (gS (gR (gY (yn (hm.blk_at 1 rfl) isAgg25 sizeOf25 rfl) (gC hm rfl call23 (impl_UnitValid_ok _ u v1 (hm.now h1)) fun aI aJ w hm => gN rfl (gE (gsn 6 rfl (fun aD => ?_) fun aD => ?_))))))))))
  ·
   refine gct rfl (gS (gR (gY (yG rfl (y_build (vs := []) (cs := #[(.slice none 0 0)]) rfl rfl (by kernel_rfl))) (gSN hm 0 sizeOf25 (one_cons rfl one_nil) rfl fun w hm => gA rfl (gE (gRt ?_))))))
   replace hm := hm.nilow (α := Code_)
   exact grct 1 results8 hm rfl isAgg25 sizeOf25 ⟨(.slice none 0 0), rfl, hm.pk [0] rfl rfl⟩
  refine gcf rfl (gSk (gS (gR (gF fo_25_0 rfl (gL hm 1 isAgg23 rfl (gCg rfl call24 (impl_mapped_impl_Code_impl_Code_ok _ u.codes v1 (hm.now h1) (fun y0 => impl_tight y0) (.func (.func 25) #[] #[]) (fun w y0 aE aF r hB hq => ⟨25, [], rfl, call25, impl_tight_ok w y0 aE aF  r hq⟩)) ?_))))))
  rintro aA aK aL w ⟨_, rfl, hB⟩
  replace hm := hm.give hB; clear hB
  obtain ⟨aB, aC, rfl, aM⟩ := ro_slice (hm.ow_rep 0 rfl)
  exact gY (yG rfl (y_build (vs := [(0, (.slice aB aA.length aC))]) (cs := #[(.slice aB aA.length aC)]) rfl rfl (by kernel_rfl))) (gSN hm 1 sizeOf25 (one_cons rfl one_nil) rfl fun w hm => gA rfl (gE (gRt (grct 1 results8 hm rfl isAgg25 sizeOf25 ⟨(.slice aB aA.length aC), rfl, hm.pk [0] rfl rfl⟩))))
theorem slices_Equal_S_int_int_ok (w0 : World) (s1 : List Int) (v1 : Value) (h1 : GT.rep (hp w0) [v1] s1) (s2 : List Int) (v2 : Value) (h2 : GT.rep (hp w0) [v2] s2) :
    ConM Try.prog 26 [v1, v2] w0 (slices_Equal_S_int_int s1 s2) fun r v w' => v = (.bool (r)) ∧ Below w0.heap.size w0 w' := by
  unfold slices_Equal_S_int_int
  refine gcon func26 rfl fun r => ?_
  have hm := Mem.start w0
  refine gS (gR (gA rfl (gE (gS (gS (gR (gM rfl ?_)))))))
  obtain ⟨aE, aF, rfl, aQ⟩ := ro_slice h1
  refine gY (yV st_26 rfl) (gM rfl ?_)
  obtain ⟨aG, aH, rfl, aR⟩ := ro_slice h2
  refine gY (yV st_26 rfl) (gB rfl (gE (gsd 10 rfl (fun aI => ?_) fun aI => ?_)))
  ·
   exact gct rfl (gS (gR (gA rfl (gE (gRt (gr1 results26 rfl ⟨rfl, hm.below⟩))))))
  refine gcf rfl (gSk (gS (gS (gR (gM rfl (gY (yV st_26 rfl) (gM rfl (gE (gBk (gNf hm (fun aA aD => [(0, (.slice aE s1.length aF)), (1, (.slice aG s2.length aH)), (12, (nV ((s1.length : Int)))), (13, (nV aA))]) (fun aA aD => []) [] rfl ?_ ?_))))))))))
  ·
   repeat clear hm
   intro aS aJ aA aD w hm aT aU aV aK
   refine gS (gR (gB rfl (gE (gS (go _ 14 rfl (decide_eq_true (by omega)) (gct rfl (gSk (gS (gBk (gS (gR (gM rfl (gA rfl (gE (gS (gW (.p 0 (.p 1 (.p 2 (.p 4 (.p 5 (.p 6 (.q 3 (.e 7 (.p 8 .fin) .nil)))))))) [7] [0, 1, 2, 4, 5, 6, 8] hm [] [] rfl mxo (by kernel_rfl) (fun _ _ _ h => h.2) fun w hm hS => tP rfl (fun w => yM rfl) (tP rfl (fun w => yM rfl) (gg fun aL aM aB => ?_))))))))))))))))))
   obtain ⟨aW, aX, aY, he⟩ := idx_form h1 aB
   obtain ⟨rfl, _, rfl⟩ := sl3 he
   refine tP rfl (fun w => yI st_26 aM (idx_lt aB) rfl) (tP rfl (fun w => yM rfl) (tP rfl (fun w => yM rfl) (gg fun aN aO aC => ?_)))
   obtain ⟨aZ, aa, ab, he⟩ := idx_form h2 aC
   obtain ⟨rfl, _, rfl⟩ := sl3 he
   refine tP rfl (fun w => yI st_26 aO (idx_lt aC) rfl) (tQ rfl hS (fun w hm => yl isAgg3 ((flat_cells (cs := [(nV aL)]) (hm.now h1) aB rfl).cell (j := 0) rfl) rfl) (tO (tY rfl (yl isAgg3 ((flat_cells (cs := [(nV aN)]) (hm.now h2) aC rfl).cell (j := 0) rfl) rfl) (tAs hS (tP rfl (fun w => yB rfl) (tE (gsd 24 rfl (fun aP => ?_) fun aP => ?_)))))))
   ·
    exact gct rfl (gS (gR (gA rfl (gE (gRt (gLr aK aJ (gr1 results26 rfl ⟨rfl, hm.below⟩)))))))
   exact gcf rfl (gSk (gR (gP (by omega) (by omega) rfl (gM rfl (gE (gze hm [] rfl))))))
  repeat clear hm
  intro ac ae w hm af ag
  exact gS (gR (gB rfl (gE (gS (go _ 14 rfl (decide_eq_false (by omega)) (gcf rfl (gXt (gHh (gS (gR (gA rfl (gE (gRt (gr1 results26 rfl ⟨rfl, hm.below⟩))))))))))))))
theorem impl_SameOutcome_ok (w0 : World) (a_ : Outcome_) (v1 : Value) (h1 : GT.rep (hp w0) [v1] a_.said) (v2 : Value) (h2 : GT.rep (hp w0) [v2] a_.cells) (b_ : Outcome_) (v3 : Value) (h3 : GT.rep (hp w0) [v3] b_.said) (v4 : Value) (h4 : GT.rep (hp w0) [v4] b_.cells) :
    ConM Try.prog 9 [(.agg #[v1, (nV a_.end_), (nV a_.value), v2]), (.agg #[v3, (nV b_.end_), (nV b_.value), v4])] w0 (impl_SameOutcome a_ b_) fun r v w' => v = (.bool (r)) ∧ Below w0.heap.size w0 w' := by
  unfold impl_SameOutcome
  refine gcon func9 rfl fun r => ?_
  have hm := Mem.start w0
  refine gS (gR (gBx hm rfl fun aE w hm => gBx hm rfl fun aF w hm => gA rfl (gE (gS (gJ hm (fun aA => [(4, (.bool (aA)))]) (fun aA => []) (fun aA => ?_) ?_)))))
  ·
   refine gR (gF fo_30_0 rfl (gL hm 1 isAgg26 rfl (gF fo_30_0 rfl (gL hm 0 isAgg26 rfl (gC hm rfl call26 (slices_Equal_S_int_int_ok _ a_.said v1 (hm.now h1) b_.said v3 (hm.now h3)) fun aG aH w hm => gM rfl (gs 10 rfl (fun aB => ?_) fun aB => ?_))))))
   ·
    refine gF fo_30_1 rfl (gL hm 1 isAgg3 rfl (gF fo_30_1 rfl (gL hm 0 isAgg3 rfl (gB rfl (gKt rfl (gM rfl (gsd 17 rfl (fun aC => ?_) fun aC => ?_)))))))
    ·
     refine gF fo_30_2 rfl (gL hm 1 isAgg3 rfl (gF fo_30_2 rfl (gL hm 0 isAgg3 rfl (gB rfl (gKt rfl (gM rfl (gsd 24 rfl (fun aD => ?_) fun aD => ?_)))))))
     ·
      exact gF fo_30_3 rfl (gL hm 1 isAgg26 rfl (gF fo_30_3 rfl (gL hm 0 isAgg26 rfl (gC hm rfl call26 (slices_Equal_S_int_int_ok _ a_.cells v2 (hm.now h2) b_.cells v4 (hm.now h4)) fun aI aJ w hm => gKt rfl (gA rfl (gE (gz hm [] rfl)))))))
     exact gO rfl (gO rfl (gO rfl (gO rfl (gO rfl (gKf rfl (gA rfl (gE (gz hm [] rfl))))))))
    exact gO rfl (gO rfl (gO rfl (gO rfl (gO rfl (gKf rfl (gM rfl (gO rfl (gO rfl (gO rfl (gO rfl (gO rfl (gKf rfl (gA rfl (gE (gz hm [] rfl)))))))))))))))
   exact gO rfl (gO rfl (gO rfl (gO rfl (gO rfl (gKf rfl (gM rfl (gO rfl (gO rfl (gO rfl (gO rfl (gO rfl (gKf rfl (gM rfl (gO rfl (gO rfl (gO rfl (gO rfl (gO rfl (gKf rfl (gA rfl (gE (gz hm [] rfl))))))))))))))))))))))
  repeat clear hm
  intro aA w hm
  exact gRt (gr1 results9 rfl ⟨rfl, hm.below⟩)
theorem impl_SameRuns_ok (w0 : World) (a_ : Unit_) (v1 : Value) (h1 : GT.rep (hp w0) [v1] a_.codes) (b_ : Unit_) (v2 : Value) (h2 : GT.rep (hp w0) [v2] b_.codes) (in_ : List Int) (v3 : Value) (h3 : GT.rep (hp w0) [v3] in_) (steps : Int) :
    ConM Try.prog 10 [(.agg #[v1]), (.agg #[v2]), v3, (nV steps)] w0 (impl_SameRuns a_ b_ in_ steps) fun r v w' => v = (.bool (r)) ∧ Below w0.heap.size w0 w' := by
  unfold impl_SameRuns
  refine gcon func10 rfl fun r => ?_
  have hm := Mem.start w0
  refine gS (gR (gBx hm rfl fun aK w hm => gBx hm rfl fun aL w hm => gA rfl (gE (gS (gR (gY (yn (hm.blk_at 1 rfl) isAgg25 sizeOf25 rfl) (gM rfl (gM rfl (gCg rfl call5 (impl_RunUnit_ok _ a_ v1 (hm.now h1) in_ v3 (hm.now h3) steps) ?_)))))))))
  rintro aB aM aN w ⟨aC, aD, rfl, hB⟩
  replace hm := hm.give hB; clear hB
  refine gM rfl (gX rfl (gX rfl (gAl hm zeroValue30 rfl fun aO w hm => gSN hm 0 sizeOf30 (one_cons (rep_one (hm.ow_rep 1 rfl)) (one_cons rfl (one_cons rfl (one_cons (rep_one (hm.ow_rep 2 rfl)) one_nil)))) rfl fun w hm => gA rfl (gE (gS (gR (gY (yn (hm.blk_at 3 rfl) isAgg25 sizeOf25 rfl) (gM rfl (gCg rfl call5 (impl_RunUnit_ok _ b_ v2 (hm.now h2) in_ v3 (hm.now h3) 60000) ?_)))))))))
  rintro aE aP aQ w ⟨aF, aG, rfl, hB⟩
  replace hm := hm.give hB; clear hB
  refine gM rfl (gX rfl (gX rfl (gAl hm zeroValue30 rfl fun aR w hm => gSN hm 0 sizeOf30 (one_cons (rep_one (hm.ow_rep 1 rfl)) (one_cons rfl (one_cons rfl (one_cons (rep_one (hm.ow_rep 2 rfl)) one_nil)))) rfl fun w hm => gA rfl (gE (gS (gJ hm (fun aA => [(8, (.bool (aA)))]) (fun aA => []) (fun aA => ?_) ?_))))))
  ·
   refine gR (gM rfl (gM rfl (gs 27 rfl (fun aH => ?_) fun aH => ?_)))
   ·
    refine gM rfl (gKt rfl (gM rfl (gs 30 rfl (fun aI => ?_) fun aI => ?_)))
    ·
     refine gF fo_30_1 rfl (gL hm 3 isAgg3 rfl (gB rfl (gM rfl (gsd 34 rfl (fun aJ => ?_) fun aJ => ?_))))
     ·
      exact gO rfl (gO rfl (gO rfl (gKt rfl (gKt rfl (gA rfl (gE (gz hm [] rfl)))))))
     exact gY (yn (hm.blk_at 3 rfl) isAgg30 sizeOf30 rfl) (gY (yn (hm.blk_at 0 rfl) isAgg30 sizeOf30 rfl) (gC hm rfl call9 (impl_SameOutcome_ok _ aB.1 aC (hm.ow_rep 4 rfl) aD (hm.ow_rep 5 rfl) aE.1 aF (hm.ow_rep 1 rfl) aG (hm.ow_rep 2 rfl)) fun aS aT w hm => gKf rfl (gKt rfl (gA rfl (gE (gz hm [] rfl))))))
    exact gO rfl (gO rfl (gO rfl (gO rfl (gO rfl (gO rfl (gO rfl (gO rfl (gKf rfl (gA rfl (gE (gz hm [] rfl)))))))))))
   exact gO rfl (gKf rfl (gM rfl (gO rfl (gO rfl (gO rfl (gO rfl (gO rfl (gO rfl (gO rfl (gO rfl (gKf rfl (gA rfl (gE (gz hm [] rfl))))))))))))))
  repeat clear hm
  intro aA w hm
  exact gRt (gr1 results10 rfl ⟨rfl, hm.below⟩)
theorem laws_FnTightRuns_ok (w0 : World) (code : List UInt8) (v1 : Value) (h1 : GT.rep (hp w0) [v1] code) :
    ConM Try.prog 3 [v1] w0 (laws_FnTightRuns code) fun r v w' => v = (.bool (r)) ∧ Below w0.heap.size w0 w' := by
  unfold laws_FnTightRuns
  refine gcon func3 rfl fun r => ?_
  have hm := Mem.start w0
  refine gS (gR (gA rfl (gE (gS (gS (gR (gM rfl ?_)))))))
  obtain ⟨aR, aS, rfl, af⟩ := ro_slice h1
  refine gY (yV st_22 rfl) (gB rfl (gE (gsd 16 rfl (fun aT => ?_) fun aT => ?_)))
  ·
   exact gct rfl (gS (gR (gA rfl (gE (gRt (gr1 results3 rfl ⟨rfl, hm.below⟩))))))
  refine gcf rfl (gSk (gS (gR (gM rfl (gCg rfl call4 (spec_DrawRunUnit_ok _ code (.slice aR code.length aS) (hm.now h1)) ?_)))))
  rintro aA ag ah w ⟨aD, aE, rfl, hB⟩
  replace hm := hm.give hB; clear hB
  refine gM rfl (gX rfl (gX rfl (gX rfl (gAl hm zeroValue25 rfl fun aM w hm => gSN hm 0 sizeOf25 (one_cons (rep_one (hm.ow_rep 1 rfl)) one_nil) rfl fun w hm => gA rfl (gA rfl (gE (gS (gR (gY (yn (hm.blk_at 0 rfl) isAgg25 sizeOf25 rfl) (gM rfl (gM rfl (gCg rfl call5 (impl_RunUnit_ok _ aA.1 aD (hm.ow_rep 1 rfl) aA.2.1 aE (hm.ow_rep 2 rfl) aA.2.2) ?_))))))))))))
  rintro aB ai aj w ⟨aF, aG, rfl, hB⟩
  replace hm := hm.give hB; clear hB
  refine gM rfl (gX rfl (gX rfl (gAl hm zeroValue30 rfl fun aN w hm => gSN hm 0 sizeOf30 (one_cons (rep_one (hm.ow_rep 1 rfl)) (one_cons rfl (one_cons rfl (one_cons (rep_one (hm.ow_rep 2 rfl)) one_nil)))) rfl fun w hm => gA rfl (gE (gS (gR (gY (yn (hm.blk_at 3 rfl) isAgg25 sizeOf25 rfl) (gM rfl (gM rfl (gCg rfl call6 (spec_RunUnit_ok _ aA.1 aD (hm.ow_rep 4 rfl) aA.2.1 aE (hm.ow_rep 5 rfl) aA.2.2) ?_))))))))))
  rintro aC ak al w ⟨aH, aI, rfl, hB⟩
  replace hm := hm.give hB; clear hB
  refine gM rfl (gX rfl (gX rfl (gAl hm zeroValue30 rfl fun aO w hm => gSN hm 0 sizeOf30 (one_cons (rep_one (hm.ow_rep 1 rfl)) (one_cons rfl (one_cons rfl (one_cons (rep_one (hm.ow_rep 2 rfl)) one_nil)))) rfl fun w hm => gA rfl (gE (gS (gS (gJ hm (fun aJ => [(3, (pV aM)), (4, aE), (5, (nV aA.2.2)), (6, (pV aN)), (7, (.bool (aB.2))), (8, (pV aO)), (9, (.bool (aC.2))), (49, (.bool (aJ)))]) (fun aJ => [blk aM [aD] 25, ow [aD] aA.1.codes, ow [aE] aA.2.1, blk aN [aF, (nV aB.1.end_), (nV aB.1.value), aG] 30, ow [aF] aB.1.said, ow [aG] aB.1.cells, blk aO [aH, (nV aC.1.end_), (nV aC.1.value), aI] 30, ow [aH] aC.1.said, ow [aI] aC.1.cells]) (fun aJ => ?_) ?_)))))))
  ·
   refine gR (gM rfl (gM rfl (gY (yG rfl (y_neqb underlying4 rfl rfl rfl)) (gM rfl (gsd 40 rfl (fun aU => ?_) fun aU => ?_)))))
   ·
    exact gO rfl (gO rfl (gO rfl (gO rfl (gKt rfl (gM rfl (gO rfl (gO rfl (gKt rfl (gE (gz hm [6, 7, 8, 3, 4, 5, 0, 1, 2] rfl))))))))))
   refine gY (yn (hm.blk_at 3 rfl) isAgg30 sizeOf30 rfl) (gY (yn (hm.blk_at 0 rfl) isAgg30 sizeOf30 rfl) (gC hm rfl call7 (spec_SameOutcome_ok _ aB.1 aF (hm.ow_rep 4 rfl) aG (hm.ow_rep 5 rfl) aC.1 aH (hm.ow_rep 1 rfl) aI (hm.ow_rep 2 rfl)) fun am an w hm => gN rfl (gKf rfl (gM rfl (gsn 46 rfl (fun aV => ?_) fun aV => ?_)))))
   ·
    exact gO rfl (gO rfl (gKt rfl (gE (gz hm [6, 7, 8, 3, 4, 5, 0, 1, 2] rfl))))
   exact gM rfl (gN rfl (gKf rfl (gE (gz hm [6, 7, 8, 3, 4, 5, 0, 1, 2] rfl))))
  repeat clear hm
  intro aJ w hm
  refine gs 49 rfl (fun aW => ?_) fun aW => ?_
  ·
   refine gct rfl (gS (gJ hm (fun aK => [(2, (.bool (aK)))]) (fun aK => []) (fun aK => ?_) ?_))
   ·
    refine gR (gM rfl (gM rfl (gY (yG rfl (y_eqlb underlying4 rfl rfl rfl)) (gM rfl (gsd 53 rfl (fun aX => ?_) fun aX => ?_)))))
    ·
     exact gY (yn (hm.blk_at 3 rfl) isAgg30 sizeOf30 rfl) (gY (yn (hm.blk_at 6 rfl) isAgg30 sizeOf30 rfl) (gC hm rfl call7 (spec_SameOutcome_ok _ aB.1 aF (hm.ow_rep 4 rfl) aG (hm.ow_rep 5 rfl) aC.1 aH (hm.ow_rep 7 rfl) aI (hm.ow_rep 8 rfl)) fun ao aq w hm => gKt rfl (gA rfl (gE (gz hm [] rfl)))))
    exact gO rfl (gO rfl (gO rfl (gKf rfl (gA rfl (gE (gz hm [] rfl))))))
   repeat clear hm
   intro aK w hm
   exact gRt (gr1 results3 rfl ⟨rfl, hm.below⟩)
  refine gcf rfl (gSk (gS (gR (gY (yn (hm.blk_at 0 rfl) isAgg25 sizeOf25 rfl) (gCg rfl call8 (impl_TightUnit_ok _ aA.1 aD (hm.ow_rep 1 rfl)) ?_)))))
  rintro aP ar au w ⟨aQ, rfl, hB⟩
  replace hm := hm.give hB; clear hB
  refine gM rfl (gX rfl (gX rfl (gAl hm zeroValue25 rfl fun av w hm => gSN hm 0 sizeOf25 (one_cons (rep_one (hm.ow_rep 1 rfl)) one_nil) rfl fun w hm => gA rfl (gE (gS (gR (gY (yn (hm.blk_at 0 rfl) isAgg25 sizeOf25 rfl) (gM rfl (gM rfl (gCg rfl call5 (impl_RunUnit_ok _ aP.1 aQ (hm.ow_rep 1 rfl) aA.2.1 aE (hm.ow_rep 4 rfl) aA.2.2) ?_))))))))))
  rintro aY aw ax w ⟨aZ, aa, rfl, hB⟩
  replace hm := hm.give hB; clear hB
  refine gM rfl (gX rfl (gX rfl (gAl hm zeroValue30 rfl fun ay w hm => gSN hm 0 sizeOf30 (one_cons (rep_one (hm.ow_rep 1 rfl)) (one_cons rfl (one_cons rfl (one_cons (rep_one (hm.ow_rep 2 rfl)) one_nil)))) rfl fun w hm => gA rfl (gE (gS (gJ hm (fun aL => [(2, (.bool (aL)))]) (fun aL => []) (fun aL => ?_) ?_))))))
  ·
   refine gR (gM rfl (gM rfl (gs 71 rfl (fun ab => ?_) fun ab => ?_)))
   ·
    refine gM rfl (gKt rfl (gM rfl (gs 74 rfl (fun ac => ?_) fun ac => ?_)))
    ·
     refine gY (yn (hm.blk_at 0 rfl) isAgg30 sizeOf30 rfl) (gY (yn (hm.blk_at 8 rfl) isAgg30 sizeOf30 rfl) (gC hm rfl call9 (impl_SameOutcome_ok _ aY.1 aZ (hm.ow_rep 1 rfl) aa (hm.ow_rep 2 rfl) aB.1 aF (hm.ow_rep 9 rfl) aG (hm.ow_rep 10 rfl)) fun az bA w hm => gKt rfl (gM rfl (gs 79 rfl (fun ae => ?_) fun ae => ?_))))
     ·
      exact gY (yn (hm.blk_at 5 rfl) isAgg25 sizeOf25 rfl) (gY (yn (hm.blk_at 3 rfl) isAgg25 sizeOf25 rfl) (gM rfl (gM rfl (gC hm rfl call10 (impl_SameRuns_ok _ aA.1 aD (hm.ow_rep 6 rfl) aP.1 aQ (hm.ow_rep 4 rfl) aA.2.1 aE (hm.ow_rep 7 rfl) aA.2.2) fun bB bC w hm => gKt rfl (gA rfl (gE (gz hm [] rfl)))))))
     exact gO rfl (gO rfl (gO rfl (gO rfl (gO rfl (gKf rfl (gA rfl (gE (gz hm [] rfl))))))))
    exact gO rfl (gO rfl (gO rfl (gKf rfl (gM rfl (gO rfl (gO rfl (gO rfl (gO rfl (gO rfl (gKf rfl (gA rfl (gE (gz hm [] rfl)))))))))))))
   exact gO rfl (gKf rfl (gM rfl (gO rfl (gO rfl (gO rfl (gKf rfl (gM rfl (gO rfl (gO rfl (gO rfl (gO rfl (gO rfl (gKf rfl (gA rfl (gE (gz hm [] rfl))))))))))))))))
  repeat clear hm
  intro aL w hm
  exact gRt (gr1 results3 rfl ⟨rfl, hm.below⟩)
end Go.Proofs.Ytabgclojkbijbaa
