/- A part of the proof of FnExactDropIdleSaid. -/
import Derived.Test.YtabgclojkbijbaaGreatDpWalksA
namespace Go.Proofs.YtabgclojkbijbaaGreat
open Go Go.Wk Go.RowKit
set_option maxRecDepth 4000
set_option maxHeartbeats 4000000
open Tryz
theorem impl_insOk_2_ok (w0 : World) (r_ : Int) (c0_0_ : Code_) (v1 : Value) (h1 : GT.rep (hp w0) [v1] c0_0_.blocks) (aA : Nat) (aB : w0.heap[aA]? = some (.cells ([(nV c0_0_.params), (nV c0_0_.regs), v1] : List Value).toArray 49 (0, 0))) (bf0 : Nat) (hbf0 : w0.heap[bf0]? = some (.cells ([(.func (.func 249) #[] #[(pV aA)])] : List Value).toArray 95 (0, 0))) :
    ConM Tryz.prog 250 [(nV r_), (pV bf0)] w0 (impl_insOk_2 r_ c0_0_) fun r v w' => v = (.bool (r)) ∧ Below w0.heap.size w0 w' := by
  unfold impl_insOk_2
  refine gcon func250 rfl fun r => ?_
  have hm := Mem.start w0
  refine gS (gR (gA rfl (gE (gS (gR (gY (yl isAgg95 (hm.old_cell hbf0 rfl) rfl) (gM rfl (gb fun aD aC => gf rfl (fun a hf => e_callv hf rfl rfl rfl ⟨249, [(pV aA)], rfl, call249, impl_insOk_1_ok _ r_ c0_0_ v1 (rep_later (hm.now h1) (Below.refl _ _)) aA (hm.old_later aB (Below.refl _ _)) _ aC⟩) ?_))))))))
  rintro aE w ⟨rfl, hB⟩
  replace hm := hm.below' hB; clear hB
  exact gN rfl (gA rfl (gE (gRt (gr1 results250 rfl ⟨rfl, hm.below⟩))))
theorem impl_sets_ok (w0 : World) (op : Int) :
    ConM Tryz.prog 165 [(nV op)] w0 (impl_sets op) fun r v w' => v = (.bool (r)) ∧ Below w0.heap.size w0 w' := by
  unfold impl_sets
  refine gcon func165 rfl fun r => ?_
  have hm := Mem.start w0
  refine gS (gR (gA rfl (gE (gS (gJ hm (fun aA => [(2, (.bool (aA)))]) (fun aA => []) (fun aA => ?_) ?_)))))
  ·
   refine gR (gM rfl (gC hm rfl call243 (impl_isIns_ok _ op) fun aD aE w hm => gM rfl (gs 5 rfl (fun aB => ?_) fun aB => ?_)))
   ·
    refine gM rfl (gB rfl (gKt rfl (gM rfl (gsd 9 rfl (fun aC => ?_) fun aC => ?_))))
    ·
     exact gM rfl (gB rfl (gKt rfl (gA rfl (gE (gz hm [] rfl)))))
    exact gO rfl (gO rfl (gKf rfl (gA rfl (gE (gz hm [] rfl)))))
   exact gO rfl (gO rfl (gKf rfl (gM rfl (gO rfl (gO rfl (gKf rfl (gA rfl (gE (gz hm [] rfl)))))))))
  repeat clear hm
  intro aA w hm
  exact gRt (gr1 results165 rfl ⟨rfl, hm.below⟩)
theorem impl_isByte_ok (w0 : World) (n_ : Int) :
    ConM Tryz.prog 251 [(nV n_)] w0 (impl_isByte n_) fun r v w' => v = (.bool (r)) ∧ Below w0.heap.size w0 w' := by
  unfold impl_isByte
  refine gcon func251 rfl fun r => ?_
  have hm := Mem.start w0
  exact gS (gR (gA rfl (gE (gS (gR (gM rfl (gC hm rfl call47 (impl_within_ok _ n_ 0 255) fun aA aB w hm => gA rfl (gE (gRt (gr1 results251 rfl ⟨rfl, hm.below⟩))))))))))
theorem impl_insArgs_ok (w0 : World) (op : Int) :
    ConM Tryz.prog 252 [(nV op)] w0 (impl_insArgs op) fun r v w' => v = (nV r) ∧ Below w0.heap.size w0 w' := by
  unfold impl_insArgs
  refine gcon func252 rfl fun r => ?_
  have hm := Mem.start w0
  refine gS (gR (gA rfl (gE (gS (gS (gR (gM rfl (gE (gBk (gS (gR (gB rfl (gA rfl (gE (gsd 4 rfl (fun aD => ?_) fun aD => ?_)))))))))))))))
  ·
   exact gct rfl (gS (gR (gA rfl (gE (gRt (gr1 results252 rfl ⟨rfl, hm.below⟩))))))
  refine gcf rfl (gS (gS (gR (gB rfl (gA rfl (gE (gJ hm (fun aA => [(6, (.bool (aA)))]) (fun aA => []) (fun aA => ?_) ?_)))))))
  ·
   refine gsd 6 rfl (fun aE => ?_) fun aE => ?_
   ·
    exact gct rfl (gSk (gz hm [] rfl))
   refine gcf rfl (gS (gR (gB rfl (gA rfl (gE (gJ hm (fun aB => [(6, (.bool (aB)))]) (fun aB => []) (fun aB => ?_) ?_))))))
   ·
    refine gsd 6 rfl (fun aF => ?_) fun aF => ?_
    ·
     exact gct rfl (gSk (gz hm [] rfl))
    refine gcf rfl (gS (gR (gB rfl (gA rfl (gE (gJ hm (fun aC => [(6, (.bool (aC)))]) (fun aC => []) (fun aC => ?_) ?_))))))
    ·
     refine gsd 6 rfl (fun aG => ?_) fun aG => ?_
     ·
      exact gct rfl (gSk (gz hm [] rfl))
     exact gcf rfl (gR (gB rfl (gA rfl (gE (gz hm [] rfl)))))
    repeat clear hm
    intro aC w hm
    exact gz hm [] rfl
   repeat clear hm
   intro aB w hm
   exact gz hm [] rfl
  repeat clear hm
  intro aA w hm
  refine gs 6 rfl (fun aH => ?_) fun aH => ?_
  ·
   exact gct rfl (gS (gR (gA rfl (gE (gRt (gr1 results252 rfl ⟨rfl, hm.below⟩))))))
  exact gcf rfl (gSk (gS (gR (gA rfl (gE (gRt (gr1 results252 rfl ⟨rfl, hm.below⟩)))))))
theorem impl_insOk_ok (w0 : World) (u : Unit_) (v1 : Value) (h1 : GT.rep (hp w0) [v1] u.codes) (k_ : Int) (x_ : Ins_) (v2 : Value) (h2 : GT.rep (hp w0) [v2] x_.args) :
    ConM Tryz.prog 185 [(.agg #[v1]), (nV k_), (.agg #[(nV x_.op), (nV x_.to), v2, (nV x_.n_)])] w0 (impl_insOk u k_ x_) fun r v w' => v = (.bool (r)) ∧ Below w0.heap.size w0 w' := by
  unfold impl_insOk
  refine gcon func185 rfl fun r => ?_
  have hm := Mem.start w0
  refine gS (gR (gBx hm rfl fun aA w hm => gBx hm rfl fun aB w hm => gA rfl (gE (gS (gR (gF fo_28_0 rfl (gL hm 1 isAgg26 rfl (gM rfl (gg fun aC aR aN => ?_)))))))))
  obtain ⟨aF, aG, aH, he⟩ := idx_form' h1 aN
  subst he
  obtain ⟨aO, aS, aP⟩ := rk_Code_ h1 aN
  refine gI st_26 aR (idx_lt aN) rfl (gY (yn (aS.mono hm.lez) isAgg49 sizeOf49 rfl) (gAl hm zeroValue49 rfl fun aD w hm => gSN hm 0 sizeOf49 (one_cons rfl (one_cons rfl (one_cons (rep_one aP) one_nil))) rfl fun w hm => gE (gS (gR (gY (yU rfl) (gAl hm zeroValue95 rfl fun aE w hm => gS1 hm 0 sizeOf95 rfl rfl fun w hm => gE (gS (gS (gJ hm (fun aI => [(1, (nV k_)), (3, (pV aA)), (5, (pV aB)), (8, (pV aE)), (24, (.bool (aI)))]) (fun aI => [blk aA [(sV aF aG u.codes.length aH)] 28, blk aB [(nV x_.op), (nV x_.to), v2, (nV x_.n_)] 65, blk aE [(.func (.func 249) #[] #[(pV aD)])] 95, blk aD [(nV aC.params), (nV aC.regs), aO] 49]) (fun aI => ?_) ?_)))))))))
  ·
   refine gR (gF fo_65_0 rfl (gL hm 2 isAgg3 rfl (gC hm rfl call243 (impl_isIns_ok _ x_.op) fun an ao w hm => gN rfl (gM rfl (gsn 19 rfl (fun aT => ?_) fun aT => ?_)))))
   ·
    exact gO rfl (gO rfl (gO rfl (gO rfl (gKt rfl (gE (gz hm [3, 2, 0, 1] rfl))))))
   exact gF fo_65_2 rfl (gL hm 2 isAgg43 rfl (gY (yU rfl) (gC hm rfl call181 (slices_ContainsFunc_S_int_int_ok _ x_.args v2 (hm.now h2) (fun y0 => impl_insOk_2 y0 aC) (.func (.func 250) #[] #[(pV aE)]) (fun w y0 r hB hq => ⟨250, [(pV aE)], rfl, call250, impl_insOk_2_ok w y0 aC aO (rep_later (hm.now aP) hB) aD (hm.blk_later 1 rfl hB) aE (hm.blk_later 0 rfl hB) r hq⟩)) fun ap aq w hm => gKf rfl (gE (gz hm [3, 2, 0, 1] rfl)))))
  repeat clear hm
  intro aI w hm
  refine gs 24 rfl (fun aV => ?_) fun aV => ?_
  ·
   exact gct rfl (gS (gR (gA rfl (gE (gRt (gr1 results185 rfl ⟨rfl, hm.below⟩))))))
  refine gcf rfl (gSk (gS (gS (gJ hm (fun aJ => [(1, (nV k_)), (3, (pV aA)), (5, (pV aB)), (45, (.bool (aJ)))]) (fun aJ => [blk aA [(sV aF aG u.codes.length aH)] 28, blk aB [(nV x_.op), (nV x_.to), v2, (nV x_.n_)] 65]) (fun aJ => ?_) ?_))))
  ·
   refine gR (gF fo_65_0 rfl (gL hm 1 isAgg3 rfl (gC hm rfl call165 (impl_sets_ok _ x_.op) fun ar au w hm => gM rfl (gs 28 rfl (fun aW => ?_) fun aW => ?_))))
   ·
    refine gL hm 2 isAgg95 rfl (gF fo_65_1 rfl (gL hm 1 isAgg3 rfl (gb fun av aX => gf rfl (fun a hf => e_callv hf rfl rfl rfl ⟨249, [(pV aD)], rfl, call249, impl_insOk_1_ok _ x_.to aC aO (rep_later (hm.now aP) (Below.refl _ _)) aD (hm.blk_later 3 rfl (Below.refl _ _)) _ aX⟩) ?_)))
    rintro aw w ⟨rfl, hB⟩
    replace hm := hm.below' hB; clear hB
    refine gN rfl (gKt rfl (gM rfl (gsn 35 rfl (fun aY => ?_) fun aY => ?_)))
    ·
     exact gO rfl (gO rfl (gO rfl (gO rfl (gO rfl (gO rfl (gO rfl (gO rfl (gO rfl (gKt rfl (gE (gz hm [0, 1] rfl)))))))))))
    refine gF fo_65_0 rfl (gL hm 1 isAgg3 rfl (gC hm rfl call165 (impl_sets_ok _ x_.op) fun ax ay w hm => gN rfl (gM rfl (gsn 40 rfl (fun aZ => ?_) fun aZ => ?_))))
    ·
     exact gF fo_65_1 rfl (gL hm 1 isAgg3 rfl (gB rfl (gKt rfl (gKf rfl (gE (gz hm [0, 1] rfl))))))
    exact gO rfl (gO rfl (gO rfl (gKf rfl (gKf rfl (gE (gz hm [0, 1] rfl))))))
   refine gO rfl (gO rfl (gO rfl (gO rfl (gO rfl (gKf rfl (gM rfl (gF fo_65_0 rfl (gL hm 1 isAgg3 rfl (gC hm rfl call165 (impl_sets_ok _ x_.op) fun az bA w hm => gN rfl (gM rfl (gsn 40 rfl (fun aa => ?_) fun aa => ?_)))))))))))
   ·
    exact gF fo_65_1 rfl (gL hm 1 isAgg3 rfl (gB rfl (gKt rfl (gKf rfl (gE (gz hm [0, 1] rfl))))))
   exact gO rfl (gO rfl (gO rfl (gKf rfl (gKf rfl (gE (gz hm [0, 1] rfl))))))
  repeat clear hm
  intro aJ w hm
  refine gs 45 rfl (fun ab => ?_) fun ab => ?_
  ·
   exact gct rfl (gS (gR (gA rfl (gE (gRt (gr1 results185 rfl ⟨rfl, hm.below⟩))))))
  refine gcf rfl (gSk (gS (gS (gR (gF fo_65_0 rfl (gL hm 1 isAgg3 rfl (gE (gBk (gS (gR (gB rfl (gA rfl (gE (gsd 48 rfl (fun ac => ?_) fun ac => ?_))))))))))))))
  ·
   refine gct rfl (gS (gJ hm (fun aK => [(6, (.bool (aK)))]) (fun aK => []) (fun aK => ?_) ?_))
   ·
    refine gR (gF fo_65_2 rfl (gL hm 1 isAgg43 rfl ?_))
    obtain ⟨bB, bC, rfl, bD⟩ := ro_slice h2
    refine gY (yV st_43 rfl) (gB rfl (gM rfl (gsd 54 rfl (fun ae => ?_) fun ae => ?_)))
    ·
     exact gF fo_65_3 rfl (gL hm 1 isAgg3 rfl (gC hm rfl call251 (impl_isByte_ok _ x_.n_) fun bE bF w hm => gKt rfl (gA rfl (gE (gz hm [] rfl)))))
    exact gO rfl (gO rfl (gO rfl (gKf rfl (gA rfl (gE (gz hm [] rfl))))))
   repeat clear hm
   intro aK w hm
   exact gRt (gr1 results185 rfl ⟨rfl, hm.below⟩)
  refine gcf rfl (gS (gR (gB rfl (gA rfl (gE (gsd 59 rfl (fun af => ?_) fun af => ?_))))))
  ·
   refine gct rfl (gS (gJ hm (fun aL => [(6, (.bool (aL)))]) (fun aL => []) (fun aL => ?_) ?_))
   ·
    refine gW (.p 0 (.p 2 (.p 3 (.e 1 (.e 4 (.p 5 (.p 6 (.p 9 (.p 11 (.q 7 (.p 8 (.q 10 (.e 12 (.p 13 (.p 14 (.e 15 (.p 16 (.p 17 (.p 18 .fin))) .nil))) .nil)))))))) .nil) .nil)))) [7, 10, 12, 15] [0, 2, 3, 5, 6, 8, 9, 11, 13, 14, 16, 17, 18] hm [0, 1] [blk aA [(sV aF aG u.codes.length aH)] 28, blk aB [(nV x_.op), (nV x_.to), v2, (nV x_.n_)] 65] rfl mxo (by kernel_rfl) (fun _ _ _ h => h.2) fun w hm hS => tP rfl (fun w => yF fo_65_3 rfl) (tP rfl (fun w => yM rfl) (tP rfl (fun w => yB rfl) (tO (tY rfl (yL hm 1 isAgg3 rfl) (tAn rfl (tO (gb fun bG ah => tf rfl rfl (fun a hf => e_call hf rfl call47 rfl (impl_within_ok _ x_.n_ 0 (w64 (k_ - 1)) _ ah)) ?_)))))))
    rintro bH w ⟨rfl, hB⟩
    replace hm := hm.below' hB; clear hB
    refine tAk hm [0, 1] rfl fun hS => tP rfl (fun w => yM rfl) (gs 66 rfl (fun ai => ?_) fun ai => ?_)
    ·
     refine tP rfl (fun w => yF fo_65_2 rfl) (tP rfl (fun w => yF fo_28_0 rfl) (tP rfl (fun w => yF fo_65_3 rfl) (tQ rfl hS (fun w hm => yL hm 1 isAgg43 rfl) ?_)))
     obtain ⟨bJ, bK, rfl, bL⟩ := ro_slice h2
     refine tP rfl (fun w => yV st_43 rfl) (tQ rfl hS (fun w hm => yL hm 0 isAgg26 rfl) (tO (tY rfl (yL hm 1 isAgg3 rfl) (tAs hS (gg fun bM aj aQ => ?_)))))
     obtain ⟨bN, ak, bO⟩ := rk_Code_ h1 aQ
     exact tP rfl (fun w => yI st_26 aj (idx_lt aQ) rfl) (tP rfl (fun w => yF fo_49_0 rfl) (tO (tY rfl (yl isAgg3 ((ak.mono hm.lez).cell (j := 0) rfl) rfl) (tAs hS (tP rfl (fun w => yB rfl) (tP rfl (fun w => yKt rfl) (tP rfl (fun w => yA rfl) (tE (gz hm [] rfl)))))))))
    exact tPo rfl rfl (tPo rfl rfl (tPo rfl rfl (tQo rfl hS rfl (tPo rfl rfl (tQo rfl hS rfl (tO (tEo rfl rfl (tAs hS (tPo rfl rfl (tPo rfl rfl (tO (tEo rfl rfl (tAs hS (tPo rfl rfl (tP rfl (fun w => yKf rfl) (tP rfl (fun w => yA rfl) (tE (gz hm [] rfl))))))))))))))))))
   repeat clear hm
   intro aL w hm
   exact gRt (gr1 results185 rfl ⟨rfl, hm.below⟩)
  refine gcf rfl (gSk (gS (gJ hm (fun aM => [(6, (.bool (aM)))]) (fun aM => []) (fun aM => ?_) ?_)))
  ·
   refine gW (.p 0 (.e 1 (.p 2 (.p 3 (.p 4 (.p 7 (.q 5 (.p 6 (.e 8 (.e 9 (.p 10 (.p 11 (.p 12 .fin))) .nil) .nil))))))) .nil)) [8, 9] [0, 2, 3, 4, 6, 7, 10, 11, 12] hm [0, 1] [blk aA [(sV aF aG u.codes.length aH)] 28, blk aB [(nV x_.op), (nV x_.to), v2, (nV x_.n_)] 65] rfl mxo (by kernel_rfl) (fun _ _ _ h => h.2) fun w hm hS => tP rfl (fun w => yF fo_65_3 rfl) (tO (tY rfl (yL hm 1 isAgg3 rfl) (tAn rfl (tP rfl (fun w => yB rfl) (tP rfl (fun w => yM rfl) (gsd 82 rfl (fun al => ?_) fun al => ?_))))))
   ·
    refine tP rfl (fun w => yF fo_65_2 rfl) (tP rfl (fun w => yF fo_65_0 rfl) (tQ rfl hS (fun w hm => yL hm 1 isAgg43 rfl) ?_))
    obtain ⟨bP, bQ, rfl, bR⟩ := ro_slice h2
    refine tP rfl (fun w => yV st_43 rfl) (tO (tY rfl (yL hm 1 isAgg3 rfl) (tAs hS (tO (gb fun bS am => tf rfl rfl (fun a hf => e_call hf rfl call252 rfl (impl_insArgs_ok _ x_.op _ am)) ?_)))))
    rintro bT w ⟨rfl, hB⟩
    replace hm := hm.below' hB; clear hB
    exact tAk hm [0, 1] rfl fun hS => tP rfl (fun w => yB rfl) (tP rfl (fun w => yKt rfl) (tP rfl (fun w => yA rfl) (tE (gz hm [] rfl))))
   exact tPo rfl rfl (tPo rfl rfl (tQo rfl hS rfl (tPo rfl rfl (tO (tEo rfl rfl (tAs hS (tO (tEo rfl rfl (tAs hS (tPo rfl rfl (tP rfl (fun w => yKf rfl) (tP rfl (fun w => yA rfl) (tE (gz hm [] rfl))))))))))))))
  repeat clear hm
  intro aM w hm
  exact gRt (gr1 results185 rfl ⟨rfl, hm.below⟩)
theorem impl_codeOk_3_ok (w0 : World) (i_ : Ins_) (v1 : Value) (h1 : GT.rep (hp w0) [v1] i_.args) (c0_ : Unit_) (v2 : Value) (h2 : GT.rep (hp w0) [v2] c0_.codes) (bf0 : Nat) (hbf0 : w0.heap[bf0]? = some (.cells ([v2] : List Value).toArray 28 (0, 0))) (c1_ : Int) (bf1 : Nat) (hbf1 : w0.heap[bf1]? = some (.cells ([(nV c1_)] : List Value).toArray 3 (0, 0))) :
    ConM Tryz.prog 184 [(.agg #[(nV i_.op), (nV i_.to), v1, (nV i_.n_)]), (pV bf0), (pV bf1)] w0 (impl_codeOk_3 i_ c0_ c1_) fun r v w' => v = (.bool (r)) ∧ Below w0.heap.size w0 w' := by
  unfold impl_codeOk_3
  refine gcon func184 rfl fun r => ?_
  have hm := Mem.start w0
  exact gS (gR (gBx hm rfl fun aA w hm => gA rfl (gE (gS (gR (gY (yn (hm.old_at hbf0) isAgg28 sizeOf28 rfl) (gY (yl isAgg3 (hm.old_cell hbf1 rfl) rfl) (gY (yn (hm.blk_at 0 rfl) isAgg65 sizeOf65 rfl) (gC hm rfl call185 (impl_insOk_ok _ c0_ v2 (hm.now h2) c1_ i_ v1 (hm.now h1)) fun aB aC w hm => gN rfl (gA rfl (gE (gRt (gr1 results184 rfl ⟨rfl, hm.below⟩)))))))))))))
theorem slices_IndexFunc_S_impl_Ins_impl_Ins_ok (w0 : World) (s_ : List Ins_) (v1 : Value) (h1 : GT.rep (hp w0) [v1] s_) (f : Ins_ → Option Bool) (fv1 : Value) (hfn1 : ∀ (w : World) (y0 : Ins_) (z1 : Value) (_ : GT.rep (hp w) [z1] y0.args) (r : Bool), Below w0.heap.size w0 w → f y0 = some r → FnOk Tryz.prog fv1 [(.agg #[(nV y0.op), (nV y0.to), z1, (nV y0.n_)])] w (fun v w' => v = (.bool (r)) ∧ Below w.heap.size w w')) :
    ConM Tryz.prog 248 [v1, fv1] w0 (slices_IndexFunc_S_impl_Ins_impl_Ins s_ f) fun r v w' => v = (nV r) ∧ Below w0.heap.size w0 w' := by
  unfold slices_IndexFunc_S_impl_Ins_impl_Ins
  refine gcon func248 rfl fun r => ?_
  have hm := Mem.start w0
  refine gS (gR (gA rfl (gE (gS (gS (gR (gM rfl ?_)))))))
  obtain ⟨aD, aE, rfl, aO⟩ := ro_slice h1
  refine gY (yV st_61 rfl) (gM rfl (gE (gBk (gNf hm (fun aA aC => [(0, (.slice aD s_.length aE)), (1, fv1), (7, (nV ((s_.length : Int)))), (8, (nV aA))]) (fun aA aC => []) [] rfl ?_ ?_))))
  ·
   repeat clear hm
   intro aP aF aA aC w hm aQ aR aS aG
   refine gS (gR (gB rfl (gE (gS (go _ 9 rfl (decide_eq_true (by omega)) (gct rfl (gSk (gS (gBk (gS (gR (gM rfl (gA rfl (gE (gS (gR (gM rfl (gM rfl (gM rfl (gg fun aH aI aB => ?_))))))))))))))))))))
   obtain ⟨aT, aV, aW, he⟩ := idx_form' h1 aB
   obtain ⟨rfl, _, rfl⟩ := sl3 he
   obtain ⟨aJ, aK, aL⟩ := rk_Ins_ h1 aB
   refine gI st_61 aI (idx_lt aB) rfl (gY (yn (aK.mono hm.lez) isAgg65 sizeOf65 rfl) (gb fun aX aM => gf rfl (fun a hf => e_callv hf rfl rfl rfl (hfn1 _ aH aJ (hm.now aL) _ hm.below aM)) ?_))
   rintro aY w ⟨rfl, hB⟩
   replace hm := hm.below' hB; clear hB
   refine gE (gs 16 rfl (fun aN => ?_) fun aN => ?_)
   ·
    exact gct rfl (gS (gR (gM rfl (gA rfl (gE (gRt (gLr aG aF (gr1 results248 rfl ⟨rfl, hm.below⟩))))))))
   exact gcf rfl (gSk (gR (gP (by omega) (by omega) rfl (gM rfl (gE (gze hm [] rfl))))))
  repeat clear hm
  intro aZ aa w hm ab ac
  exact gS (gR (gB rfl (gE (gS (go _ 9 rfl (decide_eq_false (by omega)) (gcf rfl (gXt (gHh (gS (gR (gA rfl (gE (gRt (gr1 results248 rfl ⟨rfl, hm.below⟩))))))))))))))
theorem slices_ContainsFunc_S_impl_Ins_impl_Ins_ok (w0 : World) (s_ : List Ins_) (v1 : Value) (h1 : GT.rep (hp w0) [v1] s_) (f : Ins_ → Option Bool) (fv1 : Value) (hfn1 : ∀ (w : World) (y0 : Ins_) (z1 : Value) (_ : GT.rep (hp w) [z1] y0.args) (r : Bool), Below w0.heap.size w0 w → f y0 = some r → FnOk Tryz.prog fv1 [(.agg #[(nV y0.op), (nV y0.to), z1, (nV y0.n_)])] w (fun v w' => v = (.bool (r)) ∧ Below w.heap.size w w')) :
    ConM Tryz.prog 183 [v1, fv1] w0 (slices_ContainsFunc_S_impl_Ins_impl_Ins s_ f) fun r v w' => v = (.bool (r)) ∧ Below w0.heap.size w0 w' := by
  unfold slices_ContainsFunc_S_impl_Ins_impl_Ins
  refine gcon func183 rfl fun r => ?_
  have hm := Mem.start w0
  exact gS (gR (gA rfl (gE (gS (gR (gM rfl (gM rfl (gC hm rfl call248 (slices_IndexFunc_S_impl_Ins_impl_Ins_ok _ s_ v1 (hm.now h1) f fv1 (fun w y0 aA aB r hB hq => hfn1 w y0 aA aB r (hm.below.trans (hB.mono hm.below.size)) hq)) fun aC aD w hm => gB rfl (gA rfl (gE (gRt (gr1 results183 rfl ⟨rfl, hm.below⟩))))))))))))
theorem slices_Index_S_int_int_ok (w0 : World) (s_ : List Int) (v1 : Value) (h1 : GT.rep (hp w0) [v1] s_) (v_ : Int) :
    ConM Tryz.prog 160 [v1, (nV v_)] w0 (slices_Index_S_int_int s_ v_) fun r v w' => v = (nV r) ∧ Below w0.heap.size w0 w' := by
  unfold slices_Index_S_int_int
  refine gcon func160 rfl fun r => ?_
  have hm := Mem.start w0
  refine gS (gR (gA rfl (gE (gS (gS (gR (gM rfl ?_)))))))
  obtain ⟨aD, aE, rfl, aK⟩ := ro_slice h1
  refine gY (yV st_43 rfl) (gM rfl (gE (gBk (gNf hm (fun aA aC => [(0, (.slice aD s_.length aE)), (1, (nV v_)), (7, (nV ((s_.length : Int)))), (8, (nV aA))]) (fun aA aC => []) [] rfl ?_ ?_))))
  ·
   repeat clear hm
   intro aL aF aA aC w hm aM aN aO aG
   refine gS (gR (gB rfl (gE (gS (go _ 9 rfl (decide_eq_true (by omega)) (gct rfl (gSk (gS (gBk (gS (gR (gM rfl (gA rfl (gE (gS (gR (gM rfl (gM rfl (gM rfl (gg fun aH aI aB => ?_))))))))))))))))))))
   obtain ⟨aP, aQ, aR, he⟩ := idx_form h1 aB
   obtain ⟨rfl, _, rfl⟩ := sl3 he
   refine gI st_43 aI (idx_lt aB) rfl (gY (yl isAgg3 ((flat_cells (cs := [(nV aH)]) (hm.now h1) aB rfl).cell (j := 0) rfl) rfl) (gB rfl (gE (gsd 16 rfl (fun aJ => ?_) fun aJ => ?_))))
   ·
    exact gct rfl (gS (gR (gM rfl (gA rfl (gE (gRt (gLr aG aF (gr1 results160 rfl ⟨rfl, hm.below⟩))))))))
   exact gcf rfl (gSk (gR (gP (by omega) (by omega) rfl (gM rfl (gE (gze hm [] rfl))))))
  repeat clear hm
  intro aS aT w hm aV aW
  exact gS (gR (gB rfl (gE (gS (go _ 9 rfl (decide_eq_false (by omega)) (gcf rfl (gXt (gHh (gS (gR (gA rfl (gE (gRt (gr1 results160 rfl ⟨rfl, hm.below⟩))))))))))))))
theorem slices_Contains_S_int_int_ok (w0 : World) (s_ : List Int) (v1 : Value) (h1 : GT.rep (hp w0) [v1] s_) (v_ : Int) :
    ConM Tryz.prog 96 [v1, (nV v_)] w0 (slices_Contains_S_int_int s_ v_) fun r v w' => v = (.bool (r)) ∧ Below w0.heap.size w0 w' := by
  unfold slices_Contains_S_int_int
  refine gcon func96 rfl fun r => ?_
  have hm := Mem.start w0
  exact gS (gR (gA rfl (gE (gS (gR (gM rfl (gM rfl (gC hm rfl call160 (slices_Index_S_int_int_ok _ s_ v1 (hm.now h1) v_) fun aA aB w hm => gB rfl (gA rfl (gE (gRt (gr1 results96 rfl ⟨rfl, hm.below⟩))))))))))))
theorem impl_PredsOf_ok (w0 : World) (c_ : Code_) (v1 : Value) (h1 : GT.rep (hp w0) [v1] c_.blocks) (b_ : Int) :
    ConM Tryz.prog 113 [(.agg #[(nV c_.params), (nV c_.regs), v1]), (nV b_)] w0 (impl_PredsOf c_ b_) fun r v w' => ∃ (x1 : Value), v = x1 ∧ Mem w0 (hp w0) w' [ow [x1] r] := by
  unfold impl_PredsOf
  refine gcon func113 rfl fun r => ?_
  have hm := Mem.start w0
  refine gS (gR (gBx hm rfl fun ab w hm => gA rfl (gE (gS (gR (gA rfl (gE (gS (gS (gR (gM rfl (gF fo_49_2 rfl (gL hm 0 isAgg47 rfl ?_)))))))))))))
  obtain ⟨aI, aE, rfl, ac⟩ := ro_slice h1
  refine gY (yV st_47 rfl) (gY (yS (by omega) (by omega) rfl) (gC hm rfl call47 (impl_within_ok _ b_ 0 (((c_.blocks.length : Int)) - 1)) fun ae af w hm => gN rfl (gE (gsn 14 rfl (fun aL => ?_) fun aL => ?_))))
  ·
   refine gct rfl (gS (gR (gA rfl (gE (gRt ?_)))))
   replace hm := hm.nilow (α := Int)
   exact gr1 results113 rfl ⟨(.slice none 0 0), rfl, hm.pk [0] rfl rfl⟩
  refine gcf rfl (gSk (gS (gS (gR (gF fo_49_2 rfl (gL hm 0 isAgg47 rfl (gY (yV st_47 rfl) (gM rfl (gE (gBk ?_))))))))))
  replace hm := hm.nilow (α := Int)
  refine gNg (fun aA aJ a w => ∃ (aB : Value), St 33 [(1, (nV b_)), (5, aB), (16, (.slice aI c_.blocks.length aE)), (17, (nV ((c_.blocks.length : Int)))), (18, (nV aA))] w0 (hp w0) [ow [aB] aJ] a w) (fun a hf => ⟨(.slice none 0 0), hf.sb rfl, hm.pk [0] rfl rfl⟩) ?_ ?_
  ·
   repeat clear hm
   rintro _ _ aA aJ a w ⟨aB, hf, hm⟩ ah ai aj _
   refine gv hf (gS (gR (gB rfl (gE (gS (go _ 19 rfl (decide_eq_true (by omega)) (gct rfl (gSk (gS (gJg (fun aF a w => ∃ (aC : Value), St 33 [(1, (nV b_)), (5, aC), (16, (.slice aI c_.blocks.length aE)), (17, (nV ((c_.blocks.length : Int)))), (18, (nV aA))] w0 (hp w0) [ow [aC] aF] a w) (fun aF => ?_) ?_))))))))))
   ·
    refine gBk (gS (gR (gM rfl (gg fun aM aN aG => ?_))))
    obtain ⟨aO, aP, ak, he⟩ := idx_form' h1 aG
    obtain ⟨rfl, _, rfl⟩ := sl3 he
    obtain ⟨al, am, aQ, aR, aS, aT, aK⟩ := rk_Block_ h1 aG
    refine gI st_47 aN (idx_lt aG) rfl (gY (yn (aR.mono hm.lez) isAgg63 sizeOf63 rfl) (gAl hm zeroValue63 rfl fun an w hm => gA rfl (gSN hm 0 sizeOf63 (one_cons (rep_one aS) (one_cons (rep_one aT) (one_cons rfl (one_cons rfl (one_cons (rep_one aK) one_nil))))) rfl fun w hm => gE (gS (gR (gF fo_63_4 rfl (gL hm 0 isAgg43 rfl (gM rfl (gC hm rfl call96 (slices_Contains_S_int_int_ok _ aM.next_ aQ (hm.now aK) b_) fun ao ap w hm => gE (gJg (fun aH a w => ∃ (aD : Value), St 33 [(1, (nV b_)), (5, aD), (16, (sV aO aP c_.blocks.length aE)), (17, (nV ((c_.blocks.length : Int)))), (18, (nV aA))] w0 (hp w0) [ow [aD] aH] a w) (fun aH => ?_) ?_))))))))))
    ·
     refine gs 26 rfl (fun aV => ?_) fun aV => ?_
     ·
      refine gct rfl (gR (gM rfl (gM rfl (gf rfl (fun a hf => e_build (vs := #[(0, (nV aA))]) (cs := [(nV aA)]) et_43 hf hm rfl rfl (by kernel_rfl) rfl rfl) ?_))))
      rintro _ w ⟨aq, rfl, hm⟩
      replace hm := hm.lit (xs := ([aA] : List Int)) 0 rfl rfl rfl rfl
      refine gb fun ar aW => ?_
      obtain ⟨aX, aY⟩ := appM_some.1 aW
      refine gf rfl (fun a hf => e_append 2 et_43 hf hm rfl (hm.ow_rep 0 rfl) rfl rfl rfl aX) ?_
      rintro aZ w hm
      rw [aY] at hm
      exact gA rfl (gE (gZ fun a hf => ⟨aZ, hf.sb rfl, hm.pk [2] rfl rfl⟩))
     exact gcf rfl (gSk (gZ fun a hf => ⟨aB, hf.sb rfl, hm.pk [1] rfl rfl⟩))
    repeat clear hm
    rintro aH a w ⟨aD, hf, hm⟩
    exact gv hf (gZ fun a hf => ⟨aD, hf.sb rfl, hm.pk [0] rfl rfl⟩)
   repeat clear hm
   rintro aF a w ⟨aC, hf, hm⟩
   exact gv hf (gR (gP (by omega) (by omega) rfl (gM rfl (gE (gZe fun a hf => ⟨aC, hf.sb rfl, hm.pk [0] rfl rfl⟩)))))
  repeat clear hm
  rintro au av a w ⟨aa, hf, hm⟩ aw ax
  exact gv hf (gS (gR (gB rfl (gE (gS (go _ 19 rfl (decide_eq_false (by omega)) (gcf rfl (gXt (gHh (gS (gR (gM rfl (gA rfl (gE (gRt (gr1 results113 rfl ⟨aa, rfl, hm.pk [0] rfl rfl⟩))))))))))))))))
theorem impl_codeOk_4_ok (w0 : World) (r_ : Int) (c0_0_ : Code_) (v1 : Value) (h1 : GT.rep (hp w0) [v1] c0_0_.blocks) (aA : Nat) (aB : w0.heap[aA]? = some (.cells ([(nV c0_0_.params), (nV c0_0_.regs), v1] : List Value).toArray 49 (0, 0))) (bf0 : Nat) (hbf0 : w0.heap[bf0]? = some (.cells ([(.func (.func 179) #[] #[(pV aA)])] : List Value).toArray 95 (0, 0))) :
    ConM Tryz.prog 186 [(nV r_), (pV bf0)] w0 (impl_codeOk_4 r_ c0_0_) fun r v w' => v = (.bool (r)) ∧ Below w0.heap.size w0 w' := by
  unfold impl_codeOk_4
  refine gcon func186 rfl fun r => ?_
  have hm := Mem.start w0
  refine gS (gR (gA rfl (gE (gS (gR (gY (yl isAgg95 (hm.old_cell hbf0 rfl) rfl) (gM rfl (gb fun aD aC => gf rfl (fun a hf => e_callv hf rfl rfl rfl ⟨179, [(pV aA)], rfl, call179, impl_codeOk_1_ok _ r_ c0_0_ v1 (rep_later (hm.now h1) (Below.refl _ _)) aA (hm.old_later aB (Below.refl _ _)) _ aC⟩) ?_))))))))
  rintro aE w ⟨rfl, hB⟩
  replace hm := hm.below' hB; clear hB
  exact gN rfl (gA rfl (gE (gRt (gr1 results186 rfl ⟨rfl, hm.below⟩))))
theorem impl_codeOk_ok (w0 : World) (u : Unit_) (v1 : Value) (h1 : GT.rep (hp w0) [v1] u.codes) (k_ : Int) :
    ConM Tryz.prog 116 [(.agg #[v1]), (nV k_)] w0 (impl_codeOk u k_) fun r v w' => v = (.bool (r)) ∧ Below w0.heap.size w0 w' := by
  unfold impl_codeOk
  refine gcon func116 rfl fun r => ?_
  have hm := Mem.start w0
  refine gS (gR (gBx hm rfl fun aD w hm => gBx hm rfl fun aE w hm => gA rfl (gE (gS (gR (gF fo_28_0 rfl (gL hm 1 isAgg26 rfl (gL hm 0 isAgg3 rfl (gg fun aA ap aY => ?_)))))))))
  obtain ⟨aL, aM, aN, he⟩ := idx_form' h1 aY
  subst he
  obtain ⟨aq, ar, aK⟩ := rk_Code_ h1 aY
  refine gI st_26 ap (idx_lt aY) rfl (gY (yn (ar.mono hm.lez) isAgg49 sizeOf49 rfl) (gAl hm zeroValue49 rfl fun aB w hm => gSN hm 0 sizeOf49 (one_cons rfl (one_cons rfl (one_cons (rep_one aK) one_nil))) rfl fun w hm => gE (gS (gS (gJ hm (fun aP => [(2, (pV aD)), (3, (pV aE)), (5, (pV aB)), (36, (.bool (aP)))]) (fun aP => [blk aD [(sV aL aM u.codes.length aN)] 28, blk aE [(nV k_)] 3, blk aB [(nV aA.params), (nV aA.regs), aq] 49]) (fun aP => ?_) ?_)))))
  ·
   refine gR (gF fo_49_1 rfl (gL hm 0 isAgg3 rfl (gC hm rfl call47 (impl_within_ok _ aA.regs 0 300) fun ba bb w hm => gN rfl (gM rfl (gsn 21 rfl (fun au => ?_) fun au => ?_)))))
   ·
    exact gO rfl (gO rfl (gO rfl (gO rfl (gO rfl (gO rfl (gO rfl (gKt rfl (gM rfl (gO rfl (gO rfl (gO rfl (gO rfl (gO rfl (gKt rfl (gE (gz hm [2, 1, 0] rfl))))))))))))))))
   refine gF fo_49_0 rfl (gL hm 0 isAgg3 rfl (gF fo_49_1 rfl (gL hm 0 isAgg3 rfl (gY (yG rfl (y_min rfl rfl rfl)) ?_))))
   have bc : minI 3 aA.regs = min 3 aA.regs := minI_eq _ _
   refine gC hm rfl call47 (impl_within_ok _ aA.params 0 (minI 3 aA.regs)) fun bd be w hm => gN rfl (gKf rfl (gM rfl (gsn 30 rfl (fun av => ?_) fun av => ?_)))
   ·
    exact gO rfl (gO rfl (gO rfl (gO rfl (gO rfl (gKt rfl (gE (gz hm [2, 1, 0] rfl)))))))
   refine gF fo_49_2 rfl (gL hm 0 isAgg47 rfl ?_)
   obtain ⟨bf, bg, rfl, bh⟩ := ro_slice aK
   exact gY (yV st_47 rfl) (gC hm rfl call47 (impl_within_ok _ (aA.blocks.length : Int) 1 160) fun bi bj w hm => gN rfl (gKf rfl (gE (gz hm [2, 1, 0] rfl))))
  repeat clear hm
  intro aP w hm
  refine gs 36 rfl (fun aw => ?_) fun aw => ?_
  ·
   exact gct rfl (gS (gR (gA rfl (gE (gRt (gr1 results116 rfl ⟨rfl, hm.below⟩))))))
  refine gcf rfl (gSk (gS (gR (gY (yU rfl) (gAl hm zeroValue95 rfl fun aG w hm => gS1 hm 0 sizeOf95 rfl rfl fun w hm => gE (gS (gS (gR (gF fo_49_2 rfl (gL hm 3 isAgg47 rfl ?_))))))))))
  obtain ⟨aj, aF, rfl, bk⟩ := ro_slice aK
  refine gY (yV st_47 rfl) (gM rfl (gE (gBk (gNf hm (fun aJ ak => [(2, (pV aD)), (3, (pV aE)), (5, (pV aB)), (6, (pV aG)), (39, (.slice aj aA.blocks.length aF)), (40, (nV ((aA.blocks.length : Int)))), (41, (nV aJ))]) (fun aJ ak => [blk aD [(sV aL aM u.codes.length aN)] 28, blk aE [(nV k_)] 3, blk aB [(nV aA.params), (nV aA.regs), (.slice aj aA.blocks.length aF)] 49, blk aG [(.func (.func 179) #[] #[(pV aB)])] 95]) [1, 2, 3, 0] rfl ?_ ?_))))
  ·
   repeat clear hm
   intro bl aZ aJ ak w hm bm bo bp aa
   refine gS (gR (gB rfl (gE (gS (go _ 42 rfl (decide_eq_true (by omega)) (gct rfl (gSk (gS (gBk (gS (gR (gM rfl (gg fun aC ax ab => ?_)))))))))))))
   obtain ⟨aH, aI, bq, he⟩ := idx_form' aK ab
   obtain ⟨rfl, _, rfl⟩ := sl3 he
   obtain ⟨ac, aQ, aR, ay, aS, al, ae⟩ := rk_Block_ aK ab
   refine gI st_47 ax (idx_lt ab) rfl (gY (yn (ay.mono hm.lez) isAgg63 sizeOf63 rfl) (gAl hm zeroValue63 rfl fun aO w hm => gA rfl (gSN hm 0 sizeOf63 (one_cons (rep_one aS) (one_cons (rep_one al) (one_cons rfl (one_cons rfl (one_cons (rep_one ae) one_nil))))) rfl fun w hm => gE (gS (gS (gJ hm (fun aT => [(2, (pV aD)), (3, (pV aE)), (5, (pV aB)), (6, (pV aG)), (7, (nV aJ)), (8, (pV aO)), (39, (sV aH aI aA.blocks.length aF)), (40, (nV ((aA.blocks.length : Int)))), (41, (nV aJ)), (75, (.bool (aT)))]) (fun aT => [blk aD [(sV aL aM u.codes.length aN)] 28, blk aE [(nV k_)] 3, blk aB [(nV aA.params), (nV aA.regs), (sV aH aI aA.blocks.length aF)] 49, blk aG [(.func (.func 179) #[] #[(pV aB)])] 95, blk aO [ac, aQ, (nV aC.jump), (nV aC.on), aR] 63]) (fun aT => ?_) ?_))))))
   ·
    refine gW (.p 0 (.p 3 (.q 1 (.p 2 (.e 4 (.e 5 (.p 6 (.p 7 (.p 8 (.e 9 (.e 10 (.p 11 (.p 13 (.q 12 (.e 14 (.e 15 (.p 16 (.p 17 (.p 18 (.p 19 (.p 20 (.e 21 (.e 22 (.p 23 (.p 24 (.p 25 (.e 26 (.p 27 (.p 28 (.p 29 .fin))) .nil)))) .nil) .nil)))))) .nil) .nil)))) .nil) .nil)))) .nil) .nil))))) [4, 5, 14] [0, 2, 3, 6, 7, 8, 11, 13, 16, 17, 18, 19, 20, 23, 24, 25, 27, 28, 29] hm [0, 1, 2, 3, 4] [blk aO [ac, aQ, (nV aC.jump), (nV aC.on), aR] 63, blk aD [(sV aL aM u.codes.length aN)] 28, blk aE [(nV k_)] 3, blk aB [(nV aA.params), (nV aA.regs), (sV aH aI aA.blocks.length aF)] 49, blk aG [(.func (.func 179) #[] #[(pV aB)])] 95] rfl mxo (by kernel_rfl) (fun _ _ _ h => h.2) fun w hm hS => tP rfl (fun w => yF fo_63_4 rfl) (tP rfl (fun w => yF fo_63_2 rfl) (tQ rfl hS (fun w hm => yL hm 0 isAgg43 rfl) ?_))
    obtain ⟨br, bs, rfl, bt⟩ := ro_slice ae
    refine tP rfl (fun w => yV st_43 rfl) (tO (tY rfl (yL hm 0 isAgg3 rfl) (tAs hS (tO (gb fun bu az => tf rfl rfl (fun a hf => e_call hf rfl call180 rfl (impl_nextCount_ok _ aC.jump _ az)) ?_)))))
    rintro bv w ⟨rfl, hB⟩
    replace hm := hm.below' hB; clear hB
    refine tAk hm [0, 1, 2, 3, 4] rfl fun hS => tP rfl (fun w => yB rfl) (tP rfl (fun w => yM rfl) (gsd 53 rfl (fun bA => ?_) fun bA => ?_))
    ·
     refine tPo rfl rfl (tO (tEo rfl rfl (tAn rfl (tO (tEo rfl rfl (tAn rfl (tPo rfl rfl (tPo rfl rfl (tQo rfl hS rfl (tO (tEo rfl rfl (tAs hS (tO (tEo rfl rfl (tAn rfl (tPo rfl rfl (tPo rfl rfl (tP rfl (fun w => yKt rfl) (tP rfl (fun w => yM rfl) (tPo rfl rfl (tO (tEo rfl rfl (tAn rfl (tO (tEo rfl rfl (tAn rfl (tPo rfl rfl (tPo rfl rfl (tPo rfl rfl (tO ?_))))))))))))))))))))))))))))))
     exact tEo rfl rfl (tAn rfl (tPo rfl rfl (tPo rfl rfl (tP rfl (fun w => yKt rfl) (tE (gz hm [1, 2, 3, 4, 0] rfl))))))
    refine tP rfl (fun w => yF fo_63_2 rfl) (tO (tY rfl (yL hm 0 isAgg3 rfl) (tAn rfl (tO (gb fun bx bB => tf rfl rfl (fun a hf => e_call hf rfl call166 rfl (impl_usesOn_ok _ aC.jump _ bB)) ?_)))))
    rintro bz w ⟨rfl, hB⟩
    replace hm := hm.below' hB; clear hB
    refine tAk hm [0, 1, 2, 3, 4] rfl fun hS => tP rfl (fun w => yM rfl) (gs 57 rfl (fun bC => ?_) fun bC => ?_)
    ·
     refine tP rfl (fun w => yF fo_63_3 rfl) (tQ rfl hS (fun w hm => yL hm 4 isAgg95 rfl) (tO (tY rfl (yL hm 0 isAgg3 rfl) (tAs hS (tO (gb fun cA bD => tf rfl rfl (fun a hf => e_callv hf rfl rfl rfl ⟨179, [(pV aB)], rfl, call179, impl_codeOk_1_ok _ aC.on aA (sV aH aI aA.blocks.length aF) (rep_later (hm.now aK) (Below.refl _ _)) aB (hm.blk_later 3 rfl (Below.refl _ _)) _ bD⟩) ?_))))))
     rintro cB w ⟨rfl, hB⟩
     replace hm := hm.below' hB; clear hB
     refine tAn rfl (tP rfl (fun w => yN rfl) (tP rfl (fun w => yKt rfl) (tP rfl (fun w => yKf rfl) (tP rfl (fun w => yM rfl) (gsn 65 rfl (fun bE => ?_) fun bE => ?_)))))
     ·
      exact tPo rfl rfl (tO (tEo rfl rfl (tAn rfl (tO (tEo rfl rfl (tAn rfl (tPo rfl rfl (tPo rfl rfl (tPo rfl rfl (tO (tEo rfl rfl (tAn rfl (tPo rfl rfl (tPo rfl rfl (tP rfl (fun w => yKt rfl) (tE (gz hm [1, 2, 3, 4, 0] rfl)))))))))))))))))
     refine tP rfl (fun w => yF fo_63_2 rfl) (tO (tY rfl (yL hm 0 isAgg3 rfl) (tAn rfl (tO (gb fun cC bF => tf rfl rfl (fun a hf => e_call hf rfl call166 rfl (impl_usesOn_ok _ aC.jump _ bF)) ?_)))))
     rintro cD w ⟨rfl, hB⟩
     replace hm := hm.below' hB; clear hB
     refine tAn rfl (tP rfl (fun w => yN rfl) (tP rfl (fun w => yM rfl) (gsn 70 rfl (fun bG => ?_) fun bG => ?_)))
     ·
      exact tP rfl (fun w => yF fo_63_3 rfl) (tO (tY rfl (yL hm 0 isAgg3 rfl) (tAn rfl (tP rfl (fun w => yB rfl) (tP rfl (fun w => yKt rfl) (tP rfl (fun w => yKf rfl) (tE (gz hm [1, 2, 3, 4, 0] rfl))))))))
     exact tPo rfl rfl (tO (tEo rfl rfl (tAn rfl (tPo rfl rfl (tP rfl (fun w => yKf rfl) (tP rfl (fun w => yKf rfl) (tE (gz hm [1, 2, 3, 4, 0] rfl))))))))
    refine tPo rfl rfl (tQo rfl hS rfl (tO (tEo rfl rfl (tAs hS (tO (tEo rfl rfl (tAn rfl (tPo rfl rfl (tP rfl (fun w => yKf rfl) (tP rfl (fun w => yKf rfl) (tP rfl (fun w => yM rfl) (tP rfl (fun w => yF fo_63_2 rfl) (tO (tY rfl (yL hm 0 isAgg3 rfl) (tAn rfl (tO (gb fun cE bH => tf rfl rfl (fun a hf => e_call hf rfl call166 rfl (impl_usesOn_ok _ aC.jump _ bH)) ?_)))))))))))))))))
    rintro cF w ⟨rfl, hB⟩
    replace hm := hm.below' hB; clear hB
    refine tAn rfl (tP rfl (fun w => yN rfl) (tP rfl (fun w => yM rfl) (gsn 70 rfl (fun bJ => ?_) fun bJ => ?_)))
    ·
     exact tP rfl (fun w => yF fo_63_3 rfl) (tO (tY rfl (yL hm 0 isAgg3 rfl) (tAn rfl (tP rfl (fun w => yB rfl) (tP rfl (fun w => yKt rfl) (tP rfl (fun w => yKf rfl) (tE (gz hm [1, 2, 3, 4, 0] rfl))))))))
    exact tPo rfl rfl (tO (tEo rfl rfl (tAn rfl (tPo rfl rfl (tP rfl (fun w => yKf rfl) (tP rfl (fun w => yKf rfl) (tE (gz hm [1, 2, 3, 4, 0] rfl))))))))
   repeat clear hm
   intro aT w hm
   refine gs 75 rfl (fun bK => ?_) fun bK => ?_
   ·
    exact gct rfl (gS (gR (gA rfl (gE (gRt (gLr aa aZ (gr1 results116 rfl ⟨rfl, hm.below⟩)))))))
   refine gcf rfl (gSk (gS (gS (gJ hm (fun aV => [(2, (pV aD)), (3, (pV aE)), (5, (pV aB)), (6, (pV aG)), (7, (nV aJ)), (8, (pV aO)), (39, (sV aH aI aA.blocks.length aF)), (40, (nV ((aA.blocks.length : Int)))), (41, (nV aJ)), (85, (.bool (aV)))]) (fun aV => [blk aD [(sV aL aM u.codes.length aN)] 28, blk aE [(nV k_)] 3, blk aB [(nV aA.params), (nV aA.regs), (sV aH aI aA.blocks.length aF)] 49, blk aG [(.func (.func 179) #[] #[(pV aB)])] 95, blk aO [ac, aQ, (nV aC.jump), (nV aC.on), aR] 63]) (fun aV => ?_) ?_))))
   ·
    refine gR (gF fo_63_4 rfl (gL hm 4 isAgg43 rfl (gY (yU rfl) (gC hm rfl call181 (slices_ContainsFunc_S_int_int_ok _ aC.next_ aR (hm.now ae) (fun y0 => impl_codeOk_2 y0 aA) (.func (.func 182) #[] #[(pV aB)]) (fun w y0 r hB hq => ⟨182, [(pV aB)], rfl, call182, impl_codeOk_2_ok w y0 aA (sV aH aI aA.blocks.length aF) (rep_later (hm.now aK) hB) aB (hm.blk_later 2 rfl hB) r hq⟩)) fun cG cH w hm => gM rfl (gs 80 rfl (fun bL => ?_) fun bL => ?_)))))
    ·
     exact gO rfl (gO rfl (gO rfl (gO rfl (gKt rfl (gE (gz hm [0, 1, 2, 3, 4] rfl))))))
    exact gF fo_63_1 rfl (gL hm 4 isAgg61 rfl (gY (yU rfl) (gC hm rfl call183 (slices_ContainsFunc_S_impl_Ins_impl_Ins_ok _ aC.ins aQ (hm.now al) (fun y0 => impl_codeOk_3 y0 u k_) (.func (.func 184) #[] #[(pV aD), (pV aE)]) (fun w y0 bM bN r hB hq => ⟨184, [(pV aD), (pV aE)], rfl, call184, impl_codeOk_3_ok w y0 bM bN u (sV aL aM u.codes.length aN) (rep_later (hm.now h1) hB) aD (hm.blk_later 0 rfl hB) k_ aE (hm.blk_later 1 rfl hB) r hq⟩)) fun cI cJ w hm => gKf rfl (gE (gz hm [0, 1, 2, 3, 4] rfl)))))
   repeat clear hm
   intro aV w hm
   refine gs 85 rfl (fun bO => ?_) fun bO => ?_
   ·
    exact gct rfl (gS (gR (gA rfl (gE (gRt (gLr aa aZ (gr1 results116 rfl ⟨rfl, hm.below⟩)))))))
   refine gcf rfl (gSk (gS (gR (gY (yn (hm.blk_at 2 rfl) isAgg49 sizeOf49 rfl) (gM rfl (gCg rfl call113 (impl_PredsOf_ok _ aA (sV aH aI aA.blocks.length aF) (hm.now aK) aJ) ?_))))))
   rintro am cK cL w ⟨_, rfl, hB⟩
   replace hm := hm.give hB; clear hB
   obtain ⟨cM, cN, rfl, cO⟩ := ro_slice (hm.ow_rep 0 rfl)
   refine gY (yV st_43 rfl) (gA rfl (gE (gS (gR (gF fo_63_0 rfl (gL hm 5 isAgg60 rfl ?_))))))
   obtain ⟨bP, an, rfl, cP⟩ := ro_slice aS
   refine gY (yV st_60 rfl) (gM rfl (gE (gBk (gNf hm (fun aW ao => [(2, (pV aD)), (3, (pV aE)), (5, (pV aB)), (6, (pV aG)), (7, (nV aJ)), (9, (nV ((am.length : Int)))), (39, (sV aH aI aA.blocks.length aF)), (40, (nV ((aA.blocks.length : Int)))), (41, (nV aJ)), (91, (.slice bP aC.phis.length an)), (92, (nV ((aC.phis.length : Int)))), (93, (nV aW))]) (fun aW ao => [blk aD [(sV aL aM u.codes.length aN)] 28, blk aE [(nV k_)] 3, blk aB [(nV aA.params), (nV aA.regs), (sV aH aI aA.blocks.length aF)] 49, blk aG [(.func (.func 179) #[] #[(pV aB)])] 95]) [1, 2, 3, 4] rfl ?_ ?_))))
   ·
    repeat clear hm
    intro cQ bQ aW ao w hm cR cS cT bR
    refine gS (gR (gB rfl (gE (gS (go _ 94 rfl (decide_eq_true (by omega)) (gct rfl (gSk (gS (gBk (gS (gR (gg fun af bS ah => ?_))))))))))))
    obtain ⟨bT, bU, cU, he⟩ := idx_form' aS ah
    obtain ⟨rfl, _, rfl⟩ := sl3 he
    obtain ⟨cV, bV, ai⟩ := rk_Phi_ aS ah
    refine gI st_60 bS (idx_lt ah) rfl (gY (yn (bV.mono hm.lez) isAgg127 sizeOf127 rfl) (gAl hm zeroValue127 rfl fun cW w hm => gSN hm 0 sizeOf127 (one_cons rfl (one_cons (rep_one ai) one_nil)) rfl fun w hm => gE (gS (gJ hm (fun aX => [(2, (pV aD)), (3, (pV aE)), (5, (pV aB)), (6, (pV aG)), (7, (nV aJ)), (9, (nV ((am.length : Int)))), (39, (sV aH aI aA.blocks.length aF)), (40, (nV ((aA.blocks.length : Int)))), (41, (nV aJ)), (91, (sV bT bU aC.phis.length an)), (92, (nV ((aC.phis.length : Int)))), (93, (nV aW)), (118, (.bool (aX)))]) (fun aX => [blk aD [(sV aL aM u.codes.length aN)] 28, blk aE [(nV k_)] 3, blk aB [(nV aA.params), (nV aA.regs), (sV aH aI aA.blocks.length aF)] 49, blk aG [(.func (.func 179) #[] #[(pV aB)])] 95]) (fun aX => ?_) ?_))))
    ·
     refine gR (gM rfl (gB rfl (gM rfl (gsd 99 rfl (fun bW => ?_) fun bW => ?_))))
     ·
      exact gO rfl (gO rfl (gO rfl (gO rfl (gO rfl (gKt rfl (gM rfl (gO rfl (gO rfl (gO rfl (gO rfl (gO rfl (gKt rfl (gM rfl (gO rfl (gO rfl (gO rfl (gO rfl (gKt rfl (gE (gz hm [1, 2, 3, 4] rfl))))))))))))))))))))
     refine gL hm 4 isAgg95 rfl (gF fo_127_0 rfl (gL hm 0 isAgg3 rfl (gb fun cX bX => gf rfl (fun a hf => e_callv hf rfl rfl rfl ⟨179, [(pV aB)], rfl, call179, impl_codeOk_1_ok _ af.to aA (sV aH aI aA.blocks.length aF) (rep_later (hm.now aK) (Below.refl _ _)) aB (hm.blk_later 3 rfl (Below.refl _ _)) _ bX⟩) ?_)))
     rintro cY w ⟨rfl, hB⟩
     replace hm := hm.below' hB; clear hB
     refine gN rfl (gKf rfl (gM rfl (gsn 106 rfl (fun bY => ?_) fun bY => ?_)))
     ·
      exact gO rfl (gO rfl (gO rfl (gO rfl (gO rfl (gKt rfl (gM rfl (gO rfl (gO rfl (gO rfl (gO rfl (gKt rfl (gE (gz hm [1, 2, 3, 4] rfl)))))))))))))
     refine gF fo_127_1 rfl (gL hm 0 isAgg43 rfl ?_)
     obtain ⟨bZ, b6, rfl, cZ⟩ := ro_slice ai
     refine gY (yV st_43 rfl) (gM rfl (gB rfl (gKf rfl (gM rfl (gsd 113 rfl (fun b8 => ?_) fun b8 => ?_)))))
     ·
      exact gO rfl (gO rfl (gO rfl (gO rfl (gKt rfl (gE (gz hm [1, 2, 3, 4] rfl))))))
     exact gF fo_127_1 rfl (gL hm 0 isAgg43 rfl (gY (yU rfl) (gC hm rfl call181 (slices_ContainsFunc_S_int_int_ok _ af.args (.slice bZ af.args.length b6) (hm.now ai) (fun y0 => impl_codeOk_4 y0 aA) (.func (.func 186) #[] #[(pV aG)]) (fun w y0 r hB hq => ⟨186, [(pV aG)], rfl, call186, impl_codeOk_4_ok w y0 aA (sV aH aI aA.blocks.length aF) (rep_later (hm.now aK) hB) aB (hm.blk_later 3 rfl hB) aG (hm.blk_later 4 rfl hB) r hq⟩)) fun c4 c5 w hm => gKf rfl (gE (gz hm [1, 2, 3, 4] rfl)))))
    repeat clear hm
    intro aX w hm
    refine gs 118 rfl (fun b9 => ?_) fun b9 => ?_
    ·
     exact gct rfl (gS (gR (gA rfl (gE (gRt (gLr bR bQ (gLr aa aZ (gr1 results116 rfl ⟨rfl, hm.below⟩))))))))
    exact gcf rfl (gSk (gR (gP (by omega) (by omega) rfl (gM rfl (gE (gze hm [0, 1, 2, 3] rfl))))))
   repeat clear hm
   intro c6 c7 w hm c8 c9
   exact gS (gR (gB rfl (gE (gS (go _ 94 rfl (decide_eq_false (by omega)) (gcf rfl (gXt (gHh (gR (gP (by omega) (by omega) rfl (gM rfl (gE (gze hm [0, 1, 2, 3] rfl)))))))))))))
  repeat clear hm
  intro ca cb w hm cc cd
  exact gS (gR (gB rfl (gE (gS (go _ 42 rfl (decide_eq_false (by omega)) (gcf rfl (gXt (gHh (gS (gR (gA rfl (gE (gRt (gr1 results116 rfl ⟨rfl, hm.below⟩))))))))))))))
theorem impl_codeCount_ok (w0 : World) (c_ : Code_) (v1 : Value) (h1 : GT.rep (hp w0) [v1] c_.blocks) :
    ConM Tryz.prog 67 [(.agg #[(nV c_.params), (nV c_.regs), v1])] w0 (impl_codeCount c_) fun r v w' => v = (nV r) ∧ Below w0.heap.size w0 w' := by
  unfold impl_codeCount
  refine gcon func67 rfl fun r => ?_
  have hm := Mem.start w0
  refine gS (gR (gBx hm rfl fun aK w hm => gA rfl (gE (gS (gR (gA rfl (gE (gS (gS (gR (gF fo_49_2 rfl (gL hm 0 isAgg47 rfl ?_))))))))))))
  obtain ⟨aF, aG, rfl, aL⟩ := ro_slice h1
  refine gY (yV st_47 rfl) (gM rfl (gE (gBk (gNf hm (fun aA aB => [(3, (nV aB)), (7, (.slice aF c_.blocks.length aG)), (8, (nV ((c_.blocks.length : Int)))), (9, (nV aA))]) (fun aA aB => []) [] rfl ?_ ?_))))
  ·
   repeat clear hm
   intro _ _ aA aB w hm aM aN aO _
   refine gS (gR (gB rfl (gE (gS (go _ 10 rfl (decide_eq_true (by omega)) (gct rfl (gSk (gS (gBk (gS (gR (gg fun aP aH aC => ?_))))))))))))
   obtain ⟨aQ, aR, aS, he⟩ := idx_form' h1 aC
   obtain ⟨rfl, _, rfl⟩ := sl3 he
   obtain ⟨aT, aV, aW, aI, aD, aE, aJ⟩ := rk_Block_ h1 aC
   refine gI st_47 aH (idx_lt aC) rfl (gY (yn (aI.mono hm.lez) isAgg63 sizeOf63 rfl) (gAl hm zeroValue63 rfl fun aX w hm => gSN hm 0 sizeOf63 (one_cons (rep_one aD) (one_cons (rep_one aE) (one_cons rfl (one_cons rfl (one_cons (rep_one aJ) one_nil))))) rfl fun w hm => gE (gR (gM rfl (gF fo_63_0 rfl (gL hm 0 isAgg60 rfl ?_))))))
   obtain ⟨aY, aZ, rfl, aa⟩ := ro_slice aD
   refine gY (yV st_60 rfl) (gF fo_63_1 rfl (gL hm 0 isAgg61 rfl ?_))
   obtain ⟨ab, ac, rfl, ae⟩ := ro_slice aE
   exact gY (yV st_61 rfl) (gP (by omega) (by omega) rfl (gB rfl (gA rfl (gE (gR (gP (by omega) (by omega) rfl (gM rfl (gE (gze hm [] rfl)))))))))
  repeat clear hm
  intro af ah w hm ai aj
  exact gS (gR (gB rfl (gE (gS (go _ 10 rfl (decide_eq_false (by omega)) (gcf rfl (gXt (gHh (gS (gR (gM rfl (gA rfl (gE (gRt (gr1 results67 rfl ⟨rfl, hm.below⟩)))))))))))))))
theorem impl_UnitValid_ok (w0 : World) (u : Unit_) (v1 : Value) (h1 : GT.rep (hp w0) [v1] u.codes) :
    ConM Tryz.prog 63 [(.agg #[v1])] w0 (impl_UnitValid u) fun r v w' => v = (.bool (r)) ∧ Below w0.heap.size w0 w' := by
  unfold impl_UnitValid
  refine gcon func63 rfl fun r => ?_
  have hm := Mem.start w0
  refine gS (gR (gBx hm rfl fun aE w hm => gA rfl (gE (gS (gS (gR (gF fo_28_0 rfl (gL hm 0 isAgg26 rfl ?_))))))))
  obtain ⟨aF, aB, rfl, aR⟩ := ro_slice h1
  refine gY (yV st_26 rfl) (gC hm rfl call47 (impl_within_ok _ (u.codes.length : Int) 1 4) fun aS aT w hm => gN rfl (gE (gsn 10 rfl (fun aH => ?_) fun aH => ?_)))
  ·
   exact gct rfl (gS (gR (gA rfl (gE (gRt (gr1 results63 rfl ⟨rfl, hm.below⟩))))))
  refine gcf rfl (gSk (gS (gR (gA rfl (gE (gS (gS (gR (gF fo_28_0 rfl (gL hm 0 isAgg26 rfl (gY (yV st_26 rfl) (gM rfl (gE (gBk (gNf hm (fun aA aC => [(1, (pV aE)), (3, (nV aC)), (12, (.slice aF u.codes.length aB)), (13, (nV ((u.codes.length : Int)))), (14, (nV aA))]) (fun aA aC => [blk aE [(.slice aF u.codes.length aB)] 28]) [0] rfl ?_ ?_)))))))))))))))
  ·
   repeat clear hm
   intro aV aI aA aC w hm aW aX aY aJ
   refine gS (gR (gB rfl (gE (gS (go _ 15 rfl (decide_eq_true (by omega)) (gct rfl (gSk (gS (gBk (gS (gR (gM rfl (gg fun aK aL aD => ?_)))))))))))))
   obtain ⟨aM, aN, aZ, he⟩ := idx_form' h1 aD
   obtain ⟨rfl, _, rfl⟩ := sl3 he
   obtain ⟨aO, aP, aG⟩ := rk_Code_ h1 aD
   refine gI st_26 aL (idx_lt aD) rfl (gY (yn (aP.mono hm.lez) isAgg49 sizeOf49 rfl) (gAl hm zeroValue49 rfl fun aa w hm => gA rfl (gSN hm 0 sizeOf49 (one_cons rfl (one_cons rfl (one_cons (rep_one aG) one_nil))) rfl fun w hm => gE (gS (gS (gR (gY (yn (hm.blk_at 1 rfl) isAgg28 sizeOf28 rfl) (gM rfl (gC hm rfl call116 (impl_codeOk_ok _ u (sV aM aN u.codes.length aB) (hm.now h1) aA) fun ab ac w hm => gN rfl (gE (gsn 22 rfl (fun aQ => ?_) fun aQ => ?_)))))))))))
   ·
    exact gct rfl (gS (gR (gA rfl (gE (gRt (gLr aJ aI (gr1 results63 rfl ⟨rfl, hm.below⟩)))))))
   exact gcf rfl (gSk (gR (gM rfl (gY (yn (hm.blk_at 0 rfl) isAgg49 sizeOf49 rfl) (gC hm rfl call67 (impl_codeCount_ok _ aK aO (hm.now aG)) fun ae af w hm => gB rfl (gA rfl (gE (gR (gP (by omega) (by omega) rfl (gM rfl (gE (gze hm [1] rfl))))))))))))
  repeat clear hm
  intro ah ai w hm aj ak
  exact gS (gR (gB rfl (gE (gS (go _ 15 rfl (decide_eq_false (by omega)) (gcf rfl (gXt (gHh (gS (gR (gM rfl (gB rfl (gA rfl (gE (gRt (gr1 results63 rfl ⟨rfl, hm.below⟩))))))))))))))))
theorem impl_mapped_impl_Code_impl_Code_ok (w0 : World) (list : List Code_) (v1 : Value) (h1 : GT.rep (hp w0) [v1] list) (f : Code_ → Option Code_) (fv1 : Value) (hfn1 : ∀ (w : World) (y0 : Code_) (z1 : Value) (_ : GT.rep (hp w) [z1] y0.blocks) (r : Code_), Below w0.heap.size w0 w → f y0 = some r → FnOk Tryz.prog fv1 [(.agg #[(nV y0.params), (nV y0.regs), z1])] w (fun v w' => ∃ (x1 : Value), v = (.agg #[(nV r.params), (nV r.regs), x1]) ∧ Mem w (hp w) w' [ow [x1] r.blocks])) :
    ConM Tryz.prog 48 [v1, fv1] w0 (impl_mapped_impl_Code_impl_Code list f) fun r v w' => ∃ (x1 : Value), v = x1 ∧ Mem w0 (hp w0) w' [ow [x1] r] := by
  unfold impl_mapped_impl_Code_impl_Code
  refine gcon func48 rfl fun r => ?_
  have hm := Mem.start w0
  refine gS (gR (gA rfl (gE (gS (gR (gA rfl (gE (gS (gS (gR (gM rfl ?_)))))))))))
  obtain ⟨aL, aM, rfl, aW⟩ := ro_slice h1
  refine gY (yV st_26 rfl) (gM rfl (gE (gBk ?_)))
  replace hm := hm.nilow (α := Code_)
  refine gNg (fun aJ aC a w => ∃ (aD : Value), St 22 [(1, fv1), (5, aD), (8, (.slice aL list.length aM)), (9, (nV ((list.length : Int)))), (10, (nV aJ))] w0 (hp w0) [ow [aD] aC] a w) (fun a hf => ⟨(.slice none 0 0), hf.sb rfl, hm.pk [0] rfl rfl⟩) ?_ ?_
  ·
   repeat clear hm
   rintro _ _ aJ aC a w ⟨aD, hf, hm⟩ aX aY aZ _
   refine gv hf (gS (gR (gB rfl (gE (gS (go _ 11 rfl (decide_eq_true (by omega)) (gct rfl (gSk (gS (gBk (gS (gR (gg fun aB aN aI => ?_)))))))))))))
   obtain ⟨aa, ab, ac, he⟩ := idx_form' h1 aI
   obtain ⟨rfl, _, rfl⟩ := sl3 he
   obtain ⟨aF, aO, aK⟩ := rk_Code_ h1 aI
   refine gI st_26 aN (idx_lt aI) rfl (gY (yn (aO.mono hm.lez) isAgg49 sizeOf49 rfl) (gAl hm zeroValue49 rfl fun aG w hm => gSN hm 0 sizeOf49 (one_cons rfl (one_cons rfl (one_cons (rep_one aK) one_nil))) rfl fun w hm => gE (gR (gM rfl (gM rfl (gY (yn (hm.blk_at 0 rfl) isAgg49 sizeOf49 rfl) (gb fun aA aP => gf rfl (fun a hf => e_callv hf rfl rfl rfl (hfn1 _ aB aF (hm.now aK) _ hm.below aP)) ?_)))))))
   rintro ae w ⟨aE, rfl, hB⟩
   replace hm := hm.give hB; clear hB
   refine gf rfl (fun a hf => e_build (vs := #[(0, (.agg #[(nV aA.params), (nV aA.regs), aE]))]) (cs := [(nV aA.params), (nV aA.regs), aE]) et_26 hf hm rfl rfl (by kernel_rfl) rfl rfl) ?_
   rintro _ w ⟨aH, rfl, hm⟩
   replace hm := hm.els_nil (α := Code_)
   replace hm : Mem w0 (hp w0) _ [els [] ([] : List Code_), blk aH [(nV aA.params), (nV aA.regs), aE] 49, ow [(nV aA.params), (nV aA.regs), aE] (aA : Code_), blk aG [(nV aB.params), (nV aB.regs), aF] 49, ow [aD] aC] := mk_Code_ aA.params aA.regs hm 2 rfl
   replace hm := (hm.els_cons 0 2 (by decide) rfl rfl).pk (L' := [els [(nV aA.params), (nV aA.regs), aE] ([aA] : List Code_), blk aH [(nV aA.params), (nV aA.regs), aE] 49, blk aG [(nV aB.params), (nV aB.regs), aF] 49, ow [aD] aC]) [0, 1, 3, 4] rfl rfl
   replace hm := (hm.lit_els 1 0 (by decide) rfl rfl rfl rfl).pk (L' := [ow [(sV aH 0 1 1)] ([aA] : List Code_), blk aG [(nV aB.params), (nV aB.regs), aF] 49, ow [aD] aC]) [1, 2, 3] rfl rfl
   refine gb fun af aQ => ?_
   obtain ⟨aR, aS⟩ := appM_some.1 aQ
   replace hm := (hm.both 2 0 (by decide) rfl rfl).pk (L' := [blk aG [(nV aB.params), (nV aB.regs), aF] 49, both (ow [aD] aC) (ow [(sV aH 0 1 1)] ([aA] : List Code_))]) [1, 2] rfl rfl
   refine gf rfl (fun a hf => e_appendD (xs := aC) (ys := ([aA] : List Code_)) 1 et_26 hf hm rfl rfl rfl rfl aR) ?_
   rintro aT w hm
   rw [aS] at hm
   exact gA rfl (gE (gR (gP (by omega) (by omega) rfl (gM rfl (gE (gZe fun a hf => ⟨aT, hf.sb rfl, hm.pk [1] rfl rfl⟩))))))
  repeat clear hm
  rintro ah ai a w ⟨aV, hf, hm⟩ aj ak
  exact gv hf (gS (gR (gB rfl (gE (gS (go _ 11 rfl (decide_eq_false (by omega)) (gcf rfl (gXt (gHh (gS (gR (gM rfl (gA rfl (gE (gRt (gr1 results48 rfl ⟨aV, rfl, hm.pk [0] rfl rfl⟩))))))))))))))))
theorem impl_perCode_ok (w0 : World) (u : Unit_) (v1 : Value) (h1 : GT.rep (hp w0) [v1] u.codes) (f : Code_ → Option Code_) (fv1 : Value) (hfn1 : ∀ (w : World) (y0 : Code_) (z1 : Value) (_ : GT.rep (hp w) [z1] y0.blocks) (r : Code_), Below w0.heap.size w0 w → f y0 = some r → FnOk Tryz.prog fv1 [(.agg #[(nV y0.params), (nV y0.regs), z1])] w (fun v w' => ∃ (x1 : Value), v = (.agg #[(nV r.params), (nV r.regs), x1]) ∧ Mem w (hp w) w' [ow [x1] r.blocks])) :
    ConM Tryz.prog 69 [(.agg #[v1]), fv1] w0 (impl_perCode u f) fun r v w' => ∃ (x1 : Value), v = (.tuple #[(.agg #[x1]), (.bool (r.2))]) ∧ Mem w0 (hp w0) w' [ow [x1] r.1.codes] := by
  unfold impl_perCode
  refine gcon func69 rfl fun r => ?_
  have hm := Mem.start w0
  refine gS (gR (gBx hm rfl fun aG w hm => gAl hm zeroValue28 rfl fun aH w hm => gA rfl (gE (gS (gS (gR (gY (yn (hm.blk_at 1 rfl) isAgg28 sizeOf28 rfl) (gC hm rfl call63 (impl_UnitValid_ok _ u v1 (hm.now h1)) fun aI aJ w hm => gN rfl (gE (gsn 8 rfl (fun aD => ?_) fun aD => ?_))))))))))
  ·
   refine gct rfl (gS (gR (gY (yG rfl (y_build (vs := []) (cs := #[(.slice none 0 0)]) rfl rfl (by kernel_rfl))) (gSN hm 0 sizeOf28 (one_cons rfl one_nil) rfl fun w hm => gA rfl (gE (gRt ?_))))))
   replace hm := hm.nilow (α := Code_)
   exact grct 1 results69 hm rfl isAgg28 sizeOf28 ⟨(.slice none 0 0), rfl, hm.pk [0] rfl rfl⟩
  refine gcf rfl (gSk (gS (gR (gF fo_28_0 rfl (gL hm 1 isAgg26 rfl (gM rfl (gCg rfl call48 (impl_mapped_impl_Code_impl_Code_ok _ u.codes v1 (hm.now h1) f fv1 (fun w y0 aE aF r hB hq => hfn1 w y0 aE aF r (hm.below.trans (hB.mono hm.below.size)) hq)) ?_)))))))
  rintro aA aK aL w ⟨_, rfl, hB⟩
  replace hm := hm.give hB; clear hB
  obtain ⟨aB, aC, rfl, aM⟩ := ro_slice (hm.ow_rep 0 rfl)
  exact gY (yG rfl (y_build (vs := [(0, (.slice aB aA.length aC))]) (cs := #[(.slice aB aA.length aC)]) rfl rfl (by kernel_rfl))) (gSN hm 1 sizeOf28 (one_cons rfl one_nil) rfl fun w hm => gA rfl (gE (gRt (grct 1 results69 hm rfl isAgg28 sizeOf28 ⟨(.slice aB aA.length aC), rfl, hm.pk [0] rfl rfl⟩))))
theorem slices_Clone_S_int_int_ok (w0 : World) (s_ : List Int) (v1 : Value) (h1 : GT.rep (hp w0) [v1] s_) :
    ConM Tryz.prog 177 [v1] w0 (slices_Clone_S_int_int s_) fun r v w' => ∃ (x1 : Value), v = x1 ∧ Mem w0 (hp w0) w' [ow [x1] r] := by
  unfold slices_Clone_S_int_int
  refine gcon func177 rfl fun r => ?_
  have hm := Mem.start w0
  refine gS (gR (gA rfl (gE (gS (gS (gR (gM rfl ?_)))))))
  rcases nil_or h1 with ⟨he, aA⟩ | ⟨aF, aG, he⟩
  ·
   subst he; subst aA
   refine gcg (m' := some ([] : List Int)) (by simp [appM]) (gY (yG rfl (y_eqnil_t st_43.und rfl rfl rfl)) (gE (gct rfl (gS (gR (gA rfl (gE (gRt ?_))))))))
   replace hm := hm.nilow (α := Int)
   exact gr1 results177 rfl ⟨(.slice none 0 0), rfl, hm.pk [0] rfl rfl⟩
  subst he
  refine gY (yG rfl (y_eqnil_f st_43.und rfl rfl rfl)) (gE (gcf rfl (gSk (gS (gR (gf rfl (fun a hf => e_build0 (α := Int) et_43 hm rfl) ?_))))))
  rintro aH w hm
  refine gM rfl (gb fun aI aB => ?_)
  obtain ⟨aC, aD⟩ := appM_some.1 aB
  refine gf rfl (fun a hf => e_append 0 et_43 hf hm rfl (hm.now h1) rfl rfl rfl aC) ?_
  rintro aE w hm
  rw [aD] at hm
  exact gA rfl (gE (gRt (gr1 results177 rfl ⟨aE, rfl, hm.pk [0] rfl rfl⟩)))
theorem impl_once_ok (w0 : World) (list : List Int) (v1 : Value) (h1 : GT.rep (hp w0) [v1] list) :
    ConM Tryz.prog 112 [v1] w0 (impl_once list) fun r v w' => ∃ (x1 : Value), v = x1 ∧ Mem w0 (hp w0) w' [ow [x1] r] := by
  unfold impl_once
  refine gcon func112 rfl fun r => ?_
  have hm := Mem.start w0
  refine gS (gR (gA rfl (gE (gS (gR (gM rfl (gCg rfl call177 (slices_Clone_S_int_int_ok _ list v1 (hm.now h1)) ?_)))))))
  rintro aB aC aD w ⟨_, rfl, hB⟩
  replace hm := hm.give hB; clear hB
  refine gA rfl (gE (gS (gR (gM rfl (gf rfl (fun a hf => e_call hf rfl call167 rfl (sort_con lays189 hm 0 rfl)) ?_)))))
  rintro _ w ⟨rfl, hm⟩
  refine gE (gS (gR (gM rfl (gf rfl (fun a hf => e_call hf rfl call178 rfl (compact_con lays2_20 hm 0 rfl)) ?_))))
  rintro aA w hm
  exact gA rfl (gE (gRt (gr1 results112 rfl ⟨aA, rfl, hm.pk [0] rfl rfl⟩)))
theorem pimpl_live__outs_ok (w0 : World) (l_ : live) (bp0 : Nat) (v1p : Value) (h1p : GT.rep (hp w0) [v1p] l_.c.blocks) (v2p : Value) (h2p : GT.rep (hp w0) [v2p] l_.ins) (v3p : Value) (h3p : GT.rep (hp w0) [v3p] l_.preds) (hbbp0 : (hp w0) bp0 = some (.cells ([(nV l_.c.params), (nV l_.c.regs), v1p, v2p, v3p] : List Value).toArray 109 (0, 0))) (b_ : Int) :
    ConM Tryz.prog 202 [(pV bp0), (nV b_)] w0 (pimpl_live__outs l_ b_) fun r v w' => ∃ (x1 : Value), v = x1 ∧ Mem w0 (hp w0) w' [owm x1 r] := by
  unfold pimpl_live__outs
  refine gcon func202 rfl fun r => ?_
  have hm := Mem.start w0
  refine gS (gR (gA rfl (gE (gS (gR (gf rfl (fun a hf => e_mkM (β := Bool) hm rfl) ?_))))))
  rintro aB w hm
  refine gA rfl (gE (gS (gS (gR (gM rfl (gY (yG rfl (y_nilptr rfl rfl)) (gF fo_109_0 rfl (gF fo_49_2 rfl (gY (yl isAgg47 (hm.hz_cell hbbp0 rfl) rfl) (gM rfl (gg fun an ao aK => ?_)))))))))))
  obtain ⟨bN, bO, bP, he⟩ := idx_form' h1p aK
  subst he
  obtain ⟨bQ, bR, ap, aq, bS, bT, ar⟩ := rk_Block_ h1p aK
  refine gI st_47 ao (idx_lt aK) rfl (gF fo_63_4 rfl (gY (yl isAgg43 ((aq.mono hm.lez).cell (j := 4) rfl) rfl) (gCg rfl call112 (impl_once_ok _ an.next_ ap (hm.now ar)) ?_)))
  rintro aA bU bV w ⟨_, rfl, hB⟩
  replace hm := hm.give hB; clear hB
  obtain ⟨ab, aC, rfl, bW⟩ := ro_slice (hm.ow_rep 0 rfl)
  refine gY (yV st_43 rfl) (gM rfl (gE (gBk (gNf hm (fun aD aL => [(0, (pV bp0)), (1, (nV b_)), (5, aB), (22, (.slice ab aA.length aC)), (23, (nV ((aA.length : Int)))), (24, (nV aD))]) (fun aD aL => [owm aB aL, ow [(.slice ab aA.length aC)] aA]) [1, 0] rfl ?_ ?_))))
  ·
   repeat clear hm
   intro _ _ aD aL w hm bX bY bZ _
   refine gS (gR (gB rfl (gE (gS (go _ 25 rfl (decide_eq_true (by omega)) (gct rfl (gSk (gS (gBk (gS (gR (gg fun aG au aM => ?_))))))))))))
   obtain ⟨aE, aF, b6, he⟩ := idx_form (hm.ow_rep 1 rfl) aM
   obtain ⟨rfl, _, rfl⟩ := sl3 he
   refine gI st_43 au (idx_lt aM) rfl (gY (yl isAgg3 ((flat_cells (cs := [(nV aG)]) (hm.ow_rep 1 rfl) aM rfl).cell (j := 0) rfl) rfl) (gA rfl (gE (gS (gS (gR (gM rfl (gY (yG rfl (y_nilptr rfl rfl)) (gF fo_109_1 rfl (gY (yl isAgg107 (hm.hz_cell hbbp0 rfl) rfl) (gM rfl (gg fun aN av aO => ?_))))))))))))
   obtain ⟨aw, ax, b8, he⟩ := idx_form' h2p aO
   subst he
   obtain ⟨_, _, aP, ay⟩ := ro_get' h2p aO
   have aH := ay
   obtain ⟨aQ, rfl, -⟩ := id aH
   replace aH : GT.rep (hp w0) [aQ] aN := aH
   replace aP : CellsAt (hp w0) aw (ax + (aG).toNat * 1) [aQ] := aP
   refine gI st_107 av (idx_lt aO) rfl (gY (yl isAgg106 ((aP.mono hm.lez).cell (j := 0) rfl) rfl) (gf rfl (fun a hf => e_rangeS (m := (aN : MapS Bool)) hf hm underlying106 aH rfl rfl) ?_))
   rintro _ w ⟨ac, rfl, hm⟩
   refine gE (gJ hm (fun aI => [(0, (pV bp0)), (1, (nV b_)), (5, aB), (7, (nV aG)), (22, (sV aE aF aA.length aC)), (23, (nV ((aA.length : Int)))), (24, (nV aD))]) (fun aI => [owm aB aI, ow [(sV aE aF aA.length aC)] aA]) (fun aI => ?_) ?_)
   ·
    refine gBk (gRng (m := (aN : MapS Bool)) (by exact comm_ins) aH (fun ae af a w => St 74 [(0, (pV bp0)), (1, (nV b_)), (5, aB), (7, (nV aG)), (22, (sV aE aF aA.length aC)), (23, (nV ((aA.length : Int)))), (24, (nV aD)), (35, (pV ac))] w0 (hp w0) [owm aB af, ow [(sV aE aF aA.length aC)] aA, itc (hp w0) aQ ac ae] a w) (fun a hf => ⟨hf.sb rfl, hm.pk [1, 2, 0] rfl rfl⟩) ?_ ?_)
    ·
     repeat clear hm
     rintro ae af a w ⟨hf, hm⟩ hmo
     refine gv (m := some ()) (r := ()) hf ?_ rfl
     refine gS (gR (gf rfl (fun a hf => e_nextS 2 hf hm rfl hmo rfl rfl) ?_))
     rintro _ w ⟨b9, az, ba, rfl, ah, ai, hm⟩
     refine gSw ah (gX rfl (gE (gS (gct rfl (gSk (gBk (gS (gR (gY (yG rfl (y_entryS 2 hm rfl ai rfl rfl)) (gX rfl (gA rfl (gE (gR (gM rfl (gM rfl (gf0 rfl (fun a hf => e_insM (β := Bool) (key := az.1) (u := true) (b := false) 0 underlying3 underlying106 hf hm rfl rfl rfl rfl rfl) ?_))))))))))))))))
     rintro _ w hm
     exact gE (gZr ai ah fun a hf => ⟨hf.sb rfl, hm.pk [0, 1, 2] rfl rfl⟩)
    repeat clear hm
    rintro bb bc a w ⟨hf, hm⟩ hno hk
    refine gv hf ?_ hk
    exact gS (gR (gY (yG rfl (y_nextE 2 hm rfl hno rfl rfl)) (gX rfl (gE (gS (gcf rfl (gXt (gHh (gz hm [0, 1] rfl)))))))))
   repeat clear hm
   intro aI w hm
   refine gS (gR (gM rfl (gY (yG rfl (y_nilptr rfl rfl)) (gF fo_109_2 rfl (gY (yl isAgg68 (hm.hz_cell hbbp0 rfl) rfl) (gM rfl (gg fun aj bA aR => ?_)))))))
   obtain ⟨bB, bC, bd, he⟩ := idx_form' h3p aR
   subst he
   obtain ⟨_, _, aS, bD⟩ := ro_get' h3p aR
   have aJ := bD
   obtain ⟨aT, rfl, -⟩ := id aJ
   replace aJ : GT.rep (hp w0) [aT] aj := aJ
   replace aS : CellsAt (hp w0) bB (bC + (aG).toNat * 1) [aT] := aS
   refine gI st_68 bA (idx_lt aR) rfl (gY (yl isAgg43 ((aS.mono hm.lez).cell (j := 0) rfl) rfl) (gM rfl (gC hm rfl call160 (slices_Index_S_int_int_ok _ aj aT (hm.now aJ) b_) fun bE be w hm => gA rfl (gE (gS (gR (gM rfl (gY (yG rfl (y_nilptr rfl rfl)) (gF fo_109_0 rfl (gF fo_49_2 rfl (gY (yl isAgg47 (hm.hz_cell hbbp0 rfl) rfl) (gM rfl (gg fun ak bF al => ?_)))))))))))))
   obtain ⟨bf, bg, bh, bG, aV, bi, bj⟩ := rk_Block_ h1p al
   refine gI st_47 bF (idx_lt al) rfl (gF fo_63_0 rfl (gY (yl isAgg60 ((bG.mono hm.lez).cell (j := 0) rfl) rfl) ?_))
   obtain ⟨bH, bJ, rfl, bk⟩ := ro_slice aV
   refine gY (yV st_60 rfl) (gM rfl (gE (gBk (gNf hm (fun aW aX => [(0, (pV bp0)), (1, (nV b_)), (5, aB), (9, (nV bE)), (22, (sV aE aF aA.length aC)), (23, (nV ((aA.length : Int)))), (24, (nV aD)), (59, (.slice bH ak.phis.length bJ)), (60, (nV ((ak.phis.length : Int)))), (61, (nV aW))]) (fun aW aX => [owm aB aX, ow [(sV aE aF aA.length aC)] aA]) [0, 1] rfl ?_ ?_))))
   ·
    repeat clear hm
    intro _ _ aW aX w hm bl bm bo _
    refine gS (gR (gB rfl (gE (gS (go _ 62 rfl (decide_eq_true (by omega)) (gct rfl (gSk (gS (gBk (gS (gR (gg fun bp bK aY => ?_))))))))))))
    obtain ⟨bq, br, bs, he⟩ := idx_form' aV aY
    obtain ⟨rfl, _, rfl⟩ := sl3 he
    obtain ⟨bt, bL, aZ⟩ := rk_Phi_ aV aY
    refine gI st_60 bK (idx_lt aY) rfl (gY (yn (bL.mono hm.lez) isAgg127 sizeOf127 rfl) (gAl hm zeroValue127 rfl fun bu w hm => gSN hm 0 sizeOf127 (one_cons rfl (one_cons (rep_one aZ) one_nil)) rfl fun w hm => gE (gR (gM rfl (gF fo_127_1 rfl (gL hm 0 isAgg43 rfl (gM rfl (gg fun am bM aa => ?_))))))))
    obtain ⟨bv, bx, bz, he⟩ := idx_form aZ aa
    subst he
    refine gI st_43 bM (idx_lt aa) rfl (gY (yl isAgg3 ((flat_cells (cs := [(nV am)]) (hm.now aZ) aa rfl).cell (j := 0) rfl) rfl) (gf0 rfl (fun a hf => e_insM (β := Bool) (key := am) (u := true) (b := false) 1 underlying3 underlying106 hf hm rfl rfl rfl rfl rfl) ?_))
    rintro _ w hm
    exact gE (gR (gP (by omega) (by omega) rfl (gM rfl (gE (gze hm [1, 2] rfl)))))
   repeat clear hm
   intro cA cB w hm cC cD
   exact gS (gR (gB rfl (gE (gS (go _ 62 rfl (decide_eq_false (by omega)) (gcf rfl (gXt (gHh (gR (gP (by omega) (by omega) rfl (gM rfl (gE (gze hm [0, 1] rfl)))))))))))))
  repeat clear hm
  intro cE cF w hm cG cH
  exact gS (gR (gB rfl (gE (gS (go _ 25 rfl (decide_eq_false (by omega)) (gcf rfl (gXt (gHh (gS (gR (gM rfl (gA rfl (gE (gRt (gr1 results202 rfl ⟨aB, rfl, hm.pk [0] rfl rfl⟩)))))))))))))))
theorem impl_MadeBy_ok (w0 : World) (x_ : Ins_) (v1 : Value) (h1 : GT.rep (hp w0) [v1] x_.args) :
    ConM Tryz.prog 141 [(.agg #[(nV x_.op), (nV x_.to), v1, (nV x_.n_)])] w0 (impl_MadeBy x_) fun r v w' => v = (nV r) ∧ Below w0.heap.size w0 w' := by
  unfold impl_MadeBy
  refine gcon func141 rfl fun r => ?_
  have hm := Mem.start w0
  refine gS (gR (gBx hm rfl fun aB w hm => gA rfl (gE (gS (gS (gR (gF fo_65_0 rfl (gL hm 0 isAgg3 rfl (gC hm rfl call165 (impl_sets_ok _ x_.op) fun aC aD w hm => gN rfl (gE (gsn 6 rfl (fun aA => ?_) fun aA => ?_)))))))))))
  ·
   exact gct rfl (gS (gR (gA rfl (gE (gRt (gr1 results141 rfl ⟨rfl, hm.below⟩))))))
  exact gcf rfl (gSk (gS (gR (gF fo_65_1 rfl (gL hm 0 isAgg3 rfl (gA rfl (gE (gRt (gr1 results141 rfl ⟨rfl, hm.below⟩)))))))))
theorem impl_regSet__with_ok (w0 : World) (hz : Heap) (s_ : MapS Bool) (v1 : Value) (list : List Int) (v2 : Value) (h2 : GT.rep hz [v2] list) (hm0 : Mem w0 hz w0 [owm v1 s_]) :
    ConM Tryz.prog 203 [v1, v2] w0 (impl_regSet__with s_ list) fun r v w' => v = v1 ∧ Mem w0 hz w' [owm v1 r] := by
  unfold impl_regSet__with
  refine gcon func203 rfl fun r => ?_
  have hm := hm0
  refine gS (gR (gA rfl (gE (gS (gS (gR (gM rfl ?_)))))))
  obtain ⟨aE, aF, rfl, aH⟩ := ro_slice h2
  refine gY (yV st_43 rfl) (gM rfl (gE (gBk (gNf hm (fun aA aB => [(0, v1), (7, (.slice aE list.length aF)), (8, (nV ((list.length : Int)))), (9, (nV aA))]) (fun aA aB => [owm v1 aB]) [0] rfl ?_ ?_))))
  ·
   repeat clear hm
   intro _ _ aA aB w hm aI aJ aK _
   refine gS (gR (gB rfl (gE (gS (go _ 10 rfl (decide_eq_true (by omega)) (gct rfl (gSk (gS (gBk (gS (gR (gg fun aD aG aC => ?_))))))))))))
   obtain ⟨aL, aM, aN, he⟩ := idx_form h2 aC
   obtain ⟨rfl, _, rfl⟩ := sl3 he
   refine gI st_43 aG (idx_lt aC) rfl (gY (yl isAgg3 ((flat_cells (cs := [(nV aD)]) (hm.now h2) aC rfl).cell (j := 0) rfl) rfl) (gA rfl (gE (gR (gM rfl (gM rfl (gf0 rfl (fun a hf => e_insM (β := Bool) (key := aD) (u := true) (b := false) 0 underlying3 underlying106 hf hm rfl rfl rfl rfl rfl) ?_)))))))
   rintro _ w hm
   exact gE (gR (gP (by omega) (by omega) rfl (gM rfl (gE (gze hm [0] rfl)))))
  repeat clear hm
  intro aO aP w hm aQ aR
  exact gS (gR (gB rfl (gE (gS (go _ 10 rfl (decide_eq_false (by omega)) (gcf rfl (gXt (gHh (gS (gR (gM rfl (gA rfl (gE (gRt (gr1 results203 rfl ⟨rfl, hm.pk [0] rfl rfl⟩)))))))))))))))
theorem pimpl_live__behind_ok (w0 : World) (l_ : live) (bp0 : Nat) (v1p : Value) (h1p : GT.rep (hp w0) [v1p] l_.c.blocks) (v2p : Value) (h2p : GT.rep (hp w0) [v2p] l_.ins) (v3p : Value) (h3p : GT.rep (hp w0) [v3p] l_.preds) (hbbp0 : (hp w0) bp0 = some (.cells ([(nV l_.c.params), (nV l_.c.regs), v1p, v2p, v3p] : List Value).toArray 109 (0, 0))) (b_ : Int) (i_ : Int) :
    ConM Tryz.prog 121 [(pV bp0), (nV b_), (nV i_)] w0 (pimpl_live__behind l_ b_ i_) fun r v w' => ∃ (x1 : Value), v = x1 ∧ Mem w0 (hp w0) w' [owm x1 r] := by
  unfold pimpl_live__behind
  refine gcon func121 rfl fun r => ?_
  have hm := Mem.start w0
  refine gS (gR (gA rfl (gE (gS (gR (gM rfl (gM rfl (gCg rfl call202 (pimpl_live__outs_ok _ l_ bp0 v1p (hm.now h1p) v2p (hm.now h2p) v3p (hm.now h3p) (hm.lez _ _ ((Heap.le_refl _) _ _ hbbp0)) b_) ?_))))))))
  rintro al am aB w ⟨_, rfl, hB⟩
  replace hm := hm.give hB; clear hB
  refine gA rfl (gE (gS (gR (gM rfl (gY (yG rfl (y_nilptr rfl rfl)) (gF fo_109_0 rfl (gF fo_49_2 rfl (gY (yl isAgg47 (hm.hz_cell hbbp0 rfl) rfl) (gM rfl (gg fun aA aV aL => ?_))))))))))
  obtain ⟨an, ao, ap, he⟩ := idx_form' h1p aL
  subst he
  obtain ⟨aF, aW, aG, aX, aY, aH, aZ⟩ := rk_Block_ h1p aL
  refine gI st_47 aV (idx_lt aL) rfl (gY (yn (aX.mono hm.lez) isAgg63 sizeOf63 rfl) (gAl hm zeroValue63 rfl fun aC w hm => gSN hm 0 sizeOf63 (one_cons (rep_one aY) (one_cons (rep_one aH) (one_cons rfl (one_cons rfl (one_cons (rep_one aZ) one_nil))))) rfl fun w hm => gE (gS (gS (gR (gF fo_63_2 rfl (gL hm 0 isAgg3 rfl (gC hm rfl call166 (impl_usesOn_ok _ aA.jump) fun aq ar w hm => gE (gJ hm (fun aI => [(2, (nV i_)), (7, aB), (8, (pV aC))]) (fun aI => [owm aB aI, blk aC [aF, aW, (nV aA.jump), (nV aA.on), aG] 63]) (fun aI => ?_) ?_)))))))))
  ·
   refine gs 24 rfl (fun aa => ?_) fun aa => ?_
   ·
    refine gct rfl (gR (gM rfl (gF fo_63_3 rfl (gL hm 0 isAgg3 rfl (gf0 rfl (fun a hf => e_insM (β := Bool) (key := aA.on) (u := true) (b := false) 1 underlying3 underlying106 hf hm rfl rfl rfl rfl rfl) ?_)))))
    rintro _ w hm
    exact gE (gz hm [1, 0] rfl)
   exact gcf rfl (gSk (gz hm [1, 0] rfl))
  repeat clear hm
  intro aI w hm
  refine gS (gS (gR (gF fo_63_1 rfl (gL hm 1 isAgg61 rfl ?_))))
  obtain ⟨ab, aM, rfl, au⟩ := ro_slice aH
  refine gY (yV st_61 rfl) (gY (yS (by omega) (by omega) rfl) (gA rfl (gE (gJ hm (fun aJ => [(7, aB)]) (fun aJ => [owm aB aJ]) (fun aJ => ?_) ?_))))
  ·
   refine gBk (gMf hm (fun aE => [(2, (nV i_)), (7, aB), (8, (pV aC)), (9, (nV aE.2))]) (fun aE => [owm aB aE.1, blk aC [aF, (.slice ab aA.ins.length aM), (nV aA.jump), (nV aA.on), aG] 63]) [0, 1] rfl ?_)
   repeat clear hm
   intro av ac aE w hm aw ae
   refine gS (gS (gR (gM rfl (gM rfl (gB rfl (gE (gsd 34 rfl (fun af => ?_) fun af => ?_)))))))
   ·
    refine gct rfl (gSk (gS (gBk (gS (gS (gR (gF fo_63_1 rfl (gL hm 1 isAgg61 rfl (gM rfl (gg fun aN aO aK => ?_))))))))))
    obtain ⟨aP, aQ, ax, he⟩ := idx_form' aH aK
    obtain ⟨rfl, _, rfl⟩ := sl3 he
    obtain ⟨aR, aS, aT⟩ := rk_Ins_ aH aK
    refine gI st_61 aO (idx_lt aK) rfl (gY (yn (aS.mono hm.lez) isAgg65 sizeOf65 rfl) (gC hm rfl call141 (impl_MadeBy_ok _ aN aR (hm.now aT)) fun ah ay w hm => gA rfl (gE (gS (gR (gM rfl (gB rfl (gE (gJ hm (fun aD => [(2, (nV i_)), (7, aB), (8, (pV aC)), (9, (nV aE.2))]) (fun aD => [owm aB aD, blk aC [aF, (sV aP aQ aA.ins.length aM), (nV aA.jump), (nV aA.on), aG] 63]) (fun aD => ?_) ?_)))))))))
    ·
     refine gsd 44 rfl (fun ai => ?_) fun ai => ?_
     ·
      refine gct rfl (gR (gM rfl (gM rfl (gf0 rfl (fun a hf => e_delM (β := Bool) (key := ah) 0 underlying3 underlying106 hf hm rfl rfl rfl rfl rfl) ?_))))
      rintro _ w hm
      exact gE (gz hm [0, 1] rfl)
     exact gcf rfl (gSk (gz hm [0, 1] rfl))
    repeat clear hm
    intro aD w hm
    refine gR (gM rfl (gF fo_63_1 rfl (gL hm 1 isAgg61 rfl (gM rfl (gI st_61 aO (idx_lt aK) rfl (gF fo_65_2 rfl (gY (yl isAgg43 ((aS.mono hm.lez).cell (j := 2) rfl) rfl) ?_)))))))
    obtain ⟨aj, hle, hm1, hsub, ak⟩ := hm.take2 (L1 := [owm aB aD]) (L2 := [blk aC [aF, (sV aP aQ aA.ins.length aM), (nV aA.jump), (nV aA.on), aG] 63]) [0] [1] (by decide) rfl rfl
    refine gCg rfl call203 (impl_regSet__with_ok _ aj aD aB aN.args aR (GT.mono hle aT) hm1 ) ?_
    rintro az bA bB w ⟨rfl, hB⟩
    replace hm := ak _ _ hB; clear hB
    exact gE (gR (gM rfl (gB rfl (gA rfl (gE (gze hm [0, 1] rfl))))))
   exact gcf rfl (gXt (gHh (gLp ae ac (gz hm [0] rfl))))
  repeat clear hm
  intro aJ w hm
  exact gS (gR (gM rfl (gA rfl (gE (gRt (gr1 results121 rfl ⟨aB, rfl, hm.pk [0] rfl rfl⟩))))))
theorem impl_liveOf_ok (w0 : World) (hz : Heap) (hle0 : Heap.le hz (hp w0)) (c_ : Code_) (v1 : Value) (h1 : GT.rep hz [v1] c_.blocks) :
    ConM Tryz.prog 102 [(.agg #[(nV c_.params), (nV c_.regs), v1])] w0 (impl_liveOf c_) fun r v w' => ∃ (b1 : Nat) (x2 : Value) (x3 : Value) (x4 : Value) (hz2 : Heap), v = (pV b1) ∧ Heap.le hz hz2 ∧ GT.rep hz2 [x2] r.c.blocks ∧ Mem w0 hz2 w' [junk w0 hz, blk b1 [(nV r.c.params), (nV r.c.regs), x2, x3, x4] 109, ow [x3] r.ins, ow [x4] r.preds] := by
  unfold impl_liveOf
  refine gcon func102 rfl fun r => ?_
  have hm := Mem.startA hle0
  refine gS (gR (gBx hm rfl fun aH w hm => gA rfl (gE (gS (gW (.p 1 (.q 0 (.e 2 (.p 3 (.e 4 (.p 5 (.e 6 (.p 7 .fin) .nil)) .nil)) .nil))) [2, 4] [1, 3, 5, 7] hm [0, 1] [blk aH [(nV c_.params), (nV c_.regs), v1] 49, junk w0 hz] rfl mxo (by kernel_rfl) (fun _ _ _ h => h.2) fun w hm hS => tP rfl (fun w => yF fo_49_2 rfl) (tQ rfl hS (fun w hm => yn (hm.blk_at 0 rfl) isAgg49 sizeOf49 rfl) (tO (tY rfl (yL hm 0 isAgg47 rfl) (tAs hS ?_)))))))))
  obtain ⟨aF, aB, rfl, bZ⟩ := ro_slice h1
  refine tP rfl (fun w => yV st_47 rfl) (tO (gb fun aA ay => ?_))
  obtain ⟨⟨az, bA⟩, aq⟩ := makeM_some.1 ay
  refine tf rfl rfl (fun a hf => e_make (x0 := ((MapS.mk0 : MapS Bool) : MapS Bool)) et_107 (fun _ => (own_map.2 (.inl ⟨rfl, rfl⟩))) hf hm rfl rfl rfl az (Int.le_refl _) bA) ?_
  rintro b6 w hm
  rw [aq] at hm
  have h0_1l : (aA.length : Int) = (c_.blocks.length : Int) := by rw [← aq]; simp only [List.length_replicate]; omega
  refine tAk hm [1, 2] rfl fun hS => ?_
  obtain ⟨aE, aC, rfl, b8⟩ := ro_slice (hm.ow_rep 0 rfl)
  refine tP rfl (fun w => yG rfl (y_build (vs := [(0, (.agg #[(nV c_.params), (nV c_.regs), (.slice aF c_.blocks.length aB)])), (1, (.slice aE aA.length aC))]) (cs := #[(nV c_.params), (nV c_.regs), (.slice aF c_.blocks.length aB), (.slice aE aA.length aC), (.slice none 0 0)]) rfl rfl (by kernel_rfl))) (tO (tf rfl rfl (fun a hf => e_box hf hm rfl rfl rfl) ?_))
  rintro _ w ⟨aG, rfl, hm⟩
  refine tAn rfl (tP rfl (fun w => yA rfl) (tE (gS (gS (gR (gF fo_49_2 rfl (gL hm 2 isAgg47 rfl (gY (yV st_47 rfl) (gM rfl (gE (gBk ?_)))))))))))
  replace hm := hm.nilow (α := List Int)
  refine gNg (fun af aP a w => ∃ (aL : Value), St 82 [(1, (pV aH)), (3, (pV aG)), (19, (nV ((c_.blocks.length : Int)))), (20, (nV af))] w0 hz [blk aH [(nV c_.params), (nV c_.regs), (.slice aF c_.blocks.length aB)] 49, blk aG [(nV c_.params), (nV c_.regs), (.slice aF c_.blocks.length aB), (.slice aE aA.length aC), aL] 109, ow [(.slice aE aA.length aC)] aA, ow [aL] aP, junk w0 hz] a w) (fun a hf => ⟨(.slice none 0 0), hf.sb rfl, hm.pk [3, 1, 2, 0, 4] rfl rfl⟩) ?_ ?_
  ·
   repeat clear hm
   rintro _ _ af aP a w ⟨aL, hf, hm⟩ b9 ba bb _
   refine gv hf (gS (gR (gB rfl (gE (gS (go _ 21 rfl (decide_eq_true (by omega)) (gct rfl (gSk (gS (gBk (gS (gR (gM rfl (gA rfl (gE (gW (.p 0 (.p 1 (.p 2 (.p 3 (.p 6 (.q 4 (.e 5 (.e 7 (.e 8 (.e 9 (.p 10 (.p 11 (.e 12 .fin .nil))) .nil) .nil) .nil) .nil))))))) [5, 7, 8] [0, 1, 2, 3, 6, 10, 11] hm [0, 1, 2, 3, 4] [blk aH [(nV c_.params), (nV c_.regs), (.slice aF c_.blocks.length aB)] 49, blk aG [(nV c_.params), (nV c_.regs), (.slice aF c_.blocks.length aB), (.slice aE aA.length aC), aL] 109, ow [(.slice aE aA.length aC)] aA, ow [aL] aP, junk w0 hz] rfl mxo (by kernel_rfl) (fun _ _ _ h => h.2) fun w hm hS => tP rfl (fun w => yM rfl) (tP rfl (fun w => yM rfl) (tP rfl (fun w => yG rfl (y_nilptr rfl rfl)) (tP rfl (fun w => yF fo_109_2 rfl) (tP rfl (fun w => yM rfl) (tQ rfl hS (fun w hm => yL hm 1 isAgg68 rfl) (tO (tY rfl (yn (hm.blk_at 0 rfl) isAgg49 sizeOf49 rfl) (tAs hS (tO (gb fun aM bB => tf rfl rfl (fun a hf => e_call hf rfl call113 rfl (impl_PredsOf_ok _ c_ (.slice aF c_.blocks.length aB) (hm.now h1) af _ bB)) ?_))))))))))))))))))))))))))
   rintro bc w ⟨_, rfl, hB⟩
   replace hm := hm.give hB; clear hB
   refine tAk hm [1, 2, 3, 4, 5] rfl fun hS => tO ?_
   obtain ⟨aW, aX, rfl, bd⟩ := ro_slice (hm.ow_rep 0 rfl)
   refine tf rfl rfl (fun a hf => e_build (vs := #[(0, (.slice aW aM.length aX))]) (cs := [(.slice aW aM.length aX)]) et_68 hf hm rfl rfl (by kernel_rfl) rfl rfl) ?_
   rintro _ w ⟨ah, rfl, hm⟩
   replace hm := hm.els_nil (α := List Int)
   replace hm := hm.imp (c' := ow [(.slice aW aM.length aX)] (aM : List Int)) 2 rfl (fun F h0 => h0)
   replace hm := (hm.els_cons 0 2 (by decide) rfl rfl).pk (L' := [els [(.slice aW aM.length aX)] ([aM] : List (List Int)), blk ah [(.slice aW aM.length aX)] 43, blk aH [(nV c_.params), (nV c_.regs), (.slice aF c_.blocks.length aB)] 49, blk aG [(nV c_.params), (nV c_.regs), (.slice aF c_.blocks.length aB), (.slice aE aA.length aC), aL] 109, ow [(.slice aE aA.length aC)] aA, ow [aL] aP, junk w0 hz]) [0, 1, 3, 4, 5, 6, 7] rfl rfl
   replace hm := (hm.lit_els 1 0 (by decide) rfl rfl rfl rfl).pk (L' := [ow [(sV ah 0 1 1)] ([aM] : List (List Int)), blk aH [(nV c_.params), (nV c_.regs), (.slice aF c_.blocks.length aB)] 49, blk aG [(nV c_.params), (nV c_.regs), (.slice aF c_.blocks.length aB), (.slice aE aA.length aC), aL] 109, ow [(.slice aE aA.length aC)] aA, ow [aL] aP, junk w0 hz]) [1, 2, 3, 4, 5, 6] rfl rfl
   refine tAk hm [1, 2, 3, 4, 5] rfl fun hS => tO (gb fun be bC => ?_)
   obtain ⟨bD, bE⟩ := appM_some.1 bC
   replace hm := (hm.both 4 0 (by decide) rfl rfl).pk (L' := [blk aH [(nV c_.params), (nV c_.regs), (.slice aF c_.blocks.length aB)] 49, blk aG [(nV c_.params), (nV c_.regs), (.slice aF c_.blocks.length aB), (.slice aE aA.length aC), aL] 109, ow [(.slice aE aA.length aC)] aA, both (ow [aL] aP) (ow [(sV ah 0 1 1)] ([aM] : List (List Int))), junk w0 hz]) [1, 2, 3, 4, 5] rfl rfl
   refine tf rfl rfl (fun a hf => e_appendD (xs := aP) (ys := ([aM] : List (List Int))) 3 et_68 hf hm rfl rfl rfl rfl bD) ?_
   rintro bF w hm
   rw [bE] at hm
   refine tAn rfl (tP rfl (fun w => yG rfl (y_nilptr rfl rfl)) (tP rfl (fun w => yF fo_109_2 rfl) (tO (tf0 rfl rfl (fun a hf => e_store1 1 hf hm rfl sizeOf68 rfl rfl rfl (rep_one (hm.ow_rep 3 rfl)) rfl) ?_))))
   rintro _ w hm
   exact tAn rfl (tE (gR (gP (by omega) (by omega) rfl (gM rfl (gE (gZe fun a hf => ⟨bF, hf.sb rfl, hm.pk [0, 1, 2, 3, 4] rfl rfl⟩))))))
  repeat clear hm
  rintro bf aD a w ⟨bg, hf, hm⟩ bh bi
  refine gv hf (gS (gR (gB rfl (gE (gS (go _ 21 rfl (decide_eq_false (by omega)) (gcf rfl (gXt (gHh (gS (gS (gR (gA rfl (gE ?_))))))))))))))
  obtain ⟨aI, aJ, rfl, bj⟩ := ro_slice (hm.ow_rep 3 rfl)
  refine gJ hm (fun ab => [(3, (pV aG))]) (fun ab => [blk aG [(nV c_.params), (nV c_.regs), (.slice aF c_.blocks.length aB), (.slice aE aA.length aC), (.slice aI aD.length aJ)] 109, ow [(.slice aE aA.length aC)] ab, ow [(.slice aI aD.length aJ)] aD, junk w0 hz]) (fun ab => ?_) ?_
  ·
   refine gBk (gMf hm (fun ac => [(1, (pV aH)), (3, (pV aG)), (5, (.bool (ac.2)))]) (fun ac => [blk aH [(nV c_.params), (nV c_.regs), (.slice aF c_.blocks.length aB)] 49, blk aG [(nV c_.params), (nV c_.regs), (.slice aF c_.blocks.length aB), (.slice aE aA.length aC), (.slice aI aD.length aJ)] 109, ow [(.slice aE aA.length aC)] ac.1, ow [(.slice aI aD.length aJ)] aD, junk w0 hz]) [0, 1, 2, 3, 4] rfl ?_)
   repeat clear hm
   intro bk bG ac w hm bl bH
   refine gS (gS (gR (gM rfl (gE (gs 36 rfl (fun bJ => ?_) fun bJ => ?_)))))
   ·
    refine gct rfl (gSk (gBk (gS (gR (gA rfl (gE (gS (gR (gF fo_49_2 rfl (gL hm 0 isAgg47 rfl (gY (yV st_47 rfl) (gY (yS (by omega) (by omega) rfl) (gA rfl (gE (gJ hm (fun aY => [(1, (pV aH)), (3, (pV aG)), (5, (.bool (aY.2)))]) (fun aY => [blk aH [(nV c_.params), (nV c_.regs), (.slice aF c_.blocks.length aB)] 49, blk aG [(nV c_.params), (nV c_.regs), (.slice aF c_.blocks.length aB), (.slice aE aA.length aC), (.slice aI aD.length aJ)] 109, ow [(.slice aE aA.length aC)] aY.1, ow [(.slice aI aD.length aJ)] aD, junk w0 hz]) (fun aY => ?_) ?_)))))))))))))))
    ·
     refine gBk (gMf hm (fun aK => [(1, (pV aH)), (3, (pV aG)), (5, (.bool (aK.2.1))), (6, (nV aK.2.2))]) (fun aK => [blk aH [(nV c_.params), (nV c_.regs), (.slice aF c_.blocks.length aB)] 49, blk aG [(nV c_.params), (nV c_.regs), (.slice aF c_.blocks.length aB), (.slice aE aA.length aC), (.slice aI aD.length aJ)] 109, ow [(.slice aE aA.length aC)] aK.1, ow [(.slice aI aD.length aJ)] aD, junk w0 hz]) [0, 1, 2, 3, 4] rfl ?_)
     repeat clear hm
     intro bm bK aK w hm bo bL
     refine gS (gS (gR (gM rfl (gB rfl (gE (gsd 42 rfl (fun bM => ?_) fun bM => ?_))))))
     ·
      refine gct rfl (gSk (gS (gJ hm (fun aZ => [(1, (pV aH)), (3, (pV aG)), (5, (.bool (aZ.2))), (6, (nV aK.2.2))]) (fun aZ => [blk aH [(nV c_.params), (nV c_.regs), (.slice aF c_.blocks.length aB)] 49, blk aG [(nV c_.params), (nV c_.regs), (.slice aF c_.blocks.length aB), (.slice aE aA.length aC), (.slice aI aD.length aJ)] 109, ow [(.slice aE aA.length aC)] aZ.1, ow [(.slice aI aD.length aJ)] aD, junk w0 hz]) (fun aZ => ?_) ?_)))
      ·
       refine gBk (gS (gR (gM rfl (gM rfl (gCg rfl call121 (pimpl_live__behind_ok _ (⟨c_, aK.1, aD⟩ : live) aG (.slice aF c_.blocks.length aB) (hm.now h1) (.slice aE aA.length aC) (hm.ow_rep 2 rfl) (.slice aI aD.length aJ) (hm.ow_rep 3 rfl) (hm.blk_cells 1 rfl).1 aK.2.2 (-1)) ?_)))))
       rintro bp bq aQ w ⟨_, rfl, hB⟩
       replace hm := hm.give hB; clear hB
       refine gA rfl (gE (gS (gS (gR (gF fo_49_2 rfl (gL hm 1 isAgg47 rfl (gM rfl (gg fun ar bN ai => ?_))))))))
       obtain ⟨aN, aO, br, he⟩ := idx_form' h1 ai
       obtain ⟨rfl, _, rfl⟩ := sl3 he
       obtain ⟨bs, bt, bu, bO, aj, bv, bx⟩ := rk_Block_ h1 ai
       refine gI st_47 bN (idx_lt ai) rfl (gF fo_63_0 rfl (gY (yl isAgg60 ((bO.mono hm.lez).cell (j := 0) rfl) rfl) ?_))
       obtain ⟨bP, bQ, rfl, bz⟩ := ro_slice aj
       refine gY (yV st_60 rfl) (gM rfl (gE (gBk (gNf hm (fun ak al => [(1, (pV aH)), (3, (pV aG)), (5, (.bool (aK.2.1))), (6, (nV aK.2.2)), (7, aQ), (53, (.slice bP ar.phis.length bQ)), (54, (nV ((ar.phis.length : Int)))), (55, (nV ak))]) (fun ak al => [blk aH [(nV c_.params), (nV c_.regs), (sV aN aO c_.blocks.length aB)] 49, blk aG [(nV c_.params), (nV c_.regs), (sV aN aO c_.blocks.length aB), (.slice aE aA.length aC), (.slice aI aD.length aJ)] 109, ow [(.slice aE aA.length aC)] aK.1, ow [(.slice aI aD.length aJ)] aD, owm aQ al, junk w0 hz]) [1, 2, 3, 4, 0, 5] rfl ?_ ?_))))
       ·
        repeat clear hm
        intro _ _ ak al w hm cA cB cC _
        refine gS (gR (gB rfl (gE (gS (go _ 56 rfl (decide_eq_true (by omega)) (gct rfl (gSk (gS (gBk (gS (gR (gg fun bR bS am => ?_))))))))))))
        obtain ⟨cD, cE, cF, he⟩ := idx_form' aj am
        obtain ⟨rfl, _, rfl⟩ := sl3 he
        obtain ⟨cG, bT, bU⟩ := rk_Phi_ aj am
        refine gI st_60 bS (idx_lt am) rfl (gY (yn (bT.mono hm.lez) isAgg127 sizeOf127 rfl) (gAl hm zeroValue127 rfl fun cH w hm => gSN hm 0 sizeOf127 (one_cons rfl (one_cons (rep_one bU) one_nil)) rfl fun w hm => gE (gR (gM rfl (gF fo_127_0 rfl (gL hm 0 isAgg3 rfl (gf0 rfl (fun a hf => e_delM (β := Bool) (key := bR.to) 5 underlying3 underlying106 hf hm rfl rfl rfl rfl rfl) ?_)))))))
        rintro _ w hm
        exact gE (gR (gP (by omega) (by omega) rfl (gM rfl (gE (gze hm [1, 2, 3, 4, 5, 6] rfl)))))
       repeat clear hm
       intro cI aR w hm cJ cK
       refine gS (gR (gB rfl (gE (gS (go _ 56 rfl (decide_eq_false (by omega)) (gcf rfl (gXt (gHh (gS (gW (.p 0 (.p 2 (.p 3 (.p 4 (.p 6 (.q 1 (.e 5 (.p 7 (.e 8 (.e 9 (.p 10 .fin) .nil) .nil)) .nil))))))) [5, 8] [0, 2, 3, 4, 6, 7, 10] hm [0, 1, 2, 3, 4, 5] [blk aH [(nV c_.params), (nV c_.regs), (sV aN aO c_.blocks.length aB)] 49, blk aG [(nV c_.params), (nV c_.regs), (sV aN aO c_.blocks.length aB), (.slice aE aA.length aC), (.slice aI aD.length aJ)] 109, ow [(.slice aE aA.length aC)] aK.1, ow [(.slice aI aD.length aJ)] aD, owm aQ aR, junk w0 hz] rfl mxo (by kernel_rfl) (fun _ _ _ h => h.2) fun w hm hS => tP rfl (fun w => yM rfl) (tP rfl (fun w => yM rfl) (tP rfl (fun w => yG rfl (y_nilptr rfl rfl)) (tP rfl (fun w => yF fo_109_1 rfl) (tP rfl (fun w => yM rfl) (tQ rfl hS (fun w hm => yG rfl (y_lenS (m := (aR : MapS Bool)) underlying106 (hm.owm_rep 4 rfl) rfl rfl)) (tO (tY rfl (yL hm 1 isAgg107 rfl) (tAs hS (gg fun an au aS => ?_)))))))))))))))))))
       obtain ⟨aT, aV, cL, he⟩ := idx_form' (hm.ow_rep 2 rfl) aS
       obtain ⟨rfl, _, rfl⟩ := sl3 he
       obtain ⟨_, _, ao, bV⟩ := ro_get' (hm.ow_rep 2 rfl) aS
       have ae := bV
       obtain ⟨av, rfl, -⟩ := id ae
       replace ae : GT.rep (hp _) [av] an := ae
       replace ao : CellsAt (hp _) aT (aV + (aK.2.2).toNat * 1) [av] := ao
       have hL5_1 := rep_slice_len (hm.ow_rep 2 rfl)
       refine tP rfl (fun w => yI st_107 au (idx_lt2 aS hL5_1) rfl) (tO (tY rfl (yl isAgg106 (ao.cell (j := 0) rfl) rfl) (tAs hS (tO (tY rfl (yG rfl (y_lenS (m := (an : MapS Bool)) underlying106 ae rfl rfl)) (tAn rfl (tP rfl (fun w => yB rfl) (tE (gJ hm (fun aa => [(1, (pV aH)), (3, (pV aG)), (5, (.bool (aa.2))), (6, (nV aK.2.2))]) (fun aa => [blk aH [(nV c_.params), (nV c_.regs), (sV aN aO c_.blocks.length aB)] 49, blk aG [(nV c_.params), (nV c_.regs), (sV aN aO c_.blocks.length aB), (sV aT aV aA.length aC), (.slice aI aD.length aJ)] 109, ow [(sV aT aV aA.length aC)] aa.1, ow [(.slice aI aD.length aJ)] aD, junk w0 hz]) (fun aa => ?_) ?_)))))))))
       ·
        refine gsd 73 rfl (fun bW => ?_) fun bW => ?_
        ·
         refine gct rfl (gR (gM rfl (gY (yG rfl (y_nilptr rfl rfl)) (gF fo_109_1 rfl (gL hm 1 isAgg107 rfl (gM rfl (gM rfl ?_)))))))
         obtain ⟨_, _, aw, bX⟩ := ro_get' (hm.ow_rep 2 rfl) aS
         have ap := bX
         obtain ⟨ax, rfl, -⟩ := id ap
         replace ap : GT.rep (hp _) [ax] an := ap
         replace aw : CellsAt (hp _) aT (aV + (aK.2.2).toNat * 1) [ax] := aw
         have hL6_1 := rep_slice_len (hm.ow_rep 2 rfl)
         refine gI st_107 au (idx_lt2 aS hL6_1) rfl ?_
         have bY := owm_cells hm 4 rfl
         replace hm := hm.imp (c' := ow [aQ] (aR : MapS Bool)) 4 rfl (fun F h0 => own_owm h0)
         replace hm := hm.imp (c' := ow [aQ] (aR : MapS Bool)) 4 rfl (fun F h0 => h0)
         replace hm := (hm.both 2 4 (by decide) rfl rfl).pk (L' := [blk aH [(nV c_.params), (nV c_.regs), (sV aN aO c_.blocks.length aB)] 49, blk aG [(nV c_.params), (nV c_.regs), (sV aN aO c_.blocks.length aB), (sV aT aV aA.length aC), (.slice aI aD.length aJ)] 109, both (ow [(sV aT aV aA.length aC)] aK.1) (ow [aQ] (aR : MapS Bool)), ow [(.slice aI aD.length aJ)] aD, junk w0 hz]) [0, 1, 2, 3, 5] rfl rfl
         refine gf0 rfl (fun a hf => e_putElem (x1 := (aR : MapS Bool)) (vs := [aQ]) 2 hf hm rfl aS rfl sizeOf106 rfl rfl bY rfl) ?_
         rintro _ w hm
         have cM := List.getElem?_set_self (a := (aR : MapS Bool)) (idx_lt aS)
         exact gA rfl (gE (gz hm [0, 1, 2, 3, 4] rfl))
        exact gcf rfl (gSk (gz hm [0, 1, 2, 3, 5] rfl))
       repeat clear hm
       intro aa w hm
       exact gz hm [0, 1, 2, 3, 4] rfl
      repeat clear hm
      intro aZ w hm
      exact gR (gM rfl (gB rfl (gA rfl (gE (gze hm [0, 1, 2, 3, 4] rfl)))))
     exact gcf rfl (gXt (gHh (gLp bL bK (gz hm [0, 1, 2, 3, 4] rfl))))
    repeat clear hm
    intro aY w hm
    exact gze hm [0, 1, 2, 3, 4] rfl
   exact gcf rfl (gXt (gHh (gLp bH bG (gz hm [1, 2, 3, 4] rfl))))
  repeat clear hm
  intro ab w hm
  exact gS (gR (gM rfl (gA rfl (gE (gRt (gr1 results102 rfl ⟨aG, (.slice aF c_.blocks.length aB), (.slice aE aA.length aC), (.slice aI aD.length aJ), hz, rfl, (Heap.le_refl _), h1, hm.pk [3, 0, 1, 2] rfl rfl⟩))))))
theorem impl_mapped_impl_Block_impl_Block_ok (w0 : World) (list : List Block_) (v1 : Value) (h1 : GT.rep (hp w0) [v1] list) (f : Block_ → Option Block_) (fv1 : Value) (hfn1 : ∀ (w : World) (y0 : Block_) (z1 : Value) (_ : GT.rep (hp w) [z1] y0.phis) (z2 : Value) (_ : GT.rep (hp w) [z2] y0.ins) (z3 : Value) (_ : GT.rep (hp w) [z3] y0.next_) (r : Block_), Below w0.heap.size w0 w → f y0 = some r → FnOk Tryz.prog fv1 [(.agg #[z1, z2, (nV y0.jump), (nV y0.on), z3])] w (fun v w' => ∃ (x1 : Value) (x2 : Value) (x3 : Value), v = (.agg #[x1, x2, (nV r.jump), (nV r.on), x3]) ∧ Mem w (hp w) w' [ow [x1] r.phis, ow [x2] r.ins, ow [x3] r.next_])) :
    ConM Tryz.prog 161 [v1, fv1] w0 (impl_mapped_impl_Block_impl_Block list f) fun r v w' => ∃ (x1 : Value), v = x1 ∧ Mem w0 (hp w0) w' [ow [x1] r] := by
  unfold impl_mapped_impl_Block_impl_Block
  refine gcon func161 rfl fun r => ?_
  have hm := Mem.start w0
  refine gS (gR (gA rfl (gE (gS (gR (gA rfl (gE (gS (gS (gR (gM rfl ?_)))))))))))
  obtain ⟨aR, aS, rfl, ac⟩ := ro_slice h1
  refine gY (yV st_47 rfl) (gM rfl (gE (gBk ?_)))
  replace hm := hm.nilow (α := Block_)
  refine gNg (fun aN aC a w => ∃ (aD : Value), St 22 [(1, fv1), (5, aD), (8, (.slice aR list.length aS)), (9, (nV ((list.length : Int)))), (10, (nV aN))] w0 (hp w0) [ow [aD] aC] a w) (fun a hf => ⟨(.slice none 0 0), hf.sb rfl, hm.pk [0] rfl rfl⟩) ?_ ?_
  ·
   repeat clear hm
   rintro _ _ aN aC a w ⟨aD, hf, hm⟩ ae af ah _
   refine gv hf (gS (gR (gB rfl (gE (gS (go _ 11 rfl (decide_eq_true (by omega)) (gct rfl (gSk (gS (gBk (gS (gR (gg fun aB aT aM => ?_)))))))))))))
   obtain ⟨ai, aj, ak, he⟩ := idx_form' h1 aM
   obtain ⟨rfl, _, rfl⟩ := sl3 he
   obtain ⟨aH, aI, aJ, aV, aO, aP, aQ⟩ := rk_Block_ h1 aM
   refine gI st_47 aT (idx_lt aM) rfl (gY (yn (aV.mono hm.lez) isAgg63 sizeOf63 rfl) (gAl hm zeroValue63 rfl fun aK w hm => gSN hm 0 sizeOf63 (one_cons (rep_one aO) (one_cons (rep_one aP) (one_cons rfl (one_cons rfl (one_cons (rep_one aQ) one_nil))))) rfl fun w hm => gE (gR (gM rfl (gM rfl (gY (yn (hm.blk_at 0 rfl) isAgg63 sizeOf63 rfl) (gb fun aA aW => gf rfl (fun a hf => e_callv hf rfl rfl rfl (hfn1 _ aB aH (hm.now aO) aI (hm.now aP) aJ (hm.now aQ) _ hm.below aW)) ?_)))))))
   rintro al w ⟨aE, aF, aG, rfl, hB⟩
   replace hm := hm.give hB; clear hB
   refine gf rfl (fun a hf => e_build (vs := #[(0, (.agg #[aE, aF, (nV aA.jump), (nV aA.on), aG]))]) (cs := [aE, aF, (nV aA.jump), (nV aA.on), aG]) et_47 hf hm rfl rfl (by kernel_rfl) rfl rfl) ?_
   rintro _ w ⟨aL, rfl, hm⟩
   replace hm := hm.els_nil (α := Block_)
   replace hm := (mk_Block_ aA.jump aA.on hm 2 3 4 rfl).pk (L' := [els [] ([] : List Block_), blk aL [aE, aF, (nV aA.jump), (nV aA.on), aG] 63, ow [aE, aF, (nV aA.jump), (nV aA.on), aG] (aA : Block_), blk aK [aH, aI, (nV aB.jump), (nV aB.on), aJ] 63, ow [aD] aC]) [0, 1, 2, 5, 6] rfl rfl
   replace hm := (hm.els_cons 0 2 (by decide) rfl rfl).pk (L' := [els [aE, aF, (nV aA.jump), (nV aA.on), aG] ([aA] : List Block_), blk aL [aE, aF, (nV aA.jump), (nV aA.on), aG] 63, blk aK [aH, aI, (nV aB.jump), (nV aB.on), aJ] 63, ow [aD] aC]) [0, 1, 3, 4] rfl rfl
   replace hm := (hm.lit_els 1 0 (by decide) rfl rfl rfl rfl).pk (L' := [ow [(sV aL 0 1 1)] ([aA] : List Block_), blk aK [aH, aI, (nV aB.jump), (nV aB.on), aJ] 63, ow [aD] aC]) [1, 2, 3] rfl rfl
   refine gb fun am aX => ?_
   obtain ⟨aY, aZ⟩ := appM_some.1 aX
   replace hm := (hm.both 2 0 (by decide) rfl rfl).pk (L' := [blk aK [aH, aI, (nV aB.jump), (nV aB.on), aJ] 63, both (ow [aD] aC) (ow [(sV aL 0 1 1)] ([aA] : List Block_))]) [1, 2] rfl rfl
   refine gf rfl (fun a hf => e_appendD (xs := aC) (ys := ([aA] : List Block_)) 1 et_47 hf hm rfl rfl rfl rfl aY) ?_
   rintro aa w hm
   rw [aZ] at hm
   exact gA rfl (gE (gR (gP (by omega) (by omega) rfl (gM rfl (gE (gZe fun a hf => ⟨aa, hf.sb rfl, hm.pk [1] rfl rfl⟩))))))
  repeat clear hm
  rintro an ao a w ⟨ab, hf, hm⟩ ap aq
  exact gv hf (gS (gR (gB rfl (gE (gS (go _ 11 rfl (decide_eq_false (by omega)) (gcf rfl (gXt (gHh (gS (gR (gM rfl (gA rfl (gE (gRt (gr1 results161 rfl ⟨ab, rfl, hm.pk [0] rfl rfl⟩))))))))))))))))
theorem impl_mapped_impl_Phi_impl_Phi_ok (w0 : World) (list : List Phi_) (v1 : Value) (h1 : GT.rep (hp w0) [v1] list) (f : Phi_ → Option Phi_) (fv1 : Value) (hfn1 : ∀ (w : World) (y0 : Phi_) (z1 : Value) (_ : GT.rep (hp w) [z1] y0.args) (r : Phi_), Below w0.heap.size w0 w → f y0 = some r → FnOk Tryz.prog fv1 [(.agg #[(nV y0.to), z1])] w (fun v w' => ∃ (x1 : Value), v = (.agg #[(nV r.to), x1]) ∧ Mem w (hp w) w' [ow [x1] r.args])) :
    ConM Tryz.prog 239 [v1, fv1] w0 (impl_mapped_impl_Phi_impl_Phi list f) fun r v w' => ∃ (x1 : Value), v = x1 ∧ Mem w0 (hp w0) w' [ow [x1] r] := by
  unfold impl_mapped_impl_Phi_impl_Phi
  refine gcon func239 rfl fun r => ?_
  have hm := Mem.start w0
  refine gS (gR (gA rfl (gE (gS (gR (gA rfl (gE (gS (gS (gR (gM rfl ?_)))))))))))
  obtain ⟨aL, aM, rfl, aW⟩ := ro_slice h1
  refine gY (yV st_60 rfl) (gM rfl (gE (gBk ?_)))
  replace hm := hm.nilow (α := Phi_)
  refine gNg (fun aJ aB a w => ∃ (aC : Value), St 22 [(1, fv1), (5, aC), (8, (.slice aL list.length aM)), (9, (nV ((list.length : Int)))), (10, (nV aJ))] w0 (hp w0) [ow [aC] aB] a w) (fun a hf => ⟨(.slice none 0 0), hf.sb rfl, hm.pk [0] rfl rfl⟩) ?_ ?_
  ·
   repeat clear hm
   rintro _ _ aJ aB a w ⟨aC, hf, hm⟩ aX aY aZ _
   refine gv hf (gS (gR (gB rfl (gE (gS (go _ 11 rfl (decide_eq_true (by omega)) (gct rfl (gSk (gS (gBk (gS (gR (gg fun aE aN aI => ?_)))))))))))))
   obtain ⟨aa, ab, ac, he⟩ := idx_form' h1 aI
   obtain ⟨rfl, _, rfl⟩ := sl3 he
   obtain ⟨aF, aO, aK⟩ := rk_Phi_ h1 aI
   refine gI st_60 aN (idx_lt aI) rfl (gY (yn (aO.mono hm.lez) isAgg127 sizeOf127 rfl) (gAl hm zeroValue127 rfl fun aG w hm => gSN hm 0 sizeOf127 (one_cons rfl (one_cons (rep_one aK) one_nil)) rfl fun w hm => gE (gR (gM rfl (gM rfl (gY (yn (hm.blk_at 0 rfl) isAgg127 sizeOf127 rfl) (gb fun aA aP => gf rfl (fun a hf => e_callv hf rfl rfl rfl (hfn1 _ aE aF (hm.now aK) _ hm.below aP)) ?_)))))))
   rintro ae w ⟨aD, rfl, hB⟩
   replace hm := hm.give hB; clear hB
   refine gf rfl (fun a hf => e_build (vs := #[(0, (.agg #[(nV aA.to), aD]))]) (cs := [(nV aA.to), aD]) et_60 hf hm rfl rfl (by kernel_rfl) rfl rfl) ?_
   rintro _ w ⟨aH, rfl, hm⟩
   replace hm := hm.els_nil (α := Phi_)
   replace hm : Mem w0 (hp w0) _ [els [] ([] : List Phi_), blk aH [(nV aA.to), aD] 127, ow [(nV aA.to), aD] (aA : Phi_), blk aG [(nV aE.to), aF] 127, ow [aC] aB] := mk_Phi_ aA.to hm 2 rfl
   replace hm := (hm.els_cons 0 2 (by decide) rfl rfl).pk (L' := [els [(nV aA.to), aD] ([aA] : List Phi_), blk aH [(nV aA.to), aD] 127, blk aG [(nV aE.to), aF] 127, ow [aC] aB]) [0, 1, 3, 4] rfl rfl
   replace hm := (hm.lit_els 1 0 (by decide) rfl rfl rfl rfl).pk (L' := [ow [(sV aH 0 1 1)] ([aA] : List Phi_), blk aG [(nV aE.to), aF] 127, ow [aC] aB]) [1, 2, 3] rfl rfl
   refine gb fun af aQ => ?_
   obtain ⟨aR, aS⟩ := appM_some.1 aQ
   replace hm := (hm.both 2 0 (by decide) rfl rfl).pk (L' := [blk aG [(nV aE.to), aF] 127, both (ow [aC] aB) (ow [(sV aH 0 1 1)] ([aA] : List Phi_))]) [1, 2] rfl rfl
   refine gf rfl (fun a hf => e_appendD (xs := aB) (ys := ([aA] : List Phi_)) 1 et_60 hf hm rfl rfl rfl rfl aR) ?_
   rintro aT w hm
   rw [aS] at hm
   exact gA rfl (gE (gR (gP (by omega) (by omega) rfl (gM rfl (gE (gZe fun a hf => ⟨aT, hf.sb rfl, hm.pk [1] rfl rfl⟩))))))
  repeat clear hm
  rintro ah ai a w ⟨aV, hf, hm⟩ aj ak
  exact gv hf (gS (gR (gB rfl (gE (gS (go _ 11 rfl (decide_eq_false (by omega)) (gcf rfl (gXt (gHh (gS (gR (gM rfl (gA rfl (gE (gRt (gr1 results239 rfl ⟨aV, rfl, hm.pk [0] rfl rfl⟩))))))))))))))))
theorem impl_clonePhi_ok (w0 : World) (f : Phi_) (v1 : Value) (h1 : GT.rep (hp w0) [v1] f.args) :
    ConM Tryz.prog 240 [(.agg #[(nV f.to), v1])] w0 (impl_clonePhi f) fun r v w' => ∃ (x1 : Value), v = (.agg #[(nV r.to), x1]) ∧ Mem w0 (hp w0) w' [ow [x1] r.args] := by
  unfold impl_clonePhi
  refine gcon func240 rfl fun r => ?_
  have hm := Mem.start w0
  refine gS (gR (gBx hm rfl fun aD w hm => gAl hm zeroValue127 rfl fun aE w hm => gE (gS (gW (.p 0 (.p 2 (.q 1 (.e 3 (.e 4 (.p 5 (.e 6 .fin .nil)) .nil) .nil)))) [3, 4] [0, 2, 5] hm [0, 1] [blk aE [(nV 0), (.slice none 0 0)] 127, blk aD [(nV f.to), v1] 127] rfl mxo (by kernel_rfl) (fun _ _ _ h => h.2) fun w hm hS => tP rfl (fun w => yF fo_127_0 rfl) (tP rfl (fun w => yF fo_127_1 rfl) (tQ rfl hS (fun w hm => yL hm 1 isAgg3 rfl) (tO (tY rfl (yL hm 1 isAgg43 rfl) (tAs hS (tO (gb fun aA aF => tf rfl rfl (fun a hf => e_call hf rfl call177 rfl (slices_Clone_S_int_int_ok _ f.args v1 (hm.now h1) _ aF)) ?_)))))))))))
  rintro aG w ⟨_, rfl, hB⟩
  replace hm := hm.give hB; clear hB
  refine tAk hm [1, 2] rfl fun hS => ?_
  obtain ⟨aB, aC, rfl, aH⟩ := ro_slice (hm.ow_rep 0 rfl)
  refine tP rfl (fun w => yG rfl (y_build (vs := [(0, (nV f.to)), (1, (.slice aB aA.length aC))]) (cs := #[(nV f.to), (.slice aB aA.length aC)]) rfl rfl (by kernel_rfl))) (tO (tf0 rfl rfl (fun a hf => e_storeN 1 hf hm rfl sizeOf127 rfl rfl rfl (one_cons rfl (one_cons rfl one_nil)) rfl rfl) ?_))
  rintro _ w hm
  exact tAn rfl (tE (gRt (grc 1 results240 hm rfl isAgg127 sizeOf127 ⟨(.slice aB aA.length aC), rfl, hm.pk [0] rfl rfl⟩)))
theorem impl_mapped_impl_Ins_impl_Ins_ok (w0 : World) (list : List Ins_) (v1 : Value) (h1 : GT.rep (hp w0) [v1] list) (f : Ins_ → Option Ins_) (fv1 : Value) (hfn1 : ∀ (w : World) (y0 : Ins_) (z1 : Value) (_ : GT.rep (hp w) [z1] y0.args) (r : Ins_), Below w0.heap.size w0 w → f y0 = some r → FnOk Tryz.prog fv1 [(.agg #[(nV y0.op), (nV y0.to), z1, (nV y0.n_)])] w (fun v w' => ∃ (x1 : Value), v = (.agg #[(nV r.op), (nV r.to), x1, (nV r.n_)]) ∧ Mem w (hp w) w' [ow [x1] r.args])) :
    ConM Tryz.prog 241 [v1, fv1] w0 (impl_mapped_impl_Ins_impl_Ins list f) fun r v w' => ∃ (x1 : Value), v = x1 ∧ Mem w0 (hp w0) w' [ow [x1] r] := by
  unfold impl_mapped_impl_Ins_impl_Ins
  refine gcon func241 rfl fun r => ?_
  have hm := Mem.start w0
  refine gS (gR (gA rfl (gE (gS (gR (gA rfl (gE (gS (gS (gR (gM rfl ?_)))))))))))
  obtain ⟨aL, aM, rfl, aW⟩ := ro_slice h1
  refine gY (yV st_61 rfl) (gM rfl (gE (gBk ?_)))
  replace hm := hm.nilow (α := Ins_)
  refine gNg (fun aJ aC a w => ∃ (aD : Value), St 22 [(1, fv1), (5, aD), (8, (.slice aL list.length aM)), (9, (nV ((list.length : Int)))), (10, (nV aJ))] w0 (hp w0) [ow [aD] aC] a w) (fun a hf => ⟨(.slice none 0 0), hf.sb rfl, hm.pk [0] rfl rfl⟩) ?_ ?_
  ·
   repeat clear hm
   rintro _ _ aJ aC a w ⟨aD, hf, hm⟩ aX aY aZ _
   refine gv hf (gS (gR (gB rfl (gE (gS (go _ 11 rfl (decide_eq_true (by omega)) (gct rfl (gSk (gS (gBk (gS (gR (gg fun aB aN aI => ?_)))))))))))))
   obtain ⟨aa, ab, ac, he⟩ := idx_form' h1 aI
   obtain ⟨rfl, _, rfl⟩ := sl3 he
   obtain ⟨aF, aO, aK⟩ := rk_Ins_ h1 aI
   refine gI st_61 aN (idx_lt aI) rfl (gY (yn (aO.mono hm.lez) isAgg65 sizeOf65 rfl) (gAl hm zeroValue65 rfl fun aG w hm => gSN hm 0 sizeOf65 (one_cons rfl (one_cons rfl (one_cons (rep_one aK) (one_cons rfl one_nil)))) rfl fun w hm => gE (gR (gM rfl (gM rfl (gY (yn (hm.blk_at 0 rfl) isAgg65 sizeOf65 rfl) (gb fun aA aP => gf rfl (fun a hf => e_callv hf rfl rfl rfl (hfn1 _ aB aF (hm.now aK) _ hm.below aP)) ?_)))))))
   rintro ae w ⟨aE, rfl, hB⟩
   replace hm := hm.give hB; clear hB
   refine gf rfl (fun a hf => e_build (vs := #[(0, (.agg #[(nV aA.op), (nV aA.to), aE, (nV aA.n_)]))]) (cs := [(nV aA.op), (nV aA.to), aE, (nV aA.n_)]) et_61 hf hm rfl rfl (by kernel_rfl) rfl rfl) ?_
   rintro _ w ⟨aH, rfl, hm⟩
   replace hm := hm.els_nil (α := Ins_)
   replace hm : Mem w0 (hp w0) _ [els [] ([] : List Ins_), blk aH [(nV aA.op), (nV aA.to), aE, (nV aA.n_)] 65, ow [(nV aA.op), (nV aA.to), aE, (nV aA.n_)] (aA : Ins_), blk aG [(nV aB.op), (nV aB.to), aF, (nV aB.n_)] 65, ow [aD] aC] := mk_Ins_ aA.op aA.to aA.n_ hm 2 rfl
   replace hm := (hm.els_cons 0 2 (by decide) rfl rfl).pk (L' := [els [(nV aA.op), (nV aA.to), aE, (nV aA.n_)] ([aA] : List Ins_), blk aH [(nV aA.op), (nV aA.to), aE, (nV aA.n_)] 65, blk aG [(nV aB.op), (nV aB.to), aF, (nV aB.n_)] 65, ow [aD] aC]) [0, 1, 3, 4] rfl rfl
   replace hm := (hm.lit_els 1 0 (by decide) rfl rfl rfl rfl).pk (L' := [ow [(sV aH 0 1 1)] ([aA] : List Ins_), blk aG [(nV aB.op), (nV aB.to), aF, (nV aB.n_)] 65, ow [aD] aC]) [1, 2, 3] rfl rfl
   refine gb fun af aQ => ?_
   obtain ⟨aR, aS⟩ := appM_some.1 aQ
   replace hm := (hm.both 2 0 (by decide) rfl rfl).pk (L' := [blk aG [(nV aB.op), (nV aB.to), aF, (nV aB.n_)] 65, both (ow [aD] aC) (ow [(sV aH 0 1 1)] ([aA] : List Ins_))]) [1, 2] rfl rfl
   refine gf rfl (fun a hf => e_appendD (xs := aC) (ys := ([aA] : List Ins_)) 1 et_61 hf hm rfl rfl rfl rfl aR) ?_
   rintro aT w hm
   rw [aS] at hm
   exact gA rfl (gE (gR (gP (by omega) (by omega) rfl (gM rfl (gE (gZe fun a hf => ⟨aT, hf.sb rfl, hm.pk [1] rfl rfl⟩))))))
  repeat clear hm
  rintro ah ai a w ⟨aV, hf, hm⟩ aj ak
  exact gv hf (gS (gR (gB rfl (gE (gS (go _ 11 rfl (decide_eq_false (by omega)) (gcf rfl (gXt (gHh (gS (gR (gM rfl (gA rfl (gE (gRt (gr1 results241 rfl ⟨aV, rfl, hm.pk [0] rfl rfl⟩))))))))))))))))
theorem impl_cloneIns_ok (w0 : World) (x_ : Ins_) (v1 : Value) (h1 : GT.rep (hp w0) [v1] x_.args) :
    ConM Tryz.prog 242 [(.agg #[(nV x_.op), (nV x_.to), v1, (nV x_.n_)])] w0 (impl_cloneIns x_) fun r v w' => ∃ (x1 : Value), v = (.agg #[(nV r.op), (nV r.to), x1, (nV r.n_)]) ∧ Mem w0 (hp w0) w' [ow [x1] r.args] := by
  unfold impl_cloneIns
  refine gcon func242 rfl fun r => ?_
  have hm := Mem.start w0
  refine gS (gR (gBx hm rfl fun aB w hm => gAl hm zeroValue65 rfl fun aC w hm => gE (gS (gR (gF fo_65_2 rfl (gL hm 1 isAgg43 rfl (gCg rfl call177 (slices_Clone_S_int_int_ok _ x_.args v1 (hm.now h1)) ?_)))))))
  rintro aD aE aA w ⟨_, rfl, hB⟩
  replace hm := hm.give hB; clear hB
  exact gF fo_65_2 rfl (gS1 hm 2 sizeOf43 (rep_one (hm.ow_rep 0 rfl)) rfl fun w hm => gE (gS (gR (gY (yn (hm.blk_at 2 rfl) isAgg65 sizeOf65 rfl) (gSN hm 1 sizeOf65 (one_cons rfl (one_cons rfl (one_cons (rep_one (hm.ow_rep 0 rfl)) (one_cons rfl one_nil)))) rfl fun w hm => gE (gRt (grc 1 results242 hm rfl isAgg65 sizeOf65 ⟨aA, rfl, hm.pk [0] rfl rfl⟩)))))))
theorem impl_cloneBlock_ok (w0 : World) (b_ : Block_) (v1 : Value) (h1 : GT.rep (hp w0) [v1] b_.phis) (v2 : Value) (h2 : GT.rep (hp w0) [v2] b_.ins) (v3 : Value) (h3 : GT.rep (hp w0) [v3] b_.next_) :
    ConM Tryz.prog 162 [(.agg #[v1, v2, (nV b_.jump), (nV b_.on), v3])] w0 (impl_cloneBlock b_) fun r v w' => ∃ (x1 : Value) (x2 : Value) (x3 : Value), v = (.agg #[x1, x2, (nV r.jump), (nV r.on), x3]) ∧ Mem w0 (hp w0) w' [ow [x1] r.phis, ow [x2] r.ins, ow [x3] r.next_] := by
  unfold impl_cloneBlock
  refine gcon func162 rfl fun r => ?_
  have hm := Mem.start w0
  refine gS (gR (gBx hm rfl fun aF w hm => gAl hm zeroValue63 rfl fun aG w hm => gE (gS (gR (gF fo_63_0 rfl (gL hm 1 isAgg60 rfl (gCg rfl call239 (impl_mapped_impl_Phi_impl_Phi_ok _ b_.phis v1 (hm.now h1) (fun y0 => impl_clonePhi y0) (.func (.func 240) #[] #[]) (fun w y0 aA aB r hB hq => ⟨240, [], rfl, call240, impl_clonePhi_ok w y0 aA aB  r hq⟩)) ?_)))))))
  rintro aH aI aC w ⟨_, rfl, hB⟩
  replace hm := hm.give hB; clear hB
  refine gF fo_63_0 rfl (gS1 hm 2 sizeOf60 (rep_one (hm.ow_rep 0 rfl)) rfl fun w hm => gE (gS (gR (gF fo_63_1 rfl (gL hm 2 isAgg61 rfl (gCg rfl call241 (impl_mapped_impl_Ins_impl_Ins_ok _ b_.ins v2 (hm.now h2) (fun y0 => impl_cloneIns y0) (.func (.func 242) #[] #[]) (fun w y0 aA aB r hB hq => ⟨242, [], rfl, call242, impl_cloneIns_ok w y0 aA aB  r hq⟩)) ?_))))))
  rintro aJ aK aD w ⟨_, rfl, hB⟩
  replace hm := hm.give hB; clear hB
  refine gF fo_63_1 rfl (gS1 hm 3 sizeOf61 (rep_one (hm.ow_rep 0 rfl)) rfl fun w hm => gE (gS (gR (gF fo_63_4 rfl (gL hm 3 isAgg43 rfl (gCg rfl call177 (slices_Clone_S_int_int_ok _ b_.next_ v3 (hm.now h3)) ?_))))))
  rintro aL aM aE w ⟨_, rfl, hB⟩
  replace hm := hm.give hB; clear hB
  exact gF fo_63_4 rfl (gS1 hm 4 sizeOf43 (rep_one (hm.ow_rep 0 rfl)) rfl fun w hm => gE (gS (gR (gY (yn (hm.blk_at 4 rfl) isAgg63 sizeOf63 rfl) (gSN hm 3 sizeOf63 (one_cons (rep_one (hm.ow_rep 2 rfl)) (one_cons (rep_one (hm.ow_rep 1 rfl)) (one_cons rfl (one_cons rfl (one_cons (rep_one (hm.ow_rep 0 rfl)) one_nil))))) rfl fun w hm => gE (gRt (grc 3 results162 hm rfl isAgg63 sizeOf63 ⟨aC, aD, aE, rfl, hm.pk [2, 1, 0] rfl rfl⟩)))))))
theorem impl_cloneCode_ok (w0 : World) (c_ : Code_) (v1 : Value) (h1 : GT.rep (hp w0) [v1] c_.blocks) :
    ConM Tryz.prog 97 [(.agg #[(nV c_.params), (nV c_.regs), v1])] w0 (impl_cloneCode c_) fun r v w' => ∃ (x1 : Value), v = (.agg #[(nV r.params), (nV r.regs), x1]) ∧ Mem w0 (hp w0) w' [ow [x1] r.blocks] := by
  unfold impl_cloneCode
  refine gcon func97 rfl fun r => ?_
  have hm := Mem.start w0
  refine gS (gR (gBx hm rfl fun aH w hm => gAl hm zeroValue49 rfl fun aI w hm => gE (gS (gR (gF fo_49_2 rfl (gL hm 1 isAgg47 rfl (gCg rfl call161 (impl_mapped_impl_Block_impl_Block_ok _ c_.blocks v1 (hm.now h1) (fun y0 => impl_cloneBlock y0) (.func (.func 162) #[] #[]) (fun w y0 aA aB aC aD aE aF r hB hq => ⟨162, [], rfl, call162, impl_cloneBlock_ok w y0 aA aB aC aD aE aF  r hq⟩)) ?_)))))))
  rintro aJ aK aG w ⟨_, rfl, hB⟩
  replace hm := hm.give hB; clear hB
  exact gF fo_49_2 rfl (gS1 hm 2 sizeOf47 (rep_one (hm.ow_rep 0 rfl)) rfl fun w hm => gE (gS (gR (gY (yn (hm.blk_at 2 rfl) isAgg49 sizeOf49 rfl) (gSN hm 1 sizeOf49 (one_cons rfl (one_cons rfl (one_cons (rep_one (hm.ow_rep 0 rfl)) one_nil))) rfl fun w hm => gE (gRt (grc 1 results97 hm rfl isAgg49 sizeOf49 ⟨aG, rfl, hm.pk [0] rfl rfl⟩)))))))
theorem impl_dropIdle_1_ok (w0 : World) (f : Phi_) (v1 : Value) (h1 : GT.rep (hp w0) [v1] f.args) (c0_ : MapS Bool) (v2 : Value) (h2 : GT.rep (hp w0) [v2] c0_) (bf0 : Nat) (hbf0 : w0.heap[bf0]? = some (.cells ([v2] : List Value).toArray 106 (0, 0))) :
    ConM Tryz.prog 123 [(.agg #[(nV f.to), v1]), (pV bf0)] w0 (impl_dropIdle_1 f c0_) fun r v w' => v = (.bool (r)) ∧ Below w0.heap.size w0 w' := by
  unfold impl_dropIdle_1
  refine gcon func123 rfl fun r => ?_
  have hm := Mem.start w0
  exact gS (gR (gBx hm rfl fun aA w hm => gA rfl (gE (gS (gR (gY (yl isAgg106 (hm.old_cell hbf0 rfl) rfl) (gF fo_127_0 rfl (gL hm 0 isAgg3 rfl (gY (yG rfl (y_lookB (key := f.to) (m := (c0_ : MapS Bool)) underlying3 underlying106 zeroValue4 (hm.now h2) rfl rfl rfl)) (gN rfl (gA rfl (gE (gRt (gr1 results123 rfl ⟨rfl, hm.below⟩))))))))))))))
theorem slices_IndexFunc_S_impl_Phi_impl_Phi_ok (w0 : World) (s_ : List Phi_) (v1 : Value) (h1 : GT.rep (hp w0) [v1] s_) (f : Phi_ → Option Bool) (fv1 : Value) (hfn1 : ∀ (w : World) (y0 : Phi_) (z1 : Value) (_ : GT.rep (hp w) [z1] y0.args) (r : Bool), Below w0.heap.size w0 w → f y0 = some r → FnOk Tryz.prog fv1 [(.agg #[(nV y0.to), z1])] w (fun v w' => v = (.bool (r)) ∧ Below w.heap.size w w')) :
    ConM Tryz.prog 204 [v1, fv1] w0 (slices_IndexFunc_S_impl_Phi_impl_Phi s_ f) fun r v w' => v = (nV r) ∧ Below w0.heap.size w0 w' := by
  unfold slices_IndexFunc_S_impl_Phi_impl_Phi
  refine gcon func204 rfl fun r => ?_
  have hm := Mem.start w0
  refine gS (gR (gA rfl (gE (gS (gS (gR (gM rfl ?_)))))))
  obtain ⟨aD, aE, rfl, aO⟩ := ro_slice h1
  refine gY (yV st_60 rfl) (gM rfl (gE (gBk (gNf hm (fun aA aC => [(0, (.slice aD s_.length aE)), (1, fv1), (7, (nV ((s_.length : Int)))), (8, (nV aA))]) (fun aA aC => []) [] rfl ?_ ?_))))
  ·
   repeat clear hm
   intro aP aF aA aC w hm aQ aR aS aG
   refine gS (gR (gB rfl (gE (gS (go _ 9 rfl (decide_eq_true (by omega)) (gct rfl (gSk (gS (gBk (gS (gR (gM rfl (gA rfl (gE (gS (gR (gM rfl (gM rfl (gM rfl (gg fun aH aI aB => ?_))))))))))))))))))))
   obtain ⟨aT, aV, aW, he⟩ := idx_form' h1 aB
   obtain ⟨rfl, _, rfl⟩ := sl3 he
   obtain ⟨aJ, aK, aL⟩ := rk_Phi_ h1 aB
   refine gI st_60 aI (idx_lt aB) rfl (gY (yn (aK.mono hm.lez) isAgg127 sizeOf127 rfl) (gb fun aX aM => gf rfl (fun a hf => e_callv hf rfl rfl rfl (hfn1 _ aH aJ (hm.now aL) _ hm.below aM)) ?_))
   rintro aY w ⟨rfl, hB⟩
   replace hm := hm.below' hB; clear hB
   refine gE (gs 16 rfl (fun aN => ?_) fun aN => ?_)
   ·
    exact gct rfl (gS (gR (gM rfl (gA rfl (gE (gRt (gLr aG aF (gr1 results204 rfl ⟨rfl, hm.below⟩))))))))
   exact gcf rfl (gSk (gR (gP (by omega) (by omega) rfl (gM rfl (gE (gze hm [] rfl))))))
  repeat clear hm
  intro aZ aa w hm ab ac
  exact gS (gR (gB rfl (gE (gS (go _ 9 rfl (decide_eq_false (by omega)) (gcf rfl (gXt (gHh (gS (gR (gA rfl (gE (gRt (gr1 results204 rfl ⟨rfl, hm.below⟩))))))))))))))
theorem idxF_lt {s_ : List Phi_} {f : Phi_ → Option Bool} {i : Int} (h : slices_IndexFunc_S_impl_Phi_impl_Phi s_ f = some i) : i = -1 ∨ (0 ≤ i ∧ i < (s_.length : Int)) := by
  unfold slices_IndexFunc_S_impl_Phi_impl_Phi at h
  have key : ∀ (k : Nat) (j : Int), 0 ≤ j → j + k ≤ (s_.length : Int) → ∀ q : Unit ⊕ Int, forN (S := Unit) (X := Int) (fun aA aD => Option.bind (getI s_ aA) fun aB => Option.bind (f aB) fun aC => if aC then some (.inr aA) else some (.inl ())) k j () = some q → q = .inl () ∨ ∃ p, q = .inr p ∧ 0 ≤ p ∧ p < (s_.length : Int) := by
    intro k
    induction k with
    | zero => intro j _ _ q hq; left; simpa [forN] using hq.symm
    | succ k ih =>
      intro j h0 h1 q hq
      rw [forN] at hq
      cases hx : getI s_ j with
      | none => rw [hx] at hq; simp at hq
      | some x =>
        rw [hx] at hq
        simp only [Option.bind_some] at hq
        cases hf : f x with
        | none => rw [hf] at hq; simp at hq
        | some b =>
          rw [hf] at hq
          cases b with
          | true => simp at hq; exact .inr ⟨j, hq.symm, h0, by omega⟩
          | false => exact ih (j + 1) (by omega) (by omega) q (by simpa using hq)
  cases hq : forN (S := Unit) (X := Int) (fun aA aD => Option.bind (getI s_ aA) fun aB => Option.bind (f aB) fun aC => if aC then some (.inr aA) else some (.inl ())) (((s_.length : Int) : Int) - 0).toNat 0 () with
  | none => rw [hq] at h; simp at h
  | some q =>
    rw [hq] at h
    rcases key _ 0 (Int.le_refl _) (by omega) q hq with rfl | ⟨p, rfl, h1, h2⟩
    · simp at h; exact .inl h.symm
    · simp at h; subst h; exact .inr ⟨h1, h2⟩
theorem slices_DeleteFunc_S_impl_Phi_impl_Phi_ok (w0 : World) (hz : Heap) (v1 : Value) (s_ : List Phi_) (fv1 : Value) (f : Phi_ → Option Bool) (hm : Mem w0 hz w0 [ow [v1] s_])
    (hfn1 : ∀ (w : World) (y0 : Phi_) (z1 : Value) (_ : GT.rep (hp w) [z1] y0.args) (r : Bool), Heap.le hz (hp w) → f y0 = some r → FnOk Tryz.prog fv1 [(.agg #[(nV y0.to), z1])] w (fun v w' => v = (.bool (r)) ∧ Below w.heap.size w w')) :
    ConM Tryz.prog 122 [v1, fv1] w0 (slices_DeleteFunc_S_impl_Phi_impl_Phi s_ f) fun r v w' => Mem w0 hz w' [ow [v] r] := by
  unfold slices_DeleteFunc_S_impl_Phi_impl_Phi
  refine gcon func122 rfl fun r => ?_
  refine gS (gR (gA rfl (gE (gS (gR (gM rfl (gM rfl (gb fun i hi => gf rfl (fun a hf => e_call hf rfl call204 rfl (slices_IndexFunc_S_impl_Phi_impl_Phi_ok _ s_ v1 (hm.ow_rep 0 rfl) f fv1 (fun w y0 z1 h3 q hB hq => hfn1 w y0 z1 h3 q (hm.below' hB).lez hq) _ hi)) ?_))))))))
  rintro _ w ⟨rfl, hB⟩
  replace hm := hm.below' hB; clear hB
  refine gA rfl (gE (gS (gS (gR (gM rfl (gB rfl (gE ?_)))))))
  refine gsd 12 rfl (fun h => ?_) fun h => ?_
  · exact gct rfl (gS (gR (gM rfl (gA rfl (gE (gRt (gr1 results122 rfl hm)))))))
  obtain ⟨h0, h1⟩ := (idxF_lt hi).resolve_left h
  obtain ⟨x0, hx0⟩ : ∃ x, s_[i.toNat]? = some x := ⟨_, List.getElem?_eq_getElem (by omega)⟩
  obtain ⟨b, off, cap, he⟩ := idx_form' (hm.ow_rep 0 rfl) hx0
  subst he
  have hlen : s_.length ≤ 140737488355328 := by
    obtain ⟨F, hF, _⟩ := hm.get 0 rfl
    rcases own_list.1 hF with ⟨hv, _⟩ | ⟨b', off', len', cap', C, T, hv, _, _, hl, _, hmx, _⟩
    · cases hv
    · omega
  replace hm := (hm.gap0 0 rfl).gap_pre (i := i.toNat) 0 rfl
  rw [show i.toNat + 1 = (i + 1).toNat by omega] at hm
  refine gcf rfl (gSk (gS (gS (gR (gM rfl (gP (by omega) (by omega) rfl (gA rfl (gE (gBk ?_)))))))))
  refine gNg (fun j ys a w => ∃ p : Int, (p = (ys.length : Int) ∧ p < j) ∧ St f122.ntmps [(0, (sV b off s_.length cap)), (1, fv1), (5, nV p), (6, nV j)] w0 hz [gap b off s_.length cap ys (s_.drop j.toNat)] a w) (fun a hf => ⟨i, ⟨by simp; omega, by omega⟩, hf.sb rfl, hm.pk [0] rfl rfl⟩) ?_ ?_
  · repeat clear hm
    rintro _ _ j ys a w ⟨p, ⟨hp1, hp2⟩, hf, hm⟩ hi1 hi2 q0 _
    refine gv hf ?_
    refine gS (gS (gR (gM rfl (gM rfl (gY (yV st_60 rfl) (gB rfl (gE (go _ 19 rfl (decide_eq_true (by omega)) (gct rfl (gSk (gS (gBk (gS (gR (gM rfl (gM rfl (gg fun x h3 hx => ?_)))))))))))))))))
    rw [drop_at hx] at hm
    obtain ⟨_, hc, hm⟩ := hm.gap_take 0 rfl
    rw [show s_.length - ((s_.drop (j.toNat + 1)).length + 1) = j.toNat by simp; omega] at hc
    obtain ⟨_, _, rfl, rfl, hr⟩ := hm.ow_rep 0 rfl
    obtain ⟨z, rfl, -⟩ := id hr
    replace hm : Mem w0 hz w [ow [(nV x.to), z] (x : Phi_), gap b off s_.length cap ys (s_.drop (j.toNat + 1))] := hm
    replace hm := hm.imp (c' := ow ([(nV x.to)] ++ [z]) ((x.to, x.args) : Int × (List Int))) 0 rfl (fun F h0 => h0)
    replace hm := Mem.unpair (α := Int) (β := (List Int)) (c := [(nV x.to)]) (d := [z]) (x := x.to) (y := x.args) hm 0 rfl rfl
    replace hm : Mem w0 hz w [ow [z] x.args, gap b off s_.length cap ys (s_.drop (j.toNat + 1))] := hm.pk [0, 2] rfl rfl
    replace hc : CellsAt (hp w) b (off + j.toNat * 2) [(nV x.to), z] := hc
    have hjl : j.toNat < s_.length := (List.getElem?_eq_some_iff.1 hx).1
    refine gI st_60 h3 hjl rfl (gY (yn hc isAgg127 sizeOf127 rfl) (gAl hm zeroValue127 rfl fun b7 w hm => gSN hm 0 sizeOf127 (one_cons rfl (one_cons (rep_one (hm.ow_rep 1 rfl)) one_nil)) rfl fun w hm => gE ?_))
    refine gS (gR (gM rfl (gY (yn (hm.blk_at 0 rfl) isAgg127 sizeOf127 rfl) (gb fun q hq => gf rfl (fun a hf => e_callv hf rfl rfl rfl (hfn1 _ x z (hm.ow_rep 1 rfl) q hm.lez hq)) ?_))))
    rintro _ w ⟨rfl, hB⟩
    replace hm := hm.below' hB; clear hB
    refine gN rfl (gE ?_)
    refine gJg (fun ws a w => ∃ p : Int, (p = (ws.length : Int) ∧ p < j + 1) ∧ St f122.ntmps [(0, (sV b off s_.length cap)), (1, fv1), (5, nV p), (6, nV j)] w0 hz [gap b off s_.length cap ws (s_.drop (j.toNat + 1))] a w) (fun s1 => ?_) ?_
    · refine gsn 29 rfl (fun hq0 => ?_) fun hq0 => ?_
      · subst hp1
        have hroom : ys.length + (s_.drop (j.toNat + 1)).length < s_.length := by simp; omega
        have h1z : ∀ u ∈ [(nV x.to), z], u.oneCell' = true := one_cons rfl (one_cons (rep_one (hm.ow_rep 1 rfl)) one_nil)
        refine gct rfl (gS (gR (gM rfl (gM rfl (gY (yn (hm.blk_at 0 rfl) isAgg127 sizeOf127 rfl) (gI st_60 (by omega) (show ((ys.length : Int)).toNat < s_.length by omega) rfl (gf0 rfl (fun a hf => e_storeG (vs := [(nV x.to), z]) 2 hf hm rfl rfl rfl sizeOf127 rfl rfl rfl h1z hroom) ?_)))))))
        rintro _ w hm
        replace hm : Mem w0 hz w [blk b7 [(nV x.to), z] 127, ow [z] x.args, gapC b off s_.length cap ys (s_.drop (j.toNat + 1)) [(nV x.to), z]] := hm
        replace hm := mk_Phi_ x.to hm 1 rfl
        replace hm := (hm.gap_put (x := x) 2 1 (by decide) rfl rfl rfl).pk (L' := [gap b off s_.length cap (ys ++ [x]) (s_.drop (j.toNat + 1))]) [2] rfl rfl
        exact gE (gR (gM rfl (gP (by omega) (by omega) rfl (gA rfl (gE (gZ fun a hf => ⟨(ys.length : Int) + 1, ⟨by simp, by omega⟩, hf.sb rfl, hm.pk [0] rfl rfl⟩))))))
      · exact gcf rfl (gSk (gZ fun a hf => ⟨p, ⟨hp1, by omega⟩, hf.sb rfl, hm.pk [2] rfl rfl⟩))
    · repeat clear hm
      rintro ws a w ⟨p, ⟨hp1, hp2⟩, hf, hm⟩
      refine gv hf ?_
      exact gR (gM rfl (gP (by omega) (by omega) rfl (gA rfl (gE (gZe fun a hf => ⟨p, ⟨hp1, hp2⟩, hf.sb rfl, by rw [show (j + 1).toNat = j.toNat + 1 by omega]; exact hm.pk [0] rfl rfl⟩)))))
  · repeat clear hm
    rintro j ys a w ⟨p, ⟨hp1, hp2⟩, hf, hm⟩ hi1 hi2
    refine gv hf ?_
    rw [List.drop_eq_nil_of_le (show s_.length ≤ j.toNat by omega)] at hm
    have hpl := (hm.gap_len 0 rfl).1
    simp only [List.length_nil, Nat.add_zero] at hpl
    refine gS (gS (gR (gM rfl (gM rfl (gY (yV st_60 rfl) (gB rfl (gE (go _ 19 rfl (decide_eq_false (by omega)) (gcf rfl (gXt (gHh ?_)))))))))))
    subst hp1
    have hcap := (hm.gap_len 0 rfl).2
    refine gS (gR (gM rfl (gM rfl (gY (yG rfl (y_subL (α := Phi_) st_60 rfl rfl rfl hpl hcap)) (gf0 rfl (fun a hf => e_clearS (α := Phi_) 0 hf hm rfl rfl underlying60 zeroValue127 rfl (fun u hu => by simp [Value.cells] at hu; rcases hu with rfl | rfl <;> rfl) rfl) ?_)))))
    rintro _ w ⟨rfl, hm⟩
    replace hm := hm.gap_shut 0 rfl
    exact gE (gS (gR (gM rfl (gM rfl (gY (yG rfl (y_subH (α := Phi_) st_60 rfl rfl rfl hpl hcap (by omega))) (gA rfl (gE (gRt (gr1 results122 rfl hm)))))))))
theorem impl_harmless_ok (w0 : World) (op : Int) :
    ConM Tryz.prog 205 [(nV op)] w0 (impl_harmless op) fun r v w' => v = (.bool (r)) ∧ Below w0.heap.size w0 w' := by
  unfold impl_harmless
  refine gcon func205 rfl fun r => ?_
  have hm := Mem.start w0
  refine gS (gR (gA rfl (gE (gS (gS (gR (gM rfl (gE (gBk (gS (gS (gR (gB rfl (gA rfl (gE (gJ hm (fun aA => [(4, (.bool (aA)))]) (fun aA => []) (fun aA => ?_) ?_))))))))))))))))
  ·
   refine gsd 4 rfl (fun aH => ?_) fun aH => ?_
   ·
    exact gct rfl (gSk (gz hm [] rfl))
   refine gcf rfl (gS (gR (gB rfl (gA rfl (gE (gJ hm (fun aB => [(4, (.bool (aB)))]) (fun aB => []) (fun aB => ?_) ?_))))))
   ·
    refine gsd 4 rfl (fun aI => ?_) fun aI => ?_
    ·
     exact gct rfl (gSk (gz hm [] rfl))
    refine gcf rfl (gS (gR (gB rfl (gA rfl (gE (gJ hm (fun aC => [(4, (.bool (aC)))]) (fun aC => []) (fun aC => ?_) ?_))))))
    ·
     refine gsd 4 rfl (fun aJ => ?_) fun aJ => ?_
     ·
      exact gct rfl (gSk (gz hm [] rfl))
     refine gcf rfl (gS (gR (gB rfl (gA rfl (gE (gJ hm (fun aD => [(4, (.bool (aD)))]) (fun aD => []) (fun aD => ?_) ?_))))))
     ·
      refine gsd 4 rfl (fun aK => ?_) fun aK => ?_
      ·
       exact gct rfl (gSk (gz hm [] rfl))
      refine gcf rfl (gS (gR (gB rfl (gA rfl (gE (gJ hm (fun aE => [(4, (.bool (aE)))]) (fun aE => []) (fun aE => ?_) ?_))))))
      ·
       refine gsd 4 rfl (fun aL => ?_) fun aL => ?_
       ·
        exact gct rfl (gSk (gz hm [] rfl))
       refine gcf rfl (gS (gR (gB rfl (gA rfl (gE (gJ hm (fun aF => [(4, (.bool (aF)))]) (fun aF => []) (fun aF => ?_) ?_))))))
       ·
        refine gsd 4 rfl (fun aM => ?_) fun aM => ?_
        ·
         exact gct rfl (gSk (gz hm [] rfl))
        refine gcf rfl (gS (gR (gB rfl (gA rfl (gE (gJ hm (fun aG => [(4, (.bool (aG)))]) (fun aG => []) (fun aG => ?_) ?_))))))
        ·
         refine gsd 4 rfl (fun aN => ?_) fun aN => ?_
         ·
          exact gct rfl (gSk (gz hm [] rfl))
         exact gcf rfl (gR (gB rfl (gA rfl (gE (gz hm [] rfl)))))
        repeat clear hm
        intro aG w hm
        exact gz hm [] rfl
       repeat clear hm
       intro aF w hm
       exact gz hm [] rfl
      repeat clear hm
      intro aE w hm
      exact gz hm [] rfl
     repeat clear hm
     intro aD w hm
     exact gz hm [] rfl
    repeat clear hm
    intro aC w hm
    exact gz hm [] rfl
   repeat clear hm
   intro aB w hm
   exact gz hm [] rfl
  repeat clear hm
  intro aA w hm
  refine gs 4 rfl (fun aO => ?_) fun aO => ?_
  ·
   exact gct rfl (gS (gR (gA rfl (gE (gRt (gr1 results205 rfl ⟨rfl, hm.below⟩))))))
  exact gcf rfl (gSk (gS (gR (gA rfl (gE (gRt (gr1 results205 rfl ⟨rfl, hm.below⟩)))))))
theorem pimpl_live__idleAt_ok (w0 : World) (l_ : live) (bp0 : Nat) (v1p : Value) (h1p : GT.rep (hp w0) [v1p] l_.c.blocks) (v2p : Value) (h2p : GT.rep (hp w0) [v2p] l_.ins) (v3p : Value) (h3p : GT.rep (hp w0) [v3p] l_.preds) (hbbp0 : (hp w0) bp0 = some (.cells ([(nV l_.c.params), (nV l_.c.regs), v1p, v2p, v3p] : List Value).toArray 109 (0, 0))) (b_ : Int) (i_ : Int) :
    ConM Tryz.prog 124 [(pV bp0), (nV b_), (nV i_)] w0 (pimpl_live__idleAt l_ b_ i_) fun r v w' => v = (.bool (r)) ∧ Below w0.heap.size w0 w' := by
  unfold pimpl_live__idleAt
  refine gcon func124 rfl fun r => ?_
  have hm := Mem.start w0
  refine gS (gR (gA rfl (gE (gS (gR (gM rfl (gY (yG rfl (y_nilptr rfl rfl)) (gF fo_109_0 rfl (gF fo_49_2 rfl (gY (yl isAgg47 (hm.hz_cell hbbp0 rfl) rfl) (gM rfl (gg fun aT aF aC => ?_))))))))))))
  obtain ⟨aG, aH, aI, he⟩ := idx_form' h1p aC
  subst he
  obtain ⟨aV, aW, aX, aJ, aY, aE, aZ⟩ := rk_Block_ h1p aC
  refine gI st_47 aF (idx_lt aC) rfl (gF fo_63_1 rfl (gY (yl isAgg61 ((aJ.mono hm.lez).cell (j := 1) rfl) rfl) (gM rfl (gg fun aA aK aD => ?_))))
  obtain ⟨aa, ab, ac, he⟩ := idx_form' aE aD
  subst he
  obtain ⟨aL, aM, aN⟩ := rk_Ins_ aE aD
  refine gI st_61 aK (idx_lt aD) rfl (gY (yn (aM.mono hm.lez) isAgg65 sizeOf65 rfl) (gAl hm zeroValue65 rfl fun aO w hm => gSN hm 0 sizeOf65 (one_cons rfl (one_cons rfl (one_cons (rep_one aN) (one_cons rfl one_nil)))) rfl fun w hm => gE (gS (gJ hm (fun aB => [(6, (.bool (aB)))]) (fun aB => []) (fun aB => ?_) ?_))))
  ·
   refine gW (.p 0 (.e 1 (.e 2 (.p 3 (.p 4 (.p 5 (.p 6 (.p 8 (.q 9 (.e 7 (.e 10 (.p 11 (.p 12 (.p 13 .fin))) .nil) .nil))))))) .nil) .nil)) [7] [0, 3, 4, 5, 6, 8, 11, 12, 13] hm [0] [blk aO [(nV aA.op), (nV aA.to), aL, (nV aA.n_)] 65] rfl mxo (by kernel_rfl) (fun _ _ _ h => h.2) fun w hm hS => tP rfl (fun w => yF fo_65_0 rfl) (tO (tY rfl (yL hm 0 isAgg3 rfl) (tAn rfl (tO (gb fun ae aP => tf rfl rfl (fun a hf => e_call hf rfl call205 rfl (impl_harmless_ok _ aA.op _ aP)) ?_)))))
   rintro af w ⟨rfl, hB⟩
   replace hm := hm.below' hB; clear hB
   refine tAk hm [0] rfl fun hS => tP rfl (fun w => yM rfl) (gs 23 rfl (fun aQ => ?_) fun aQ => ?_)
   ·
    refine tP rfl (fun w => yM rfl) (tP rfl (fun w => yM rfl) (tP rfl (fun w => yM rfl) (tP rfl (fun w => yF fo_65_1 rfl) (tQ rfl hS (fun w hm => yL hm 0 isAgg3 rfl) (tO (gb fun aR aS => tf rfl rfl (fun a hf => e_call hf rfl call121 rfl (pimpl_live__behind_ok _ l_ bp0 (sV aG aH l_.c.blocks.length aI) (hm.now h1p) v2p (hm.now h2p) v3p (hm.now h3p) (hm.lez _ _ ((Heap.le_refl _) _ _ hbbp0)) b_ i_ _ aS)) ?_))))))
    rintro ah w ⟨_, rfl, hB⟩
    replace hm := hm.give hB; clear hB
    exact tAk hm [1] rfl fun hS => tO (tY rfl (yG rfl (y_lookB (key := aA.to) (m := (aR : MapS Bool)) underlying3 underlying106 zeroValue4 (hm.owm_rep 0 rfl) rfl rfl rfl)) (tAn rfl (tP rfl (fun w => yN rfl) (tP rfl (fun w => yKt rfl) (tP rfl (fun w => yA rfl) (tE (gz hm [] rfl)))))))
   exact tPo rfl rfl (tPo rfl rfl (tPo rfl rfl (tPo rfl rfl (tQo rfl hS rfl (tO (tEo rfl rfl (tAs hS (tO (tEo rfl rfl (tAn rfl (tPo rfl rfl (tP rfl (fun w => yKf rfl) (tP rfl (fun w => yA rfl) (tE (gz hm [] rfl)))))))))))))))
  repeat clear hm
  intro aB w hm
  exact gRt (gr1 results124 rfl ⟨rfl, hm.below⟩)
theorem impl_dropIdle_ok (w0 : World) (c_ : Code_) (v1 : Value) (h1 : GT.rep (hp w0) [v1] c_.blocks) :
    ConM Tryz.prog 71 [(.agg #[(nV c_.params), (nV c_.regs), v1])] w0 (impl_dropIdle c_) fun r v w' => ∃ (x1 : Value), v = (.agg #[(nV r.params), (nV r.regs), x1]) ∧ Mem w0 (hp w0) w' [ow [x1] r.blocks] := by
  unfold impl_dropIdle
  refine gcon func71 rfl fun r => ?_
  have hm := Mem.start w0
  refine gS (gR (gBx hm rfl fun aO w hm => gAl hm zeroValue49 rfl fun aP w hm => gE (gBk (gMg (fun aD a w => ∃ (ap : Heap) (aM : Value), Heap.le (hp w0) ap ∧ GT.rep ap [aM] (aD.2.2) ∧ St 69 [(1, (pV aO)), (2, (pV aP))] w0 ap [blk aO [(nV aD.1), (nV aD.2.1), aM] 49, blk aP [(nV 0), (nV 0), (.slice none 0 0)] 49] a w) (fun a hf => ⟨(hp w0), v1, (Heap.le_refl _), h1, hf.sb rfl, hm.pk [1, 0] rfl rfl⟩) ?_))))
  repeat clear hm
  rintro cD b8 aD a w ⟨ap, aM, bN, al, hf, hm⟩ cE b9
  refine gv hf (gBk (gS (gJg (fun aA a w => ∃ (ac : Heap) (aQ : Nat) (aV bD bE : Value) (aS : Nat) (bF : Value), Heap.le ap ac ∧ GT.rep ac [aV] (aA.2.2.1) ∧ St 69 [(1, (pV aO)), (2, (pV aP)), (3, (pV aQ)), (4, (pV aS))] w0 ac [blk aO [(nV aD.1), (nV aD.2.1), aM] 49, blk aP [(nV 0), (nV 0), (.slice none 0 0)] 49, blk aQ [(nV aA.1), (nV aA.2.1), aV, bD, bE] 109, ow [bD] aA.2.2.2.1, ow [bE] aA.2.2.2.2.1, blk aS [(nV aA.2.2.2.2.2.1), (nV aA.2.2.2.2.2.2.1), bF] 49, ow [bF] aA.2.2.2.2.2.2.2] a w) (fun aA => ?_) ?_)))
  ·
   refine gW (.q 0 (.q 2 (.e 1 (.e 3 (.e 4 (.p 5 (.e 6 .fin .nil)) .nil) (.e 4 (.e 3 (.p 5 (.e 6 .fin .nil)) .nil) .nil)) (.e 4 (.e 1 (.e 3 (.p 5 (.e 6 .fin .nil)) .nil) .nil) .nil)))) [0, 1, 2, 4] [5] hm [0, 1] [blk aO [(nV aD.1), (nV aD.2.1), aM] 49, blk aP [(nV 0), (nV 0), (.slice none 0 0)] 49] rfl mxo (by kernel_rfl) (fun _ _ _ h => h.2) fun w hm hS => tQ rfl hS (fun w hm => yn (hm.blk_at 0 rfl) isAgg49 sizeOf49 rfl) (tQ rfl hS (fun w hm => yn (hm.blk_at 0 rfl) isAgg49 sizeOf49 rfl) (gb fun cF bO => gb fun cG bG => tMo ?_ ?_))
   ·
    refine tf rfl rfl (fun a hf => e_call hf rfl call102 rfl (impl_liveOf_ok _ _ hm.lez (⟨aD.1, aD.2.1, aD.2.2⟩ : Code_) aM al  _ bO)) ?_
    rintro cH w ⟨bP, bQ, bR, bS, bT, rfl, aj, bU, hB⟩
    replace hm := Mem.giveA hm aj hB; clear hB
    refine tAk (hm.thaw aj) [3, 4] rfl fun hS => tMo ?_ ?_
    ·
     refine tf rfl rfl (fun a hf => e_call hf rfl call97 rfl (impl_cloneCode_ok _ (⟨aD.1, aD.2.1, aD.2.2⟩ : Code_) aM (hm.now (GT.mono aj al)) _ bG)) ?_
     rintro cI w ⟨ba, rfl, hB⟩
     replace hm := hm.give hB; clear hB
     refine tAn rfl (tO (tf rfl rfl (fun a hf => e_alloc hm zeroValue49 rfl rfl) ?_))
     rintro _ w ⟨bb, rfl, hm⟩
     refine tAk (hm.thaw aj) [5, 6] rfl fun hS => tP rfl (fun w => yA rfl) (tO (tf0 rfl rfl (fun a hf => e_storeN 0 hf hm rfl sizeOf49 rfl rfl rfl (one_cons rfl (one_cons rfl (one_cons (rep_one (hm.ow_rep 1 rfl)) one_nil))) rfl rfl) ?_))
     rintro _ w hm
     exact tAn rfl (tE (gZ fun a hf => ⟨bT, bP, bQ, bR, bS, bb, ba, aj, bU, hf.sb rfl, hm.pk [5, 6, 2, 3, 4, 0, 1] rfl rfl⟩))
    refine tO (tf rfl rfl (fun a hf => e_alloc hm zeroValue49 rfl rfl) ?_)
    rintro _ w ⟨bc, rfl, hm⟩
    refine tAk (hm.thaw aj) [4, 5] rfl fun hS => tO (tf rfl rfl (fun a hf => e_call hf rfl call97 rfl (impl_cloneCode_ok _ (⟨aD.1, aD.2.1, aD.2.2⟩ : Code_) aM (hm.now (GT.mono aj al)) _ bG)) ?_)
    rintro cJ w ⟨bd, rfl, hB⟩
    replace hm := hm.give hB; clear hB
    refine tAn rfl (tP rfl (fun w => yA rfl) (tO (tf0 rfl rfl (fun a hf => e_storeN 1 hf hm rfl sizeOf49 rfl rfl rfl (one_cons rfl (one_cons rfl (one_cons (rep_one (hm.ow_rep 0 rfl)) one_nil))) rfl rfl) ?_)))
    rintro _ w hm
    exact tAn rfl (tE (gZ fun a hf => ⟨bT, bP, bQ, bR, bS, bc, bd, aj, bU, hf.sb rfl, hm.pk [5, 6, 2, 3, 4, 1, 0] rfl rfl⟩))
   refine tO (tf rfl rfl (fun a hf => e_alloc hm zeroValue49 rfl rfl) ?_)
   rintro _ w ⟨be, rfl, hm⟩
   refine tAk hm [1, 2] rfl fun hS => tO (tf rfl rfl (fun a hf => e_call hf rfl call102 rfl (impl_liveOf_ok _ _ hm.lez (⟨aD.1, aD.2.1, aD.2.2⟩ : Code_) aM al  _ bO)) ?_)
   rintro cK w ⟨bf, bg, bh, bi, bj, rfl, av, bk, hB⟩
   replace hm := Mem.giveA hm av hB; clear hB
   refine tAk (hm.thaw av) [4, 5] rfl fun hS => tO (tf rfl rfl (fun a hf => e_call hf rfl call97 rfl (impl_cloneCode_ok _ (⟨aD.1, aD.2.1, aD.2.2⟩ : Code_) aM (hm.now (GT.mono av al)) _ bG)) ?_)
   rintro cL w ⟨bl, rfl, hB⟩
   replace hm := hm.give hB; clear hB
   refine tAn rfl (tP rfl (fun w => yA rfl) (tO (tf0 rfl rfl (fun a hf => e_storeN 4 hf hm rfl sizeOf49 rfl rfl rfl (one_cons rfl (one_cons rfl (one_cons (rep_one (hm.ow_rep 0 rfl)) one_nil))) rfl rfl) ?_)))
   rintro _ w hm
   exact tAn rfl (tE (gZ fun a hf => ⟨bj, bf, bg, bh, bi, be, bl, av, bk, hf.sb rfl, hm.pk [5, 6, 1, 2, 3, 4, 0] rfl rfl⟩))
  repeat clear hm
  rintro aA a w ⟨ac, aQ, aV, bD, bE, aS, bF, bH, bV, hf, hm⟩
  refine gv hf (gS (gS (gR (gF fo_49_2 rfl (gL hm 5 isAgg47 rfl ?_)))))
  obtain ⟨ae, aE, rfl, cM⟩ := ro_slice (hm.ow_rep 6 rfl)
  refine gY (yV st_47 rfl) (gM rfl (gE ?_))
  obtain ⟨aF, aG, rfl, cN⟩ := ro_slice (hm.ow_rep 3 rfl)
  obtain ⟨aH, aI, rfl, cO⟩ := ro_slice (hm.ow_rep 4 rfl)
  refine gBk (gNf hm (fun aL aX => [(1, (pV aO)), (2, (pV aP)), (3, (pV aQ)), (4, (pV aS)), (17, (nV ((aA.2.2.2.2.2.2.2.length : Int)))), (18, (nV aL))]) (fun aL aX => [blk aO [(nV aD.1), (nV aD.2.1), aM] 49, blk aP [(nV 0), (nV 0), (.slice none 0 0)] 49, blk aQ [(nV aA.1), (nV aA.2.1), aV, (.slice aF aA.2.2.2.1.length aG), (.slice aH aA.2.2.2.2.1.length aI)] 109, ow [(.slice aF aA.2.2.2.1.length aG)] aA.2.2.2.1, ow [(.slice aH aA.2.2.2.2.1.length aI)] aA.2.2.2.2.1, blk aS [(nV aA.2.2.2.2.2.1), (nV aA.2.2.2.2.2.2.1), (.slice ae aA.2.2.2.2.2.2.2.length aE)] 49, ow [(.slice ae aA.2.2.2.2.2.2.2.length aE)] aX]) [0, 1, 2, 3, 4, 5, 6] rfl ?_ ?_)
  ·
   repeat clear hm
   intro _ _ aL aX w hm cP cQ cR _
   refine gS (gR (gB rfl (gE (gS (go _ 19 rfl (decide_eq_true (by omega)) (gct rfl (gSk (gS (gBk (gS (gR (gM rfl (gA rfl (gE (gS (gR (gF fo_49_2 rfl (gL hm 5 isAgg47 rfl (gM rfl (gg fun aB bm aq => ?_))))))))))))))))))))
   obtain ⟨aJ, aK, cS, he⟩ := idx_form' (hm.ow_rep 6 rfl) aq
   obtain ⟨rfl, _, rfl⟩ := sl3 he
   obtain ⟨cT, cU, cV, cW, cX, cY, cZ⟩ := rk_Block_ (hm.ow_rep 6 rfl) aq
   have hL2_1 := rep_slice_len (hm.ow_rep 6 rfl)
   refine gI st_47 bm (idx_lt2 aq hL2_1) rfl (gA rfl (gE ?_))
   obtain ⟨aw, am, aN, hm⟩ := pin_Block_ hm 6 rfl aq
   refine gS (gR (gM rfl (gM rfl (gCg rfl call121 (pimpl_live__behind_ok _ (⟨(⟨aA.1, aA.2.1, aA.2.2.1⟩ : Code_), aA.2.2.2.1, aA.2.2.2.2.1⟩ : live) aQ aV (hm.now bV) (.slice aF aA.2.2.2.1.length aG) (hm.ow_rep 6 rfl) (.slice aH aA.2.2.2.2.1.length aI) (hm.ow_rep 7 rfl) (hm.blk_cells 5 rfl).1 aL (-1)) ?_))))
   rintro ar c4 ak w ⟨_, rfl, hB⟩
   replace hm := hm.give hB; clear hB
   refine gAl hm zeroValue106 rfl fun an w hm => gS1 hm 0 sizeOf106 (owm_one hm 1 rfl) rfl fun w hm => gE (gS (gR (gM rfl (gM rfl (gY (yG rfl (y_nilptr rfl rfl)) (gF fo_63_0 rfl (gY (yl isAgg60 ((hm.holeE_at 11 rfl).cell (j := 0) rfl) rfl) (gY (yU rfl) ?_))))))))
   obtain ⟨bo, hle, hm1, hsub, bp⟩ := hm.take2 (L1 := [ow [aw] aB.phis]) (L2 := [blk an [ak] 106, owm ak ar, ow [aN] aB.next_, ow [am] aB.ins, blk aO [(nV aD.1), (nV aD.2.1), aM] 49, blk aP [(nV 0), (nV 0), (.slice none 0 0)] 49, blk aQ [(nV aA.1), (nV aA.2.1), aV, (.slice aF aA.2.2.2.1.length aG), (.slice aH aA.2.2.2.2.1.length aI)] 109, ow [(.slice aF aA.2.2.2.1.length aG)] aA.2.2.2.1, ow [(.slice aH aA.2.2.2.2.1.length aI)] aA.2.2.2.2.1, blk aS [(nV aA.2.2.2.2.2.1), (nV aA.2.2.2.2.2.2.1), (sV aJ aK aA.2.2.2.2.2.2.2.length aE)] 49, holeE aJ aK aA.2.2.2.2.2.2.2.length aE (aX : List Block_) (aL).toNat [aw, am, (nV aB.jump), (nV aB.on), aN]]) [4] [0, 1, 2, 3, 5, 6, 7, 8, 9, 10, 11] (by decide) rfl rfl
   refine gCg rfl call122 (slices_DeleteFunc_S_impl_Phi_impl_Phi_ok _ bo aw aB.phis (.func (.func 123) #[] #[(pV an)]) (fun y0 => impl_dropIdle_1 y0 ar) hm1 (fun w y0 z1 h3 r hle3 hr => ⟨123, [(pV an)], rfl, call123, impl_dropIdle_1_ok w y0 z1 h3 ar ak (GT.mono hle3 (fz_owm (hsub 1 _ rfl))) an (hle3 _ _ (fz_blk (hsub 0 _ rfl))) _ hr⟩)) ?_
   rintro aY c5 aR w bW
   replace hm : Mem w0 ac _ [ow [aR] aY, blk an [ak] 106, owm ak ar, ow [aN] aB.next_, ow [am] aB.ins, blk aO [(nV aD.1), (nV aD.2.1), aM] 49, blk aP [(nV 0), (nV 0), (.slice none 0 0)] 49, blk aQ [(nV aA.1), (nV aA.2.1), aV, (.slice aF aA.2.2.2.1.length aG), (.slice aH aA.2.2.2.2.1.length aI)] 109, ow [(.slice aF aA.2.2.2.1.length aG)] aA.2.2.2.1, ow [(.slice aH aA.2.2.2.2.1.length aI)] aA.2.2.2.2.1, blk aS [(nV aA.2.2.2.2.2.1), (nV aA.2.2.2.2.2.2.1), (sV aJ aK aA.2.2.2.2.2.2.2.length aE)] 49, holeE aJ aK aA.2.2.2.2.2.2.2.length aE (aX : List Block_) (aL).toNat [aw, am, (nV aB.jump), (nV aB.on), aN]] := bp _ _ bW
   clear bW
   refine gY (yG rfl (y_nilptr rfl rfl)) (gF fo_63_0 rfl ?_)
   have bX : ∀ u ∈ ([aR] : List Value), u.oneCell' = true := (one_cons (rep_one (hm.ow_rep 0 rfl)) one_nil)
   refine gf0 rfl (fun a hf => e_storeH (j := 0) (vs := [aR]) 11 hf hm rfl rfl rfl sizeOf60 rfl rfl (cells_one (bX _ (List.mem_singleton.2 rfl))) bX rfl) ?_
   rintro _ w hm
   replace hm : Mem w0 ac _ [ow [aR] aY, blk an [ak] 106, owm ak ar, ow [aN] aB.next_, ow [am] aB.ins, blk aO [(nV aD.1), (nV aD.2.1), aM] 49, blk aP [(nV 0), (nV 0), (.slice none 0 0)] 49, blk aQ [(nV aA.1), (nV aA.2.1), aV, (.slice aF aA.2.2.2.1.length aG), (.slice aH aA.2.2.2.2.1.length aI)] 109, ow [(.slice aF aA.2.2.2.1.length aG)] aA.2.2.2.1, ow [(.slice aH aA.2.2.2.2.1.length aI)] aA.2.2.2.2.1, blk aS [(nV aA.2.2.2.2.2.1), (nV aA.2.2.2.2.2.2.1), (sV aJ aK aA.2.2.2.2.2.2.2.length aE)] 49, holeE aJ aK aA.2.2.2.2.2.2.2.length aE (aX : List Block_) (aL).toNat [aR, am, (nV aB.jump), (nV aB.on), aN]] := hm
   refine gE (gS (gR (gA rfl (gE (gS (gS (gR (gM rfl (gY (yG rfl (y_nilptr rfl rfl)) (gF fo_63_1 rfl (gY (yl isAgg61 ((hm.holeE_at 11 rfl).cell (j := 1) rfl) rfl) ?_)))))))))))
   obtain ⟨ah, aT, rfl, c6⟩ := ro_slice (hm.ow_rep 4 rfl)
   refine gY (yV st_61 rfl) (gM rfl (gE ?_))
   replace hm := hm.drnV0 4 rfl
   refine gBk ?_
   replace hm := hm.nilow (α := Ins_)
   refine gNg (fun ab ai a w => ∃ (af : Value), St 69 [(1, (pV aO)), (2, (pV aP)), (3, (pV aQ)), (4, (pV aS)), (5, (nV aL)), (6, (.pointer (some ⟨aJ, aK + (aL).toNat * 5, none⟩))), (8, af), (17, (nV ((aA.2.2.2.2.2.2.2.length : Int)))), (18, (nV aL)), (40, (.slice ah aB.ins.length aT)), (41, (nV ((aB.ins.length : Int)))), (42, (nV ab))] w0 ac [blk aO [(nV aD.1), (nV aD.2.1), aM] 49, blk aP [(nV 0), (nV 0), (.slice none 0 0)] 49, blk aQ [(nV aA.1), (nV aA.2.1), aV, (.slice aF aA.2.2.2.1.length aG), (.slice aH aA.2.2.2.2.1.length aI)] 109, ow [(.slice aF aA.2.2.2.1.length aG)] aA.2.2.2.1, ow [(.slice aH aA.2.2.2.2.1.length aI)] aA.2.2.2.2.1, blk aS [(nV aA.2.2.2.2.2.1), (nV aA.2.2.2.2.2.2.1), (sV aJ aK aA.2.2.2.2.2.2.2.length aE)] 49, holeE aJ aK aA.2.2.2.2.2.2.2.length aE (aX : List Block_) (aL).toNat [aR, (.slice ah aB.ins.length aT), (nV aB.jump), (nV aB.on), aN], ow [aR] aY, drnV (.slice ah aB.ins.length aT) (aB.ins : List Ins_) (ab), ow [aN] aB.next_, ow [af] ai] a w) (fun a hf => ⟨(.slice none 0 0), hf.sb rfl, hm.pk [6, 7, 8, 9, 10, 11, 12, 1, 5, 4, 0] rfl rfl⟩) ?_ ?_
   ·
    repeat clear hm
    rintro _ _ ab ai a w ⟨af, hf, hm⟩ c7 c8 c9 _
    refine gv hf (gS (gR (gB rfl (gE (gS (go _ 43 rfl (decide_eq_true (by omega)) (gct rfl (gSk (gS (gJg (fun bJ a w => ∃ (ax : Value), St 69 [(1, (pV aO)), (2, (pV aP)), (3, (pV aQ)), (4, (pV aS)), (5, (nV aL)), (6, (.pointer (some ⟨aJ, aK + (aL).toNat * 5, none⟩))), (8, ax), (17, (nV ((aA.2.2.2.2.2.2.2.length : Int)))), (18, (nV aL)), (40, (.slice ah aB.ins.length aT)), (41, (nV ((aB.ins.length : Int)))), (42, (nV ab))] w0 ac [blk aO [(nV aD.1), (nV aD.2.1), aM] 49, blk aP [(nV 0), (nV 0), (.slice none 0 0)] 49, blk aQ [(nV aA.1), (nV aA.2.1), aV, (.slice aF aA.2.2.2.1.length aG), (.slice aH aA.2.2.2.2.1.length aI)] 109, ow [(.slice aF aA.2.2.2.1.length aG)] aA.2.2.2.1, ow [(.slice aH aA.2.2.2.2.1.length aI)] aA.2.2.2.2.1, blk aS [(nV aA.2.2.2.2.2.1), (nV aA.2.2.2.2.2.2.1), (sV aJ aK aA.2.2.2.2.2.2.2.length aE)] 49, holeE aJ aK aA.2.2.2.2.2.2.2.length aE (aX : List Block_) (aL).toNat [aR, (.slice ah aB.ins.length aT), (nV aB.jump), (nV aB.on), aN], ow [aR] aY, drnS (.slice ah aB.ins.length aT) (aB.ins : List Ins_) (ab), ow [aN] aB.next_, ow [ax] bJ] a w) (fun bJ => ?_) ?_))))))))))
    ·
     refine gBk (gS (gR (gM rfl (gg fun aC bY ay => ?_))))
     obtain ⟨aZ, aa, ca, he⟩ := hm.drn_form 8 rfl ay
     obtain ⟨rfl, _, rfl⟩ := sl3 he
     obtain ⟨_, bq, hm⟩ := hm.drn_pin 8 rfl ay
     have br := hm.ow_rep 0 rfl
     obtain ⟨_, _, rfl, rfl, _, _, rfl, rfl, _, _, rfl, az, rfl⟩ := br
     obtain ⟨aW, rfl, -⟩ := id az
     replace az : GT.rep (hp _) [aW] aC.args := az
     clear bq az
     replace hm : Mem w0 ac _ [ow [(nV aC.op), (nV aC.to), aW, (nV aC.n_)] (aC : Ins_), blk aO [(nV aD.1), (nV aD.2.1), aM] 49, blk aP [(nV 0), (nV 0), (.slice none 0 0)] 49, blk aQ [(nV aA.1), (nV aA.2.1), aV, (.slice aF aA.2.2.2.1.length aG), (.slice aH aA.2.2.2.2.1.length aI)] 109, ow [(.slice aF aA.2.2.2.1.length aG)] aA.2.2.2.1, ow [(.slice aH aA.2.2.2.2.1.length aI)] aA.2.2.2.2.1, blk aS [(nV aA.2.2.2.2.2.1), (nV aA.2.2.2.2.2.2.1), (sV aJ aK aA.2.2.2.2.2.2.2.length aE)] 49, holeE aJ aK aA.2.2.2.2.2.2.2.length aE (aX : List Block_) (aL).toNat [aR, (sV aZ aa aB.ins.length aT), (nV aB.jump), (nV aB.on), aN], ow [aR] aY, drnH aZ aa aB.ins.length aT (aB.ins : List Ins_) (ab).toNat [(nV aC.op), (nV aC.to), aW, (nV aC.n_)], ow [aN] aB.next_, ow [af] ai] := hm
     replace hm := hm.imp (c' := ow ([(nV aC.op)] ++ [(nV aC.to), aW, (nV aC.n_)]) ((aC.op, (aC.to, aC.args, aC.n_)) : Int × Int × (List Int) × Int)) 0 rfl (fun F h0 => h0)
     replace hm := Mem.unpair (α := Int) (β := Int × (List Int) × Int) (c := [(nV aC.op)]) (d := [(nV aC.to), aW, (nV aC.n_)]) (x := aC.op) (y := (aC.to, aC.args, aC.n_)) hm 0 rfl rfl
     replace hm := hm.imp (c' := ow ([(nV aC.to)] ++ [aW, (nV aC.n_)]) ((aC.to, (aC.args, aC.n_)) : Int × (List Int) × Int)) 0 rfl (fun F h0 => h0)
     replace hm := Mem.unpair (α := Int) (β := (List Int) × Int) (c := [(nV aC.to)]) (d := [aW, (nV aC.n_)]) (x := aC.to) (y := (aC.args, aC.n_)) hm 0 rfl rfl
     replace hm := hm.imp (c' := ow ([aW] ++ [(nV aC.n_)]) ((aC.args, aC.n_) : (List Int) × Int)) 0 rfl (fun F h0 => h0)
     replace hm := Mem.unpair (α := List Int) (β := Int) (c := [aW]) (d := [(nV aC.n_)]) (x := aC.args) (y := aC.n_) hm 0 rfl rfl
     replace hm := hm.pk (L' := [ow [aW] aC.args, blk aO [(nV aD.1), (nV aD.2.1), aM] 49, blk aP [(nV 0), (nV 0), (.slice none 0 0)] 49, blk aQ [(nV aA.1), (nV aA.2.1), aV, (.slice aF aA.2.2.2.1.length aG), (.slice aH aA.2.2.2.2.1.length aI)] 109, ow [(.slice aF aA.2.2.2.1.length aG)] aA.2.2.2.1, ow [(.slice aH aA.2.2.2.2.1.length aI)] aA.2.2.2.2.1, blk aS [(nV aA.2.2.2.2.2.1), (nV aA.2.2.2.2.2.2.1), (sV aJ aK aA.2.2.2.2.2.2.2.length aE)] 49, holeE aJ aK aA.2.2.2.2.2.2.2.length aE (aX : List Block_) (aL).toNat [aR, (sV aZ aa aB.ins.length aT), (nV aB.jump), (nV aB.on), aN], ow [aR] aY, drnH aZ aa aB.ins.length aT (aB.ins : List Ins_) (ab).toNat [(nV aC.op), (nV aC.to), aW, (nV aC.n_)], ow [aN] aB.next_, ow [af] ai]) [1, 4, 5, 6, 7, 8, 9, 10, 11, 12, 13, 14] rfl rfl
     have hL4_1 := hm.drnH_len 9 rfl
     refine gI st_61 bY (idx_lt2 ay hL4_1) rfl (gY (yn (hm.drnH_at 9 rfl) isAgg65 sizeOf65 rfl) (gAl hm zeroValue65 rfl fun bA w hm => gA rfl (gSN hm 0 sizeOf65 (one_cons rfl (one_cons rfl (one_cons (rep_one (hm.ow_rep 1 rfl)) (one_cons rfl one_nil)))) rfl fun w hm => gE (gS ?_))))
     replace hm := hm.drnH_gone 10 rfl bY ay
     refine gR (gM rfl (gM rfl (gM rfl (gC hm rfl call124 (pimpl_live__idleAt_ok _ (⟨(⟨aA.1, aA.2.1, aA.2.2.1⟩ : Code_), aA.2.2.2.1, aA.2.2.2.2.1⟩ : live) aQ aV (hm.now bV) (.slice aF aA.2.2.2.1.length aG) (hm.ow_rep 5 rfl) (.slice aH aA.2.2.2.2.1.length aI) (hm.ow_rep 6 rfl) (hm.blk_cells 4 rfl).1 aL ab) fun cb cc w hm => gN rfl (gE (gJg (fun bK a w => ∃ (bB : Value), St 69 [(1, (pV aO)), (2, (pV aP)), (3, (pV aQ)), (4, (pV aS)), (5, (nV aL)), (6, (.pointer (some ⟨aJ, aK + (aL).toNat * 5, none⟩))), (8, bB), (17, (nV ((aA.2.2.2.2.2.2.2.length : Int)))), (18, (nV aL)), (40, (sV aZ aa aB.ins.length aT)), (41, (nV ((aB.ins.length : Int)))), (42, (nV ab))] w0 ac [blk aO [(nV aD.1), (nV aD.2.1), aM] 49, blk aP [(nV 0), (nV 0), (.slice none 0 0)] 49, blk aQ [(nV aA.1), (nV aA.2.1), aV, (.slice aF aA.2.2.2.1.length aG), (.slice aH aA.2.2.2.2.1.length aI)] 109, ow [(.slice aF aA.2.2.2.1.length aG)] aA.2.2.2.1, ow [(.slice aH aA.2.2.2.2.1.length aI)] aA.2.2.2.2.1, blk aS [(nV aA.2.2.2.2.2.1), (nV aA.2.2.2.2.2.2.1), (sV aJ aK aA.2.2.2.2.2.2.2.length aE)] 49, holeE aJ aK aA.2.2.2.2.2.2.2.length aE (aX : List Block_) (aL).toNat [aR, (sV aZ aa aB.ins.length aT), (nV aB.jump), (nV aB.on), aN], ow [aR] aY, drnS (sV aZ aa aB.ins.length aT) (aB.ins : List Ins_) (ab), ow [aN] aB.next_, ow [bB] bK] a w) (fun bK => ?_) ?_))))))
     ·
      refine gsn 51 rfl (fun bs => ?_) fun bs => ?_
      ·
       refine gct rfl (gR (gM rfl (gY (yn (hm.blk_at 0 rfl) isAgg65 sizeOf65 rfl) (gf rfl (fun a hf => e_build (vs := #[(0, (.agg #[(nV aC.op), (nV aC.to), aW, (nV aC.n_)]))]) (cs := [(nV aC.op), (nV aC.to), aW, (nV aC.n_)]) et_61 hf hm rfl rfl (by kernel_rfl) rfl rfl) ?_))))
       rintro _ w ⟨bC, rfl, hm⟩
       replace hm := hm.els_nil (α := Ins_)
       replace hm : Mem w0 ac _ [els [] ([] : List Ins_), blk bC [(nV aC.op), (nV aC.to), aW, (nV aC.n_)] 65, blk bA [(nV aC.op), (nV aC.to), aW, (nV aC.n_)] 65, ow [(nV aC.op), (nV aC.to), aW, (nV aC.n_)] (aC : Ins_), blk aO [(nV aD.1), (nV aD.2.1), aM] 49, blk aP [(nV 0), (nV 0), (.slice none 0 0)] 49, blk aQ [(nV aA.1), (nV aA.2.1), aV, (.slice aF aA.2.2.2.1.length aG), (.slice aH aA.2.2.2.2.1.length aI)] 109, ow [(.slice aF aA.2.2.2.1.length aG)] aA.2.2.2.1, ow [(.slice aH aA.2.2.2.2.1.length aI)] aA.2.2.2.2.1, blk aS [(nV aA.2.2.2.2.2.1), (nV aA.2.2.2.2.2.2.1), (sV aJ aK aA.2.2.2.2.2.2.2.length aE)] 49, holeE aJ aK aA.2.2.2.2.2.2.2.length aE (aX : List Block_) (aL).toNat [aR, (sV aZ aa aB.ins.length aT), (nV aB.jump), (nV aB.on), aN], ow [aR] aY, drnS (sV aZ aa aB.ins.length aT) (aB.ins : List Ins_) (ab), ow [aN] aB.next_, ow [af] ai] := mk_Ins_ aC.op aC.to aC.n_ hm 3 rfl
       replace hm := (hm.els_cons 0 3 (by decide) rfl rfl).pk (L' := [els [(nV aC.op), (nV aC.to), aW, (nV aC.n_)] ([aC] : List Ins_), blk bC [(nV aC.op), (nV aC.to), aW, (nV aC.n_)] 65, blk bA [(nV aC.op), (nV aC.to), aW, (nV aC.n_)] 65, blk aO [(nV aD.1), (nV aD.2.1), aM] 49, blk aP [(nV 0), (nV 0), (.slice none 0 0)] 49, blk aQ [(nV aA.1), (nV aA.2.1), aV, (.slice aF aA.2.2.2.1.length aG), (.slice aH aA.2.2.2.2.1.length aI)] 109, ow [(.slice aF aA.2.2.2.1.length aG)] aA.2.2.2.1, ow [(.slice aH aA.2.2.2.2.1.length aI)] aA.2.2.2.2.1, blk aS [(nV aA.2.2.2.2.2.1), (nV aA.2.2.2.2.2.2.1), (sV aJ aK aA.2.2.2.2.2.2.2.length aE)] 49, holeE aJ aK aA.2.2.2.2.2.2.2.length aE (aX : List Block_) (aL).toNat [aR, (sV aZ aa aB.ins.length aT), (nV aB.jump), (nV aB.on), aN], ow [aR] aY, drnS (sV aZ aa aB.ins.length aT) (aB.ins : List Ins_) (ab), ow [aN] aB.next_, ow [af] ai]) [0, 1, 2, 4, 5, 6, 7, 8, 9, 10, 11, 12, 13, 14] rfl rfl
       replace hm := (hm.lit_els 1 0 (by decide) rfl rfl rfl rfl).pk (L' := [ow [(sV bC 0 1 1)] ([aC] : List Ins_), blk bA [(nV aC.op), (nV aC.to), aW, (nV aC.n_)] 65, blk aO [(nV aD.1), (nV aD.2.1), aM] 49, blk aP [(nV 0), (nV 0), (.slice none 0 0)] 49, blk aQ [(nV aA.1), (nV aA.2.1), aV, (.slice aF aA.2.2.2.1.length aG), (.slice aH aA.2.2.2.2.1.length aI)] 109, ow [(.slice aF aA.2.2.2.1.length aG)] aA.2.2.2.1, ow [(.slice aH aA.2.2.2.2.1.length aI)] aA.2.2.2.2.1, blk aS [(nV aA.2.2.2.2.2.1), (nV aA.2.2.2.2.2.2.1), (sV aJ aK aA.2.2.2.2.2.2.2.length aE)] 49, holeE aJ aK aA.2.2.2.2.2.2.2.length aE (aX : List Block_) (aL).toNat [aR, (sV aZ aa aB.ins.length aT), (nV aB.jump), (nV aB.on), aN], ow [aR] aY, drnS (sV aZ aa aB.ins.length aT) (aB.ins : List Ins_) (ab), ow [aN] aB.next_, ow [af] ai]) [1, 2, 3, 4, 5, 6, 7, 8, 9, 10, 11, 12, 13] rfl rfl
       refine gb fun cd bt => ?_
       obtain ⟨bu, bv⟩ := appM_some.1 bt
       replace hm := (hm.both 12 0 (by decide) rfl rfl).pk (L' := [blk bA [(nV aC.op), (nV aC.to), aW, (nV aC.n_)] 65, blk aO [(nV aD.1), (nV aD.2.1), aM] 49, blk aP [(nV 0), (nV 0), (.slice none 0 0)] 49, blk aQ [(nV aA.1), (nV aA.2.1), aV, (.slice aF aA.2.2.2.1.length aG), (.slice aH aA.2.2.2.2.1.length aI)] 109, ow [(.slice aF aA.2.2.2.1.length aG)] aA.2.2.2.1, ow [(.slice aH aA.2.2.2.2.1.length aI)] aA.2.2.2.2.1, blk aS [(nV aA.2.2.2.2.2.1), (nV aA.2.2.2.2.2.2.1), (sV aJ aK aA.2.2.2.2.2.2.2.length aE)] 49, holeE aJ aK aA.2.2.2.2.2.2.2.length aE (aX : List Block_) (aL).toNat [aR, (sV aZ aa aB.ins.length aT), (nV aB.jump), (nV aB.on), aN], ow [aR] aY, drnS (sV aZ aa aB.ins.length aT) (aB.ins : List Ins_) (ab), ow [aN] aB.next_, both (ow [af] ai) (ow [(sV bC 0 1 1)] ([aC] : List Ins_))]) [1, 2, 3, 4, 5, 6, 7, 8, 9, 10, 11, 12] rfl rfl
       refine gf rfl (fun a hf => e_appendD (xs := ai) (ys := ([aC] : List Ins_)) 11 et_61 hf hm rfl rfl rfl rfl bu) ?_
       rintro bx w hm
       rw [bv] at hm
       exact gA rfl (gE (gZ fun a hf => ⟨bx, hf.sb rfl, hm.pk [1, 2, 3, 4, 5, 6, 7, 8, 9, 10, 11] rfl rfl⟩))
      exact gcf rfl (gSk (gZ fun a hf => ⟨af, hf.sb rfl, hm.pk [2, 3, 4, 5, 6, 7, 8, 9, 10, 11, 12] rfl rfl⟩))
     repeat clear hm
     rintro bK a w ⟨bB, hf, hm⟩
     exact gv hf (gZ fun a hf => ⟨bB, hf.sb rfl, hm.pk [0, 1, 2, 3, 4, 5, 6, 7, 8, 9, 10] rfl rfl⟩)
    repeat clear hm
    rintro bJ a w ⟨ax, hf, hm⟩
    refine gv hf (gR (gP (by omega) (by omega) rfl (gM rfl (gE ?_))))
    replace hm := hm.drnS_next 8 rfl
    exact gZe fun a hf => ⟨ax, hf.sb rfl, hm.pk [0, 1, 2, 3, 4, 5, 6, 7, 8, 9, 10] rfl rfl⟩
   repeat clear hm
   rintro bL au a w ⟨ao, hf, hm⟩ ce cf
   refine gv hf (gS (gR (gB rfl (gE (gS (go _ 43 rfl (decide_eq_false (by omega)) (gcf rfl (gXt (gHh (gR (gM rfl (gM rfl (gY (yG rfl (y_nilptr rfl rfl)) (gF fo_63_1 rfl ?_))))))))))))))
   have bZ : ∀ u ∈ ([ao] : List Value), u.oneCell' = true := (one_cons (rep_one (hm.ow_rep 10 rfl)) one_nil)
   refine gf0 rfl (fun a hf => e_storeH (j := 1) (vs := [ao]) 6 hf hm rfl rfl rfl sizeOf61 rfl rfl (cells_one (bZ _ (List.mem_singleton.2 rfl))) bZ rfl) ?_
   rintro _ w hm
   replace hm : Mem w0 ac _ [blk aO [(nV aD.1), (nV aD.2.1), aM] 49, blk aP [(nV 0), (nV 0), (.slice none 0 0)] 49, blk aQ [(nV aA.1), (nV aA.2.1), aV, (.slice aF aA.2.2.2.1.length aG), (.slice aH aA.2.2.2.2.1.length aI)] 109, ow [(.slice aF aA.2.2.2.1.length aG)] aA.2.2.2.1, ow [(.slice aH aA.2.2.2.2.1.length aI)] aA.2.2.2.2.1, blk aS [(nV aA.2.2.2.2.2.1), (nV aA.2.2.2.2.2.2.1), (sV aJ aK aA.2.2.2.2.2.2.2.length aE)] 49, holeE aJ aK aA.2.2.2.2.2.2.2.length aE (aX : List Block_) (aL).toNat [aR, ao, (nV aB.jump), (nV aB.on), aN], ow [aR] aY, drnV (.slice ah aB.ins.length aT) (aB.ins : List Ins_) (bL), ow [aN] aB.next_, ow [ao] au] := hm
   refine gE ?_
   replace hm := (mk_Block_ aB.jump aB.on hm 7 10 9 rfl).pk (L' := [blk aO [(nV aD.1), (nV aD.2.1), aM] 49, blk aP [(nV 0), (nV 0), (.slice none 0 0)] 49, blk aQ [(nV aA.1), (nV aA.2.1), aV, (.slice aF aA.2.2.2.1.length aG), (.slice aH aA.2.2.2.2.1.length aI)] 109, ow [(.slice aF aA.2.2.2.1.length aG)] aA.2.2.2.1, ow [(.slice aH aA.2.2.2.2.1.length aI)] aA.2.2.2.2.1, blk aS [(nV aA.2.2.2.2.2.1), (nV aA.2.2.2.2.2.2.1), (sV aJ aK aA.2.2.2.2.2.2.2.length aE)] 49, holeE aJ aK aA.2.2.2.2.2.2.2.length aE (aX : List Block_) (aL).toNat [aR, ao, (nV aB.jump), (nV aB.on), aN], ow [aR, ao, (nV aB.jump), (nV aB.on), aN] ((⟨aY, au, aB.jump, aB.on, aB.next_⟩ : Block_) : Block_), drnV (.slice ah aB.ins.length aT) (aB.ins : List Ins_) (bL)]) [0, 1, 2, 3, 4, 5, 6, 7, 8] rfl rfl
   replace hm := (hm.shutE (y := ((⟨aY, au, aB.jump, aB.on, aB.next_⟩ : Block_) : Block_)) 6 7 (by decide) rfl rfl).pk (L' := [blk aO [(nV aD.1), (nV aD.2.1), aM] 49, blk aP [(nV 0), (nV 0), (.slice none 0 0)] 49, blk aQ [(nV aA.1), (nV aA.2.1), aV, (.slice aF aA.2.2.2.1.length aG), (.slice aH aA.2.2.2.2.1.length aI)] 109, ow [(.slice aF aA.2.2.2.1.length aG)] aA.2.2.2.1, ow [(.slice aH aA.2.2.2.2.1.length aI)] aA.2.2.2.2.1, blk aS [(nV aA.2.2.2.2.2.1), (nV aA.2.2.2.2.2.2.1), (sV aJ aK aA.2.2.2.2.2.2.2.length aE)] 49, ow [(sV aJ aK aA.2.2.2.2.2.2.2.length aE)] (aX.set (aL).toNat (⟨aY, au, aB.jump, aB.on, aB.next_⟩ : Block_)), drnV (.slice ah aB.ins.length aT) (aB.ins : List Ins_) (bL)]) [0, 1, 2, 3, 4, 5, 6, 8] rfl rfl
   have cg := List.getElem?_set_self (a := ((⟨aY, au, aB.jump, aB.on, aB.next_⟩ : Block_) : Block_)) (idx_lt aq)
   exact gR (gP (by omega) (by omega) rfl (gM rfl (gE (gze hm [0, 1, 2, 3, 4, 5, 6] rfl))))
  repeat clear hm
  intro ci bM w hm cj ck
  refine gS (gR (gB rfl (gE (gS (go _ 19 rfl (decide_eq_false (by omega)) (gcf rfl (gXt (gHh (gS (gS (gW (.q 0 (.q 2 (.e 1 (.e 3 (.p 4 .fin) .nil) .nil))) [0, 1, 2] [4] hm [0, 1, 2, 3, 4, 5, 6] [blk aO [(nV aD.1), (nV aD.2.1), aM] 49, blk aP [(nV 0), (nV 0), (.slice none 0 0)] 49, blk aQ [(nV aA.1), (nV aA.2.1), aV, (.slice aF aA.2.2.2.1.length aG), (.slice aH aA.2.2.2.2.1.length aI)] 109, ow [(.slice aF aA.2.2.2.1.length aG)] aA.2.2.2.1, ow [(.slice aH aA.2.2.2.2.1.length aI)] aA.2.2.2.2.1, blk aS [(nV aA.2.2.2.2.2.1), (nV aA.2.2.2.2.2.2.1), (.slice ae aA.2.2.2.2.2.2.2.length aE)] 49, ow [(.slice ae aA.2.2.2.2.2.2.2.length aE)] bM] rfl mxo (by kernel_rfl) (fun _ _ _ h => h.2) fun w hm hS => tQ rfl hS (fun w hm => yn (hm.blk_at 5 rfl) isAgg49 sizeOf49 rfl) (tQ rfl hS (fun w hm => yn (hm.blk_at 0 rfl) isAgg49 sizeOf49 rfl) (tO (gb fun cl bz => tf rfl rfl (fun a hf => e_call hf rfl call67 rfl (impl_codeCount_ok _ (⟨aA.2.2.2.2.2.1, aA.2.2.2.2.2.2.1, bM⟩ : Code_) (.slice ae aA.2.2.2.2.2.2.2.length aE) (hm.ow_rep 6 rfl) _ bz)) ?_))))))))))))))
  rintro cm w ⟨rfl, hB⟩
  replace hm := hm.below' hB; clear hB
  refine tAk hm [0, 1, 2, 3, 4, 5, 6] rfl fun hS => tO (gb fun cn cA => tf rfl rfl (fun a hf => e_call hf rfl call67 rfl (impl_codeCount_ok _ (⟨aD.1, aD.2.1, aD.2.2⟩ : Code_) aM (hm.now (GT.mono bH al)) _ cA)) ?_)
  rintro co w ⟨rfl, hB⟩
  replace hm := hm.below' hB; clear hB
  refine tAn rfl (tP rfl (fun w => yB rfl) (tE (gsd 66 rfl (fun cB => ?_) fun cB => ?_)))
  ·
   refine gct rfl (gS (gR (gY (yn (hm.blk_at 5 rfl) isAgg49 sizeOf49 rfl) (gSN hm 1 sizeOf49 (one_cons rfl (one_cons rfl (one_cons rfl one_nil))) rfl fun w hm => gE (gRt (gLp b9 b8 ?_))))))
   replace hm := hm.thaw (Heap.le_trans bN bH)
   exact grc 1 results71 hm rfl isAgg49 sizeOf49 ⟨(.slice ae aA.2.2.2.2.2.2.2.length aE), rfl, hm.pk [6] rfl rfl⟩
  refine gcf rfl (gSk (gR (gY (yn (hm.blk_at 5 rfl) isAgg49 sizeOf49 rfl) (gSN hm 0 sizeOf49 (one_cons rfl (one_cons rfl (one_cons rfl one_nil))) rfl fun w hm => gE ?_))))
  obtain ⟨b6, cC, hz_r1_1, hmf⟩ := hm.freeze 6 rfl
  replace hm := hmf.pk (L' := [blk aO [(nV aA.2.2.2.2.2.1), (nV aA.2.2.2.2.2.2.1), (.slice ae aA.2.2.2.2.2.2.2.length aE)] 49, blk aP [(nV 0), (nV 0), (.slice none 0 0)] 49, blk aQ [(nV aA.1), (nV aA.2.1), aV, (.slice aF aA.2.2.2.1.length aG), (.slice aH aA.2.2.2.2.1.length aI)] 109, ow [(.slice aF aA.2.2.2.1.length aG)] aA.2.2.2.1, ow [(.slice aH aA.2.2.2.2.1.length aI)] aA.2.2.2.2.1, blk aS [(nV aA.2.2.2.2.2.1), (nV aA.2.2.2.2.2.2.1), (.slice ae aA.2.2.2.2.2.2.2.length aE)] 49]) [0, 1, 2, 3, 4, 5] rfl rfl
  clear hmf
  replace hz_r1_1 : GT.rep b6 [(.slice ae aA.2.2.2.2.2.2.2.length aE)] bM := fz_ow hz_r1_1
  exact gZe fun a hf => ⟨b6, (.slice ae aA.2.2.2.2.2.2.2.length aE), (Heap.le_trans (Heap.le_trans bN bH) cC), hz_r1_1, hf.sb rfl, hm.pk [0, 1] rfl rfl⟩
theorem impl_DropIdle_ok (w0 : World) (u : Unit_) (v1 : Value) (h1 : GT.rep (hp w0) [v1] u.codes) :
    ConM Tryz.prog 27 [(.agg #[v1])] w0 (impl_DropIdle u) fun r v w' => ∃ (x1 : Value), v = (.tuple #[(.agg #[x1]), (.bool (r.2))]) ∧ Mem w0 (hp w0) w' [ow [x1] r.1.codes] := by
  unfold impl_DropIdle
  refine gcon func27 rfl fun r => ?_
  have hm := Mem.start w0
  refine gS (gR (gBx hm rfl fun aD w hm => gAl hm zeroValue28 rfl fun aE w hm => gA rfl (gE (gS (gR (gY (yn (hm.blk_at 1 rfl) isAgg28 sizeOf28 rfl) (gCg rfl call69 (impl_perCode_ok _ u v1 (hm.now h1) (fun y0 => impl_dropIdle y0) (.func (.func 71) #[] #[]) (fun w y0 aA aB r hB hq => ⟨71, [], rfl, call71, impl_dropIdle_ok w y0 aA aB  r hq⟩)) ?_)))))))
  rintro aF aG aH w ⟨aC, rfl, hB⟩
  replace hm := hm.give hB; clear hB
  exact gX rfl (gX rfl (gSN hm 1 sizeOf28 (one_cons (rep_one (hm.ow_rep 0 rfl)) one_nil) rfl fun w hm => gA rfl (gE (gRt (grct 1 results27 hm rfl isAgg28 sizeOf28 ⟨aC, rfl, hm.pk [0] rfl rfl⟩)))))
theorem laws_eqIntS_ok (w0 : World) (a_ : List Int) (v1 : Value) (h1 : GT.rep (hp w0) [v1] a_) (b_ : List Int) (v2 : Value) (h2 : GT.rep (hp w0) [v2] b_) :
    ConM Tryz.prog 316 [v1, v2] w0 (laws_eqIntS a_ b_) fun r v w' => v = (.bool (r)) ∧ Below w0.heap.size w0 w' := by
  unfold laws_eqIntS
  refine gcon func316 rfl fun r => ?_
  have hm := Mem.start w0
  refine gS (gR (gA rfl (gE (gS (gS (gR (gM rfl ?_)))))))
  obtain ⟨aE, aF, rfl, aQ⟩ := ro_slice h1
  refine gY (yV st_43 rfl) (gM rfl ?_)
  obtain ⟨aG, aH, rfl, aR⟩ := ro_slice h2
  refine gY (yV st_43 rfl) (gB rfl (gE (gsd 10 rfl (fun aI => ?_) fun aI => ?_)))
  ·
   exact gct rfl (gS (gR (gA rfl (gE (gRt (gr1 results316 rfl ⟨rfl, hm.below⟩))))))
  refine gcf rfl (gSk (gS (gS (gR (gA rfl (gE (gBk (gNf hm (fun aA aD => [(0, (.slice aE a_.length aF)), (1, (.slice aG b_.length aH)), (5, (nV aA))]) (fun aA aD => []) [] rfl ?_ ?_))))))))
  ·
   repeat clear hm
   intro aS aJ aA aD w hm aT aV aW aK
   refine gS (gS (gR (gM rfl (gM rfl (gY (yV st_43 rfl) (gB rfl (gE (go _ 14 rfl (decide_eq_true (by omega)) (gct rfl (gSk (gS (gBk (gS (gW (.p 0 (.p 1 (.p 2 (.p 4 (.p 5 (.p 6 (.q 3 (.e 7 (.p 8 .fin) .nil)))))))) [7] [0, 1, 2, 4, 5, 6, 8] hm [] [] rfl mxo (by kernel_rfl) (fun _ _ _ h => h.2) fun w hm hS => tP rfl (fun w => yM rfl) (tP rfl (fun w => yM rfl) (gg fun aL aM aB => ?_))))))))))))))))
   obtain ⟨aX, aY, aZ, he⟩ := idx_form h1 aB
   obtain ⟨rfl, _, rfl⟩ := sl3 he
   refine tP rfl (fun w => yI st_43 aM (idx_lt aB) rfl) (tP rfl (fun w => yM rfl) (tP rfl (fun w => yM rfl) (gg fun aN aO aC => ?_)))
   obtain ⟨aa, ab, ac, he⟩ := idx_form h2 aC
   obtain ⟨rfl, _, rfl⟩ := sl3 he
   refine tP rfl (fun w => yI st_43 aO (idx_lt aC) rfl) (tQ rfl hS (fun w hm => yl isAgg3 ((flat_cells (cs := [(nV aL)]) (hm.now h1) aB rfl).cell (j := 0) rfl) rfl) (tO (tY rfl (yl isAgg3 ((flat_cells (cs := [(nV aN)]) (hm.now h2) aC rfl).cell (j := 0) rfl) rfl) (tAs hS (tP rfl (fun w => yB rfl) (tE (gsd 25 rfl (fun aP => ?_) fun aP => ?_)))))))
   ·
    exact gct rfl (gS (gR (gA rfl (gE (gRt (gLr aK aJ (gr1 results316 rfl ⟨rfl, hm.below⟩)))))))
   exact gcf rfl (gSk (gR (gM rfl (gP (by omega) (by omega) rfl (gA rfl (gE (gze hm [] rfl)))))))
  repeat clear hm
  intro ae af w hm ah ai
  exact gS (gS (gR (gM rfl (gM rfl (gY (yV st_43 rfl) (gB rfl (gE (go _ 14 rfl (decide_eq_false (by omega)) (gcf rfl (gXt (gHh (gS (gR (gA rfl (gE (gRt (gr1 results316 rfl ⟨rfl, hm.below⟩)))))))))))))))))
theorem laws_eqPhi_ok (w0 : World) (a_ : Phi_) (v1 : Value) (h1 : GT.rep (hp w0) [v1] a_.args) (b_ : Phi_) (v2 : Value) (h2 : GT.rep (hp w0) [v2] b_.args) :
    ConM Tryz.prog 344 [(.agg #[(nV a_.to), v1]), (.agg #[(nV b_.to), v2])] w0 (laws_eqPhi a_ b_) fun r v w' => v = (.bool (r)) ∧ Below w0.heap.size w0 w' := by
  unfold laws_eqPhi
  refine gcon func344 rfl fun r => ?_
  have hm := Mem.start w0
  refine gS (gR (gBx hm rfl fun aC w hm => gBx hm rfl fun aD w hm => gA rfl (gE (gS (gS (gR (gF fo_127_0 rfl (gL hm 1 isAgg3 rfl (gF fo_127_0 rfl (gL hm 0 isAgg3 rfl (gB rfl (gE (gsd 9 rfl (fun aA => ?_) fun aA => ?_)))))))))))))
  ·
   exact gct rfl (gS (gR (gA rfl (gE (gRt (gr1 results344 rfl ⟨rfl, hm.below⟩))))))
  refine gcf rfl (gSk (gS (gS (gR (gF fo_127_1 rfl (gL hm 1 isAgg43 rfl (gF fo_127_1 rfl (gL hm 0 isAgg43 rfl (gC hm rfl call316 (laws_eqIntS_ok _ a_.args v1 (hm.now h1) b_.args v2 (hm.now h2)) fun aE aF w hm => gN rfl (gE (gsn 15 rfl (fun aB => ?_) fun aB => ?_)))))))))))
  ·
   exact gct rfl (gS (gR (gA rfl (gE (gRt (gr1 results344 rfl ⟨rfl, hm.below⟩))))))
  exact gcf rfl (gSk (gS (gR (gA rfl (gE (gRt (gr1 results344 rfl ⟨rfl, hm.below⟩)))))))
theorem laws_eqPhiS_ok (w0 : World) (a_ : List Phi_) (v1 : Value) (h1 : GT.rep (hp w0) [v1] a_) (b_ : List Phi_) (v2 : Value) (h2 : GT.rep (hp w0) [v2] b_) :
    ConM Tryz.prog 314 [v1, v2] w0 (laws_eqPhiS a_ b_) fun r v w' => v = (.bool (r)) ∧ Below w0.heap.size w0 w' := by
  unfold laws_eqPhiS
  refine gcon func314 rfl fun r => ?_
  have hm := Mem.start w0
  refine gS (gR (gA rfl (gE (gS (gS (gR (gM rfl ?_)))))))
  obtain ⟨aE, aF, rfl, aY⟩ := ro_slice h1
  refine gY (yV st_60 rfl) (gM rfl ?_)
  obtain ⟨aG, aH, rfl, aZ⟩ := ro_slice h2
  refine gY (yV st_60 rfl) (gB rfl (gE (gsd 10 rfl (fun aI => ?_) fun aI => ?_)))
  ·
   exact gct rfl (gS (gR (gA rfl (gE (gRt (gr1 results314 rfl ⟨rfl, hm.below⟩))))))
  refine gcf rfl (gSk (gS (gS (gR (gA rfl (gE (gBk (gNf hm (fun aA aD => [(0, (.slice aE a_.length aF)), (1, (.slice aG b_.length aH)), (5, (nV aA))]) (fun aA aD => []) [] rfl ?_ ?_))))))))
  ·
   repeat clear hm
   intro aa aJ aA aD w hm ab ac ae aK
   refine gS (gS (gR (gM rfl (gM rfl (gY (yV st_60 rfl) (gB rfl (gE (go _ 14 rfl (decide_eq_true (by omega)) (gct rfl (gSk (gS (gBk (gS (gW (.p 0 (.p 1 (.p 2 (.p 4 (.p 5 (.p 6 (.q 3 (.e 7 (.e 8 (.p 9 .fin) .nil) .nil)))))))) [7] [0, 1, 2, 4, 5, 6, 9] hm [] [] rfl mxo (by kernel_rfl) (fun _ _ _ h => h.2) fun w hm hS => tP rfl (fun w => yM rfl) (tP rfl (fun w => yM rfl) (gg fun aL aM aB => ?_))))))))))))))))
   obtain ⟨af, ah, ai, he⟩ := idx_form' h1 aB
   obtain ⟨rfl, _, rfl⟩ := sl3 he
   obtain ⟨aN, aO, aP⟩ := rk_Phi_ h1 aB
   refine tP rfl (fun w => yI st_60 aM (idx_lt aB) rfl) (tP rfl (fun w => yM rfl) (tP rfl (fun w => yM rfl) (gg fun aQ aR aC => ?_)))
   obtain ⟨aj, ak, al, he⟩ := idx_form' h2 aC
   obtain ⟨rfl, _, rfl⟩ := sl3 he
   obtain ⟨aS, aT, aV⟩ := rk_Phi_ h2 aC
   refine tP rfl (fun w => yI st_60 aR (idx_lt aC) rfl) (tQ rfl hS (fun w hm => yn (aO.mono hm.lez) isAgg127 sizeOf127 rfl) (tO (tY rfl (yn (aT.mono hm.lez) isAgg127 sizeOf127 rfl) (tAs hS (tO (gb fun am aW => tf rfl rfl (fun a hf => e_call hf rfl call344 rfl (laws_eqPhi_ok _ aL aN (hm.now aP) aQ aS (hm.now aV) _ aW)) ?_))))))
   rintro an w ⟨rfl, hB⟩
   replace hm := hm.below' hB; clear hB
   refine tAn rfl (tP rfl (fun w => yN rfl) (tE (gsn 26 rfl (fun aX => ?_) fun aX => ?_)))
   ·
    exact gct rfl (gS (gR (gA rfl (gE (gRt (gLr aK aJ (gr1 results314 rfl ⟨rfl, hm.below⟩)))))))
   exact gcf rfl (gSk (gR (gM rfl (gP (by omega) (by omega) rfl (gA rfl (gE (gze hm [] rfl)))))))
  repeat clear hm
  intro ao ap w hm aq ar
  exact gS (gS (gR (gM rfl (gM rfl (gY (yV st_60 rfl) (gB rfl (gE (go _ 14 rfl (decide_eq_false (by omega)) (gcf rfl (gXt (gHh (gS (gR (gA rfl (gE (gRt (gr1 results314 rfl ⟨rfl, hm.below⟩)))))))))))))))))
theorem laws_eqIns_ok (w0 : World) (a_ : Ins_) (v1 : Value) (h1 : GT.rep (hp w0) [v1] a_.args) (b_ : Ins_) (v2 : Value) (h2 : GT.rep (hp w0) [v2] b_.args) :
    ConM Tryz.prog 345 [(.agg #[(nV a_.op), (nV a_.to), v1, (nV a_.n_)]), (.agg #[(nV b_.op), (nV b_.to), v2, (nV b_.n_)])] w0 (laws_eqIns a_ b_) fun r v w' => v = (.bool (r)) ∧ Below w0.heap.size w0 w' := by
  unfold laws_eqIns
  refine gcon func345 rfl fun r => ?_
  have hm := Mem.start w0
  refine gS (gR (gBx hm rfl fun aE w hm => gBx hm rfl fun aF w hm => gA rfl (gE (gS (gS (gR (gF fo_65_0 rfl (gL hm 1 isAgg3 rfl (gF fo_65_0 rfl (gL hm 0 isAgg3 rfl (gB rfl (gE (gsd 9 rfl (fun aA => ?_) fun aA => ?_)))))))))))))
  ·
   exact gct rfl (gS (gR (gA rfl (gE (gRt (gr1 results345 rfl ⟨rfl, hm.below⟩))))))
  refine gcf rfl (gSk (gS (gS (gR (gF fo_65_1 rfl (gL hm 1 isAgg3 rfl (gF fo_65_1 rfl (gL hm 0 isAgg3 rfl (gB rfl (gE (gsd 14 rfl (fun aB => ?_) fun aB => ?_)))))))))))
  ·
   exact gct rfl (gS (gR (gA rfl (gE (gRt (gr1 results345 rfl ⟨rfl, hm.below⟩))))))
  refine gcf rfl (gSk (gS (gS (gR (gF fo_65_2 rfl (gL hm 1 isAgg43 rfl (gF fo_65_2 rfl (gL hm 0 isAgg43 rfl (gC hm rfl call316 (laws_eqIntS_ok _ a_.args v1 (hm.now h1) b_.args v2 (hm.now h2)) fun aG aH w hm => gN rfl (gE (gsn 20 rfl (fun aC => ?_) fun aC => ?_)))))))))))
  ·
   exact gct rfl (gS (gR (gA rfl (gE (gRt (gr1 results345 rfl ⟨rfl, hm.below⟩))))))
  refine gcf rfl (gSk (gS (gS (gR (gF fo_65_3 rfl (gL hm 1 isAgg3 rfl (gF fo_65_3 rfl (gL hm 0 isAgg3 rfl (gB rfl (gE (gsd 25 rfl (fun aD => ?_) fun aD => ?_)))))))))))
  ·
   exact gct rfl (gS (gR (gA rfl (gE (gRt (gr1 results345 rfl ⟨rfl, hm.below⟩))))))
  exact gcf rfl (gSk (gS (gR (gA rfl (gE (gRt (gr1 results345 rfl ⟨rfl, hm.below⟩)))))))
theorem laws_eqInsS_ok (w0 : World) (a_ : List Ins_) (v1 : Value) (h1 : GT.rep (hp w0) [v1] a_) (b_ : List Ins_) (v2 : Value) (h2 : GT.rep (hp w0) [v2] b_) :
    ConM Tryz.prog 315 [v1, v2] w0 (laws_eqInsS a_ b_) fun r v w' => v = (.bool (r)) ∧ Below w0.heap.size w0 w' := by
  unfold laws_eqInsS
  refine gcon func315 rfl fun r => ?_
  have hm := Mem.start w0
  refine gS (gR (gA rfl (gE (gS (gS (gR (gM rfl ?_)))))))
  obtain ⟨aE, aF, rfl, aY⟩ := ro_slice h1
  refine gY (yV st_61 rfl) (gM rfl ?_)
  obtain ⟨aG, aH, rfl, aZ⟩ := ro_slice h2
  refine gY (yV st_61 rfl) (gB rfl (gE (gsd 10 rfl (fun aI => ?_) fun aI => ?_)))
  ·
   exact gct rfl (gS (gR (gA rfl (gE (gRt (gr1 results315 rfl ⟨rfl, hm.below⟩))))))
  refine gcf rfl (gSk (gS (gS (gR (gA rfl (gE (gBk (gNf hm (fun aA aD => [(0, (.slice aE a_.length aF)), (1, (.slice aG b_.length aH)), (5, (nV aA))]) (fun aA aD => []) [] rfl ?_ ?_))))))))
  ·
   repeat clear hm
   intro aa aJ aA aD w hm ab ac ae aK
   refine gS (gS (gR (gM rfl (gM rfl (gY (yV st_61 rfl) (gB rfl (gE (go _ 14 rfl (decide_eq_true (by omega)) (gct rfl (gSk (gS (gBk (gS (gW (.p 0 (.p 1 (.p 2 (.p 4 (.p 5 (.p 6 (.q 3 (.e 7 (.e 8 (.p 9 .fin) .nil) .nil)))))))) [7] [0, 1, 2, 4, 5, 6, 9] hm [] [] rfl mxo (by kernel_rfl) (fun _ _ _ h => h.2) fun w hm hS => tP rfl (fun w => yM rfl) (tP rfl (fun w => yM rfl) (gg fun aL aM aB => ?_))))))))))))))))
   obtain ⟨af, ah, ai, he⟩ := idx_form' h1 aB
   obtain ⟨rfl, _, rfl⟩ := sl3 he
   obtain ⟨aN, aO, aP⟩ := rk_Ins_ h1 aB
   refine tP rfl (fun w => yI st_61 aM (idx_lt aB) rfl) (tP rfl (fun w => yM rfl) (tP rfl (fun w => yM rfl) (gg fun aQ aR aC => ?_)))
   obtain ⟨aj, ak, al, he⟩ := idx_form' h2 aC
   obtain ⟨rfl, _, rfl⟩ := sl3 he
   obtain ⟨aS, aT, aV⟩ := rk_Ins_ h2 aC
   refine tP rfl (fun w => yI st_61 aR (idx_lt aC) rfl) (tQ rfl hS (fun w hm => yn (aO.mono hm.lez) isAgg65 sizeOf65 rfl) (tO (tY rfl (yn (aT.mono hm.lez) isAgg65 sizeOf65 rfl) (tAs hS (tO (gb fun am aW => tf rfl rfl (fun a hf => e_call hf rfl call345 rfl (laws_eqIns_ok _ aL aN (hm.now aP) aQ aS (hm.now aV) _ aW)) ?_))))))
   rintro an w ⟨rfl, hB⟩
   replace hm := hm.below' hB; clear hB
   refine tAn rfl (tP rfl (fun w => yN rfl) (tE (gsn 26 rfl (fun aX => ?_) fun aX => ?_)))
   ·
    exact gct rfl (gS (gR (gA rfl (gE (gRt (gLr aK aJ (gr1 results315 rfl ⟨rfl, hm.below⟩)))))))
   exact gcf rfl (gSk (gR (gM rfl (gP (by omega) (by omega) rfl (gA rfl (gE (gze hm [] rfl)))))))
  repeat clear hm
  intro ao ap w hm aq ar
  exact gS (gS (gR (gM rfl (gM rfl (gY (yV st_61 rfl) (gB rfl (gE (go _ 14 rfl (decide_eq_false (by omega)) (gcf rfl (gXt (gHh (gS (gR (gA rfl (gE (gRt (gr1 results315 rfl ⟨rfl, hm.below⟩)))))))))))))))))
theorem laws_eqBlock_ok (w0 : World) (a_ : Block_) (v1 : Value) (h1 : GT.rep (hp w0) [v1] a_.phis) (v2 : Value) (h2 : GT.rep (hp w0) [v2] a_.ins) (v3 : Value) (h3 : GT.rep (hp w0) [v3] a_.next_) (b_ : Block_) (v4 : Value) (h4 : GT.rep (hp w0) [v4] b_.phis) (v5 : Value) (h5 : GT.rep (hp w0) [v5] b_.ins) (v6 : Value) (h6 : GT.rep (hp w0) [v6] b_.next_) :
    ConM Tryz.prog 246 [(.agg #[v1, v2, (nV a_.jump), (nV a_.on), v3]), (.agg #[v4, v5, (nV b_.jump), (nV b_.on), v6])] w0 (laws_eqBlock a_ b_) fun r v w' => v = (.bool (r)) ∧ Below w0.heap.size w0 w' := by
  unfold laws_eqBlock
  refine gcon func246 rfl fun r => ?_
  have hm := Mem.start w0
  refine gS (gR (gBx hm rfl fun aF w hm => gBx hm rfl fun aG w hm => gA rfl (gE (gS (gS (gR (gF fo_63_0 rfl (gL hm 1 isAgg60 rfl (gF fo_63_0 rfl (gL hm 0 isAgg60 rfl (gC hm rfl call314 (laws_eqPhiS_ok _ a_.phis v1 (hm.now h1) b_.phis v4 (hm.now h4)) fun aH aI w hm => gN rfl (gE (gsn 10 rfl (fun aA => ?_) fun aA => ?_)))))))))))))
  ·
   exact gct rfl (gS (gR (gA rfl (gE (gRt (gr1 results246 rfl ⟨rfl, hm.below⟩))))))
  refine gcf rfl (gSk (gS (gS (gR (gF fo_63_1 rfl (gL hm 1 isAgg61 rfl (gF fo_63_1 rfl (gL hm 0 isAgg61 rfl (gC hm rfl call315 (laws_eqInsS_ok _ a_.ins v2 (hm.now h2) b_.ins v5 (hm.now h5)) fun aJ aK w hm => gN rfl (gE (gsn 16 rfl (fun aB => ?_) fun aB => ?_)))))))))))
  ·
   exact gct rfl (gS (gR (gA rfl (gE (gRt (gr1 results246 rfl ⟨rfl, hm.below⟩))))))
  refine gcf rfl (gSk (gS (gS (gR (gF fo_63_2 rfl (gL hm 1 isAgg3 rfl (gF fo_63_2 rfl (gL hm 0 isAgg3 rfl (gB rfl (gE (gsd 21 rfl (fun aC => ?_) fun aC => ?_)))))))))))
  ·
   exact gct rfl (gS (gR (gA rfl (gE (gRt (gr1 results246 rfl ⟨rfl, hm.below⟩))))))
  refine gcf rfl (gSk (gS (gS (gR (gF fo_63_3 rfl (gL hm 1 isAgg3 rfl (gF fo_63_3 rfl (gL hm 0 isAgg3 rfl (gB rfl (gE (gsd 26 rfl (fun aD => ?_) fun aD => ?_)))))))))))
  ·
   exact gct rfl (gS (gR (gA rfl (gE (gRt (gr1 results246 rfl ⟨rfl, hm.below⟩))))))
  refine gcf rfl (gSk (gS (gS (gR (gF fo_63_4 rfl (gL hm 1 isAgg43 rfl (gF fo_63_4 rfl (gL hm 0 isAgg43 rfl (gC hm rfl call316 (laws_eqIntS_ok _ a_.next_ v3 (hm.now h3) b_.next_ v6 (hm.now h6)) fun aL aM w hm => gN rfl (gE (gsn 32 rfl (fun aE => ?_) fun aE => ?_)))))))))))
  ·
   exact gct rfl (gS (gR (gA rfl (gE (gRt (gr1 results246 rfl ⟨rfl, hm.below⟩))))))
  exact gcf rfl (gSk (gS (gR (gA rfl (gE (gRt (gr1 results246 rfl ⟨rfl, hm.below⟩)))))))
theorem laws_eqBlockS_ok (w0 : World) (a_ : List Block_) (v1 : Value) (h1 : GT.rep (hp w0) [v1] a_) (b_ : List Block_) (v2 : Value) (h2 : GT.rep (hp w0) [v2] b_) :
    ConM Tryz.prog 168 [v1, v2] w0 (laws_eqBlockS a_ b_) fun r v w' => v = (.bool (r)) ∧ Below w0.heap.size w0 w' := by
  unfold laws_eqBlockS
  refine gcon func168 rfl fun r => ?_
  have hm := Mem.start w0
  refine gS (gR (gA rfl (gE (gS (gS (gR (gM rfl ?_)))))))
  obtain ⟨aE, aF, rfl, ai⟩ := ro_slice h1
  refine gY (yV st_47 rfl) (gM rfl ?_)
  obtain ⟨aG, aH, rfl, aj⟩ := ro_slice h2
  refine gY (yV st_47 rfl) (gB rfl (gE (gsd 10 rfl (fun aI => ?_) fun aI => ?_)))
  ·
   exact gct rfl (gS (gR (gA rfl (gE (gRt (gr1 results168 rfl ⟨rfl, hm.below⟩))))))
  refine gcf rfl (gSk (gS (gS (gR (gA rfl (gE (gBk (gNf hm (fun aA aD => [(0, (.slice aE a_.length aF)), (1, (.slice aG b_.length aH)), (5, (nV aA))]) (fun aA aD => []) [] rfl ?_ ?_))))))))
  ·
   repeat clear hm
   intro ak aJ aA aD w hm al am an aK
   refine gS (gS (gR (gM rfl (gM rfl (gY (yV st_47 rfl) (gB rfl (gE (go _ 14 rfl (decide_eq_true (by omega)) (gct rfl (gSk (gS (gBk (gS (gW (.p 0 (.p 1 (.p 2 (.p 4 (.p 5 (.p 6 (.q 3 (.e 7 (.e 8 (.p 9 .fin) .nil) .nil)))))))) [7] [0, 1, 2, 4, 5, 6, 9] hm [] [] rfl mxo (by kernel_rfl) (fun _ _ _ h => h.2) fun w hm hS => tP rfl (fun w => yM rfl) (tP rfl (fun w => yM rfl) (gg fun aL aM aB => ?_))))))))))))))))
   obtain ⟨ao, ap, aq, he⟩ := idx_form' h1 aB
   obtain ⟨rfl, _, rfl⟩ := sl3 he
   obtain ⟨aN, aO, aP, aQ, aR, aS, aT⟩ := rk_Block_ h1 aB
   refine tP rfl (fun w => yI st_47 aM (idx_lt aB) rfl) (tP rfl (fun w => yM rfl) (tP rfl (fun w => yM rfl) (gg fun aV aW aC => ?_)))
   obtain ⟨ar, au, av, he⟩ := idx_form' h2 aC
   obtain ⟨rfl, _, rfl⟩ := sl3 he
   obtain ⟨aX, aY, aZ, aa, ab, ac, ae⟩ := rk_Block_ h2 aC
   refine tP rfl (fun w => yI st_47 aW (idx_lt aC) rfl) (tQ rfl hS (fun w hm => yn (aQ.mono hm.lez) isAgg63 sizeOf63 rfl) (tO (tY rfl (yn (aa.mono hm.lez) isAgg63 sizeOf63 rfl) (tAs hS (tO (gb fun aw af => tf rfl rfl (fun a hf => e_call hf rfl call246 rfl (laws_eqBlock_ok _ aL aN (hm.now aR) aO (hm.now aS) aP (hm.now aT) aV aX (hm.now ab) aY (hm.now ac) aZ (hm.now ae) _ af)) ?_))))))
   rintro ax w ⟨rfl, hB⟩
   replace hm := hm.below' hB; clear hB
   refine tAn rfl (tP rfl (fun w => yN rfl) (tE (gsn 26 rfl (fun ah => ?_) fun ah => ?_)))
   ·
    exact gct rfl (gS (gR (gA rfl (gE (gRt (gLr aK aJ (gr1 results168 rfl ⟨rfl, hm.below⟩)))))))
   exact gcf rfl (gSk (gR (gM rfl (gP (by omega) (by omega) rfl (gA rfl (gE (gze hm [] rfl)))))))
  repeat clear hm
  intro ay az w hm bA bB
  exact gS (gS (gR (gM rfl (gM rfl (gY (yV st_47 rfl) (gB rfl (gE (go _ 14 rfl (decide_eq_false (by omega)) (gcf rfl (gXt (gHh (gS (gR (gA rfl (gE (gRt (gr1 results168 rfl ⟨rfl, hm.below⟩)))))))))))))))))
theorem laws_eqCode_ok (w0 : World) (a_ : Code_) (v1 : Value) (h1 : GT.rep (hp w0) [v1] a_.blocks) (b_ : Code_) (v2 : Value) (h2 : GT.rep (hp w0) [v2] b_.blocks) :
    ConM Tryz.prog 103 [(.agg #[(nV a_.params), (nV a_.regs), v1]), (.agg #[(nV b_.params), (nV b_.regs), v2])] w0 (laws_eqCode a_ b_) fun r v w' => v = (.bool (r)) ∧ Below w0.heap.size w0 w' := by
  unfold laws_eqCode
  refine gcon func103 rfl fun r => ?_
  have hm := Mem.start w0
  refine gS (gR (gBx hm rfl fun aD w hm => gBx hm rfl fun aE w hm => gA rfl (gE (gS (gS (gR (gF fo_49_0 rfl (gL hm 1 isAgg3 rfl (gF fo_49_0 rfl (gL hm 0 isAgg3 rfl (gB rfl (gE (gsd 9 rfl (fun aA => ?_) fun aA => ?_)))))))))))))
  ·
   exact gct rfl (gS (gR (gA rfl (gE (gRt (gr1 results103 rfl ⟨rfl, hm.below⟩))))))
  refine gcf rfl (gSk (gS (gS (gR (gF fo_49_1 rfl (gL hm 1 isAgg3 rfl (gF fo_49_1 rfl (gL hm 0 isAgg3 rfl (gB rfl (gE (gsd 14 rfl (fun aB => ?_) fun aB => ?_)))))))))))
  ·
   exact gct rfl (gS (gR (gA rfl (gE (gRt (gr1 results103 rfl ⟨rfl, hm.below⟩))))))
  refine gcf rfl (gSk (gS (gS (gR (gF fo_49_2 rfl (gL hm 1 isAgg47 rfl (gF fo_49_2 rfl (gL hm 0 isAgg47 rfl (gC hm rfl call168 (laws_eqBlockS_ok _ a_.blocks v1 (hm.now h1) b_.blocks v2 (hm.now h2)) fun aF aG w hm => gN rfl (gE (gsn 20 rfl (fun aC => ?_) fun aC => ?_)))))))))))
  ·
   exact gct rfl (gS (gR (gA rfl (gE (gRt (gr1 results103 rfl ⟨rfl, hm.below⟩))))))
  exact gcf rfl (gSk (gS (gR (gA rfl (gE (gRt (gr1 results103 rfl ⟨rfl, hm.below⟩)))))))
theorem laws_eqCodeS_ok (w0 : World) (a_ : List Code_) (v1 : Value) (h1 : GT.rep (hp w0) [v1] a_) (b_ : List Code_) (v2 : Value) (h2 : GT.rep (hp w0) [v2] b_) :
    ConM Tryz.prog 52 [v1, v2] w0 (laws_eqCodeS a_ b_) fun r v w' => v = (.bool (r)) ∧ Below w0.heap.size w0 w' := by
  unfold laws_eqCodeS
  refine gcon func52 rfl fun r => ?_
  have hm := Mem.start w0
  refine gS (gR (gA rfl (gE (gS (gS (gR (gM rfl ?_)))))))
  obtain ⟨aE, aF, rfl, aY⟩ := ro_slice h1
  refine gY (yV st_26 rfl) (gM rfl ?_)
  obtain ⟨aG, aH, rfl, aZ⟩ := ro_slice h2
  refine gY (yV st_26 rfl) (gB rfl (gE (gsd 10 rfl (fun aI => ?_) fun aI => ?_)))
  ·
   exact gct rfl (gS (gR (gA rfl (gE (gRt (gr1 results52 rfl ⟨rfl, hm.below⟩))))))
  refine gcf rfl (gSk (gS (gS (gR (gA rfl (gE (gBk (gNf hm (fun aA aD => [(0, (.slice aE a_.length aF)), (1, (.slice aG b_.length aH)), (5, (nV aA))]) (fun aA aD => []) [] rfl ?_ ?_))))))))
  ·
   repeat clear hm
   intro aa aJ aA aD w hm ab ac ae aK
   refine gS (gS (gR (gM rfl (gM rfl (gY (yV st_26 rfl) (gB rfl (gE (go _ 14 rfl (decide_eq_true (by omega)) (gct rfl (gSk (gS (gBk (gS (gW (.p 0 (.p 1 (.p 2 (.p 4 (.p 5 (.p 6 (.q 3 (.e 7 (.e 8 (.p 9 .fin) .nil) .nil)))))))) [7] [0, 1, 2, 4, 5, 6, 9] hm [] [] rfl mxo (by kernel_rfl) (fun _ _ _ h => h.2) fun w hm hS => tP rfl (fun w => yM rfl) (tP rfl (fun w => yM rfl) (gg fun aL aM aB => ?_))))))))))))))))
   obtain ⟨af, ah, ai, he⟩ := idx_form' h1 aB
   obtain ⟨rfl, _, rfl⟩ := sl3 he
   obtain ⟨aN, aO, aP⟩ := rk_Code_ h1 aB
   refine tP rfl (fun w => yI st_26 aM (idx_lt aB) rfl) (tP rfl (fun w => yM rfl) (tP rfl (fun w => yM rfl) (gg fun aQ aR aC => ?_)))
   obtain ⟨aj, ak, al, he⟩ := idx_form' h2 aC
   obtain ⟨rfl, _, rfl⟩ := sl3 he
   obtain ⟨aS, aT, aV⟩ := rk_Code_ h2 aC
   refine tP rfl (fun w => yI st_26 aR (idx_lt aC) rfl) (tQ rfl hS (fun w hm => yn (aO.mono hm.lez) isAgg49 sizeOf49 rfl) (tO (tY rfl (yn (aT.mono hm.lez) isAgg49 sizeOf49 rfl) (tAs hS (tO (gb fun am aW => tf rfl rfl (fun a hf => e_call hf rfl call103 rfl (laws_eqCode_ok _ aL aN (hm.now aP) aQ aS (hm.now aV) _ aW)) ?_))))))
   rintro an w ⟨rfl, hB⟩
   replace hm := hm.below' hB; clear hB
   refine tAn rfl (tP rfl (fun w => yN rfl) (tE (gsn 26 rfl (fun aX => ?_) fun aX => ?_)))
   ·
    exact gct rfl (gS (gR (gA rfl (gE (gRt (gLr aK aJ (gr1 results52 rfl ⟨rfl, hm.below⟩)))))))
   exact gcf rfl (gSk (gR (gM rfl (gP (by omega) (by omega) rfl (gA rfl (gE (gze hm [] rfl)))))))
  repeat clear hm
  intro ao ap w hm aq ar
  exact gS (gS (gR (gM rfl (gM rfl (gY (yV st_26 rfl) (gB rfl (gE (go _ 14 rfl (decide_eq_false (by omega)) (gcf rfl (gXt (gHh (gS (gR (gA rfl (gE (gRt (gr1 results52 rfl ⟨rfl, hm.below⟩)))))))))))))))))
theorem laws_eqUnit_ok (w0 : World) (a_ : Unit_) (v1 : Value) (h1 : GT.rep (hp w0) [v1] a_.codes) (b_ : Unit_) (v2 : Value) (h2 : GT.rep (hp w0) [v2] b_.codes) :
    ConM Tryz.prog 17 [(.agg #[v1]), (.agg #[v2])] w0 (laws_eqUnit a_ b_) fun r v w' => v = (.bool (r)) ∧ Below w0.heap.size w0 w' := by
  unfold laws_eqUnit
  refine gcon func17 rfl fun r => ?_
  have hm := Mem.start w0
  refine gS (gR (gBx hm rfl fun aB w hm => gBx hm rfl fun aC w hm => gA rfl (gE (gS (gS (gR (gF fo_28_0 rfl (gL hm 1 isAgg26 rfl (gF fo_28_0 rfl (gL hm 0 isAgg26 rfl (gC hm rfl call52 (laws_eqCodeS_ok _ a_.codes v1 (hm.now h1) b_.codes v2 (hm.now h2)) fun aD aE w hm => gN rfl (gE (gsn 10 rfl (fun aA => ?_) fun aA => ?_)))))))))))))
  ·
   exact gct rfl (gS (gR (gA rfl (gE (gRt (gr1 results17 rfl ⟨rfl, hm.below⟩))))))
  exact gcf rfl (gSk (gS (gR (gA rfl (gE (gRt (gr1 results17 rfl ⟨rfl, hm.below⟩)))))))
theorem laws_markIntS_ok (w0 : World) (hz : Heap) (a_ : List Int) (v1 : Value) (k_ : Int) (hm0 : Mem w0 hz w0 [ow [v1] a_]) :
    ConM Tryz.prog 171 [v1, (nV k_)] w0 (laws_markIntS a_ k_) fun r v w' => v = (nV r.1) ∧ Mem w0 hz w' [ow [v1] r.2] := by
  unfold laws_markIntS
  refine gcon func171 rfl fun r => ?_
  have hm := hm0
  refine gS (gR (gA rfl (gE (gS (gS (gR (gA rfl (gE ?_))))))))
  obtain ⟨aD, aE, rfl, aG⟩ := ro_slice (hm.ow_rep 0 rfl)
  refine gBk (gNf hm (fun aC aA => [(0, (.slice aD a_.length aE)), (1, (nV aA.2)), (5, (nV aC))]) (fun aC aA => [ow [(.slice aD a_.length aE)] aA.1]) [0] rfl ?_ ?_)
  ·
   repeat clear hm
   intro _ _ aC aA w hm aH aI aJ _
   refine gS (gS (gR (gM rfl (gM rfl ?_))))
   have aK := rep_len (hm.ow_rep 0 rfl)
   refine gY (yV st_43 rfl) (gB rfl (gE (go _ 9 rfl (decide_eq_true (by omega)) (gct rfl (gSk (gS (gBk (gS (gR (gM rfl (gM rfl (gM rfl (gg fun aL aF aB => ?_)))))))))))))
   obtain ⟨aM, aN, aO, he⟩ := idx_form (hm.ow_rep 0 rfl) aB
   obtain ⟨rfl, _, rfl⟩ := sl3 he
   have hL1_1 := rep_slice_len (hm.ow_rep 0 rfl)
   refine gI st_43 aF (idx_lt2 aB hL1_1) rfl (gf0 rfl (fun a hf => e_setElem (x1 := aA.2) (j := 0) (vs := [(nV aA.2)]) 0 hf hm rfl aB rfl sizeOf3 rfl rfl rfl (one_cons rfl one_nil) rfl rfl) ?_)
   rintro _ w hm
   have aP := List.getElem?_set_self (a := aA.2) (idx_lt aB)
   exact gE (gR (gM rfl (gB rfl (gA rfl (gE (gR (gM rfl (gP (by omega) (by omega) rfl (gA rfl (gE (gze hm [0] rfl)))))))))))
  repeat clear hm
  intro aQ aR w hm aS aT
  refine gS (gS (gR (gM rfl (gM rfl ?_))))
  have aV := rep_len (hm.ow_rep 0 rfl)
  exact gY (yV st_43 rfl) (gB rfl (gE (go _ 9 rfl (decide_eq_false (by omega)) (gcf rfl (gXt (gHh (gS (gR (gM rfl (gA rfl (gE (gRt (gr1 results171 rfl ⟨rfl, hm.pk [0] rfl rfl⟩)))))))))))))
theorem laws_markPhiS_ok (w0 : World) (hz : Heap) (a_ : List Phi_) (v1 : Value) (k_ : Int) (hm0 : Mem w0 hz w0 [ow [v1] a_]) :
    ConM Tryz.prog 169 [v1, (nV k_)] w0 (laws_markPhiS a_ k_) fun r v w' => v = (nV r.1) ∧ Mem w0 hz w' [ow [v1] r.2] := by
  unfold laws_markPhiS
  refine gcon func169 rfl fun r => ?_
  have hm := hm0
  refine gS (gR (gA rfl (gE (gS (gS (gR (gA rfl (gE ?_))))))))
  obtain ⟨aL, aE, rfl, aT⟩ := ro_slice (hm.ow_rep 0 rfl)
  refine gBk (gNf hm (fun aD aA => [(0, (.slice aL a_.length aE)), (1, (nV aA.2)), (5, (nV aD))]) (fun aD aA => [ow [(.slice aL a_.length aE)] aA.1]) [0] rfl ?_ ?_)
  ·
   repeat clear hm
   intro _ _ aD aA w hm aV aW aX _
   refine gS (gS (gR (gM rfl (gM rfl ?_))))
   have aY := rep_len (hm.ow_rep 0 rfl)
   refine gY (yV st_60 rfl) (gB rfl (gE (go _ 9 rfl (decide_eq_true (by omega)) (gct rfl (gSk (gS (gBk (gS (gR (gM rfl (gM rfl (gM rfl (gg fun aB aM aF => ?_)))))))))))))
   obtain ⟨aG, aH, aZ, he⟩ := idx_form' (hm.ow_rep 0 rfl) aF
   obtain ⟨rfl, _, rfl⟩ := sl3 he
   obtain ⟨aN, aO, aa⟩ := rk_Phi_ (hm.ow_rep 0 rfl) aF
   have hL1_1 := rep_slice_len (hm.ow_rep 0 rfl)
   refine gI st_60 aM (idx_lt2 aF hL1_1) rfl (gF fo_127_0 rfl (gf0 rfl (fun a hf => e_setElemR (x1 := ((⟨aA.2, aB.args⟩ : Phi_) : Phi_)) (j := 0) (vs := [(nV aA.2)]) 0 hf hm rfl aF aO rfl (fun F h ho => (fun _ => own_fst_map (α := Int) (β := (List Int)) (cs := [(nV aB.to)]) (cs' := [(nV aA.2)]) (ds := [aN]) rfl (fun _ _ => Flat.own_iff.2 rfl)) F ho) rfl sizeOf3 rfl rfl rfl (one_cons rfl one_nil) rfl) ?_))
   rintro _ w hm
   have aJ := List.getElem?_set_self (a := ((⟨aA.2, aB.args⟩ : Phi_) : Phi_)) (idx_lt aF)
   refine gE (gS (gR (gM rfl (gB rfl (gA rfl (gE (gR (gM rfl (gM rfl ?_)))))))))
   obtain ⟨_, _, aI, aP⟩ := ro_get' (hm.ow_rep 0 rfl) aJ
   obtain ⟨_, _, rfl, rfl, aK⟩ := aP
   obtain ⟨aC, rfl, -⟩ := id aK
   replace aK : GT.rep (hp _) [aC] aB.args := aK
   replace aI : CellsAt (hp _) aG (aH + (aD).toNat * 2) [(nV aA.2), aC] := aI
   have hL1_2 := rep_slice_len (hm.ow_rep 0 rfl)
   refine gI st_60 aM (idx_lt2 aJ hL1_2) rfl (gF fo_127_1 rfl (gY (yl isAgg43 (aI.cell (j := 1) rfl) rfl) (gM rfl ?_)))
   replace hm : Mem w0 hz _ [ow [aC] aB.args, hole [(sV aG aH a_.length aE)] [aC] (fun (y : List Int) => ((aA.1.set (aD).toNat (⟨aA.2, aB.args⟩ : Phi_)) : List Phi_).set (aD).toNat (⟨aA.2, y⟩ : Phi_))] := hm.open 0 rfl (foc_elem aJ aI rfl (show FocH (α := Phi_) _ _ (⟨aA.2, aB.args⟩ : Phi_) [aC] aB.args (fun y => (⟨aA.2, y⟩ : Phi_)) from (foc_snd (α := Int) (β := (List Int)) (cs := [(nV aA.2)]) (ds := [aC]) (v := [aC]) (inner := aB.args) (x := aB.args) (z := aA.2) (put := fun (y : List Int) => y) rfl (foc_id [aC] aB.args))))
   obtain ⟨aQ, hle, hm1, hsub, aR⟩ := hm.take2 (L1 := [ow [aC] aB.args]) (L2 := [hole [(sV aG aH a_.length aE)] [aC] (fun (y : List Int) => ((aA.1.set (aD).toNat (⟨aA.2, aB.args⟩ : Phi_)) : List Phi_).set (aD).toNat (⟨aA.2, y⟩ : Phi_))]) [0] [1] (by decide) rfl rfl
   refine gCg rfl call171 (laws_markIntS_ok _ aQ aB.args aC (w64 (aA.2 + 1)) hm1 ) ?_
   rintro aS ab ac w ⟨rfl, hB⟩
   replace hm := aR _ _ hB; clear hB
   replace hm := (hm.shut 1 0 (by decide) rfl rfl).pk (L' := [ow [(sV aG aH a_.length aE)] ((aA.1.set (aD).toNat (⟨aA.2, aB.args⟩ : Phi_)).set (aD).toNat (⟨aA.2, aS.2⟩ : Phi_))]) [1] rfl rfl
   exact gA rfl (gE (gR (gM rfl (gP (by omega) (by omega) rfl (gA rfl (gE (gze hm [0] rfl)))))))
  repeat clear hm
  intro ae af w hm ah ai
  refine gS (gS (gR (gM rfl (gM rfl ?_))))
  have aj := rep_len (hm.ow_rep 0 rfl)
  exact gY (yV st_60 rfl) (gB rfl (gE (go _ 9 rfl (decide_eq_false (by omega)) (gcf rfl (gXt (gHh (gS (gR (gM rfl (gA rfl (gE (gRt (gr1 results169 rfl ⟨rfl, hm.pk [0] rfl rfl⟩)))))))))))))
theorem laws_markInsS_ok (w0 : World) (hz : Heap) (a_ : List Ins_) (v1 : Value) (k_ : Int) (hm0 : Mem w0 hz w0 [ow [v1] a_]) :
    ConM Tryz.prog 170 [v1, (nV k_)] w0 (laws_markInsS a_ k_) fun r v w' => v = (nV r.1) ∧ Mem w0 hz w' [ow [v1] r.2] := by
  unfold laws_markInsS
  refine gcon func170 rfl fun r => ?_
  have hm := hm0
  refine gS (gR (gA rfl (gE (gS (gS (gR (gA rfl (gE ?_))))))))
  obtain ⟨aV, aG, rfl, af⟩ := ro_slice (hm.ow_rep 0 rfl)
  refine gBk (gNf hm (fun aD aB => [(0, (.slice aV a_.length aG)), (1, (nV aB.2)), (5, (nV aD))]) (fun aD aB => [ow [(.slice aV a_.length aG)] aB.1]) [0] rfl ?_ ?_)
  ·
   repeat clear hm
   intro _ _ aD aB w hm ah ai aj _
   refine gS (gS (gR (gM rfl (gM rfl ?_))))
   have ak := rep_len (hm.ow_rep 0 rfl)
   refine gY (yV st_61 rfl) (gB rfl (gE (go _ 9 rfl (decide_eq_true (by omega)) (gct rfl (gSk (gS (gBk (gS (gR (gM rfl (gM rfl (gM rfl (gg fun aA aP aH => ?_)))))))))))))
   obtain ⟨aI, aJ, al, he⟩ := idx_form' (hm.ow_rep 0 rfl) aH
   obtain ⟨rfl, _, rfl⟩ := sl3 he
   obtain ⟨aW, aX, am⟩ := rk_Ins_ (hm.ow_rep 0 rfl) aH
   have hL1_1 := rep_slice_len (hm.ow_rep 0 rfl)
   refine gI st_61 aP (idx_lt2 aH hL1_1) rfl (gF fo_65_0 rfl (gf0 rfl (fun a hf => e_setElemR (x1 := ((⟨aB.2, aA.to, aA.args, aA.n_⟩ : Ins_) : Ins_)) (j := 0) (vs := [(nV aB.2)]) 0 hf hm rfl aH aX rfl (fun F h ho => (fun _ => own_fst_map (α := Int) (β := Int × (List Int) × Int) (cs := [(nV aA.op)]) (cs' := [(nV aB.2)]) (ds := [(nV aA.to), aW, (nV aA.n_)]) rfl (fun _ _ => Flat.own_iff.2 rfl)) F ho) rfl sizeOf3 rfl rfl rfl (one_cons rfl one_nil) rfl) ?_))
   rintro _ w hm
   have aM := List.getElem?_set_self (a := ((⟨aB.2, aA.to, aA.args, aA.n_⟩ : Ins_) : Ins_)) (idx_lt aH)
   refine gE (gS (gR (gM rfl (gB rfl (gA rfl (gE (gS (gR (gM rfl (gM rfl (gM rfl ?_)))))))))))
   obtain ⟨_, _, aQ, aY⟩ := ro_get' (hm.ow_rep 0 rfl) aM
   obtain ⟨_, _, rfl, rfl, _, _, rfl, rfl, _, _, rfl, aR, rfl⟩ := aY
   obtain ⟨aK, rfl, -⟩ := id aR
   replace aR : GT.rep (hp _) [aK] aA.args := aR
   replace aQ : CellsAt (hp _) aI (aJ + (aD).toNat * 4) [(nV aB.2), (nV aA.to), aK, (nV aA.n_)] := aQ
   have hL1_2 := rep_slice_len (hm.ow_rep 0 rfl)
   refine gI st_61 aP (idx_lt2 aM hL1_2) rfl (gF fo_65_1 rfl (gf0 rfl (fun a hf => e_setElemR (x1 := ((⟨aB.2, w64 (aB.2 + 1), aA.args, aA.n_⟩ : Ins_) : Ins_)) (j := 1) (vs := [(nV (w64 (aB.2 + 1)))]) 0 hf hm rfl aM aQ rfl (fun F h ho => (fun _ => own_snd_map (α := Int) (β := Int × (List Int) × Int) (cs := [(nV aB.2)]) (ds := [(nV aA.to), aK, (nV aA.n_)]) (ds' := [(nV (w64 (aB.2 + 1))), aK, (nV aA.n_)]) rfl (fun _ => own_fst_map (α := Int) (β := (List Int) × Int) (cs := [(nV aA.to)]) (cs' := [(nV (w64 (aB.2 + 1)))]) (ds := [aK, (nV aA.n_)]) rfl (fun _ _ => Flat.own_iff.2 rfl))) F ho) rfl sizeOf3 rfl rfl rfl (one_cons rfl one_nil) rfl) ?_))
   rintro _ w hm
   have aS := List.getElem?_set_self (a := ((⟨aB.2, w64 (aB.2 + 1), aA.args, aA.n_⟩ : Ins_) : Ins_)) (idx_lt aM)
   refine gE (gS (gR (gM rfl (gB rfl (gA rfl (gE (gS (gR (gM rfl (gM rfl ?_))))))))))
   obtain ⟨_, _, aN, aZ⟩ := ro_get' (hm.ow_rep 0 rfl) aS
   obtain ⟨_, _, rfl, rfl, _, _, rfl, rfl, _, _, rfl, aT, rfl⟩ := aZ
   obtain ⟨aC, rfl, -⟩ := id aT
   replace aT : GT.rep (hp _) [aC] aA.args := aT
   replace aN : CellsAt (hp _) aI (aJ + (aD).toNat * 4) [(nV aB.2), (nV (w64 (aB.2 + 1))), aC, (nV aA.n_)] := aN
   have hL1_3 := rep_slice_len (hm.ow_rep 0 rfl)
   refine gI st_61 aP (idx_lt2 aS hL1_3) rfl (gF fo_65_2 rfl (gY (yl isAgg43 (aN.cell (j := 2) rfl) rfl) (gM rfl ?_)))
   replace hm : Mem w0 hz _ [ow [aC] aA.args, hole [(sV aI aJ a_.length aG)] [aC] (fun (y : List Int) => (((aB.1.set (aD).toNat (⟨aB.2, aA.to, aA.args, aA.n_⟩ : Ins_)).set (aD).toNat (⟨aB.2, w64 (aB.2 + 1), aA.args, aA.n_⟩ : Ins_)) : List Ins_).set (aD).toNat (⟨aB.2, w64 (aB.2 + 1), y, aA.n_⟩ : Ins_))] := hm.open 0 rfl (foc_elem aS aN rfl (show FocH (α := Ins_) _ _ (⟨aB.2, w64 (aB.2 + 1), aA.args, aA.n_⟩ : Ins_) [aC] aA.args (fun y => (⟨aB.2, w64 (aB.2 + 1), y, aA.n_⟩ : Ins_)) from (foc_snd (α := Int) (β := Int × (List Int) × Int) (cs := [(nV aB.2)]) (ds := [(nV (w64 (aB.2 + 1))), aC, (nV aA.n_)]) (v := [aC]) (inner := aA.args) (x := (w64 (aB.2 + 1), aA.args, aA.n_)) (z := aB.2) (put := fun (y : List Int) => (w64 (aB.2 + 1), y, aA.n_)) rfl (foc_snd (α := Int) (β := (List Int) × Int) (cs := [(nV (w64 (aB.2 + 1)))]) (ds := [aC, (nV aA.n_)]) (v := [aC]) (inner := aA.args) (x := (aA.args, aA.n_)) (z := w64 (aB.2 + 1)) (put := fun (y : List Int) => (y, aA.n_)) rfl (foc_fst (α := List Int) (β := Int) (cs := [aC]) (ds := [(nV aA.n_)]) (v := [aC]) (inner := aA.args) (x := aA.args) (z := aA.n_) (put := fun (y : List Int) => y) rfl (foc_id [aC] aA.args))))))
   obtain ⟨aa, hle, hm1, hsub, ab⟩ := hm.take2 (L1 := [ow [aC] aA.args]) (L2 := [hole [(sV aI aJ a_.length aG)] [aC] (fun (y : List Int) => (((aB.1.set (aD).toNat (⟨aB.2, aA.to, aA.args, aA.n_⟩ : Ins_)).set (aD).toNat (⟨aB.2, w64 (aB.2 + 1), aA.args, aA.n_⟩ : Ins_)) : List Ins_).set (aD).toNat (⟨aB.2, w64 (aB.2 + 1), y, aA.n_⟩ : Ins_))]) [0] [1] (by decide) rfl rfl
   refine gCg rfl call171 (laws_markIntS_ok _ aa aA.args aC (w64 ((w64 (aB.2 + 1)) + 1)) hm1 ) ?_
   rintro aF an ao w ⟨rfl, hB⟩
   replace hm := ab _ _ hB; clear hB
   replace hm := (hm.shut 1 0 (by decide) rfl rfl).pk (L' := [ow [(sV aI aJ a_.length aG)] (((aB.1.set (aD).toNat (⟨aB.2, aA.to, aA.args, aA.n_⟩ : Ins_)).set (aD).toNat (⟨aB.2, w64 (aB.2 + 1), aA.args, aA.n_⟩ : Ins_)).set (aD).toNat (⟨aB.2, w64 (aB.2 + 1), aF.2, aA.n_⟩ : Ins_))]) [1] rfl rfl
   refine gA rfl (gE (gS (gR (gM rfl (gM rfl (gM rfl (gg fun aE ac aO => ?_)))))))
   obtain ⟨aL, ae, ap⟩ := rk_Ins_ (hm.ow_rep 0 rfl) aO
   have hL1_4 := rep_slice_len (hm.ow_rep 0 rfl)
   refine gI st_61 ac (idx_lt2 aO hL1_4) rfl (gF fo_65_3 rfl (gf0 rfl (fun a hf => e_setElemR (x1 := ((⟨aE.op, aE.to, aE.args, aF.1⟩ : Ins_) : Ins_)) (j := 3) (vs := [(nV aF.1)]) 0 hf hm rfl aO ae rfl (fun F h ho => (fun _ => own_snd_map (α := Int) (β := Int × (List Int) × Int) (cs := [(nV aE.op)]) (ds := [(nV aE.to), aL, (nV aE.n_)]) (ds' := [(nV aE.to), aL, (nV aF.1)]) rfl (fun _ => own_snd_map (α := Int) (β := (List Int) × Int) (cs := [(nV aE.to)]) (ds := [aL, (nV aE.n_)]) (ds' := [aL, (nV aF.1)]) rfl (fun _ => own_snd_map (α := List Int) (β := Int) (cs := [aL]) (ds := [(nV aE.n_)]) (ds' := [(nV aF.1)]) rfl (fun _ _ => Flat.own_iff.2 rfl)))) F ho) rfl sizeOf3 rfl rfl rfl (one_cons rfl one_nil) rfl) ?_))
   rintro _ w hm
   have aq := List.getElem?_set_self (a := ((⟨aE.op, aE.to, aE.args, aF.1⟩ : Ins_) : Ins_)) (idx_lt aO)
   exact gE (gR (gM rfl (gB rfl (gA rfl (gE (gR (gM rfl (gP (by omega) (by omega) rfl (gA rfl (gE (gze hm [0] rfl)))))))))))
  repeat clear hm
  intro ar au w hm av aw
  refine gS (gS (gR (gM rfl (gM rfl ?_))))
  have ax := rep_len (hm.ow_rep 0 rfl)
  exact gY (yV st_61 rfl) (gB rfl (gE (go _ 9 rfl (decide_eq_false (by omega)) (gcf rfl (gXt (gHh (gS (gR (gM rfl (gA rfl (gE (gRt (gr1 results170 rfl ⟨rfl, hm.pk [0] rfl rfl⟩)))))))))))))
theorem laws_markBlockS_ok (w0 : World) (hz : Heap) (a_ : List Block_) (v1 : Value) (k_ : Int) (hm0 : Mem w0 hz w0 [ow [v1] a_]) :
    ConM Tryz.prog 104 [v1, (nV k_)] w0 (laws_markBlockS a_ k_) fun r v w' => v = (nV r.1) ∧ Mem w0 hz w' [ow [v1] r.2] := by
  unfold laws_markBlockS
  refine gcon func104 rfl fun r => ?_
  have hm := hm0
  refine gS (gR (gA rfl (gE (gS (gS (gR (gA rfl (gE ?_))))))))
  obtain ⟨al, aH, rfl, bH⟩ := ro_slice (hm.ow_rep 0 rfl)
  refine gBk (gNf hm (fun aE aG => [(0, (.slice al a_.length aH)), (1, (nV aG.2)), (5, (nV aE))]) (fun aE aG => [ow [(.slice al a_.length aH)] aG.1]) [0] rfl ?_ ?_)
  ·
   repeat clear hm
   intro _ _ aE aG w hm bJ bK bL _
   refine gS (gS (gR (gM rfl (gM rfl ?_))))
   have bM := rep_len (hm.ow_rep 0 rfl)
   refine gY (yV st_47 rfl) (gB rfl (gE (go _ 9 rfl (decide_eq_true (by omega)) (gct rfl (gSk (gS (gBk (gS (gR (gM rfl (gM rfl (gg fun aC ap aQ => ?_))))))))))))
   obtain ⟨aI, aJ, bN, he⟩ := idx_form' (hm.ow_rep 0 rfl) aQ
   obtain ⟨rfl, _, rfl⟩ := sl3 he
   obtain ⟨aL, aq, ar, am, bO, bP, bQ⟩ := rk_Block_ (hm.ow_rep 0 rfl) aQ
   have hL1_1 := rep_slice_len (hm.ow_rep 0 rfl)
   refine gI st_47 ap (idx_lt2 aQ hL1_1) rfl (gF fo_63_0 rfl (gY (yl isAgg60 (am.cell (j := 0) rfl) rfl) (gM rfl ?_)))
   replace hm : Mem w0 hz _ [ow [aL] aC.phis, hole [(sV aI aJ a_.length aH)] [aL] (fun (y : List Phi_) => (aG.1 : List Block_).set (aE).toNat (⟨y, aC.ins, aC.jump, aC.on, aC.next_⟩ : Block_))] := hm.open 0 rfl (foc_elem aQ am rfl (show FocH (α := Block_) _ _ aC [aL] aC.phis (fun y => (⟨y, aC.ins, aC.jump, aC.on, aC.next_⟩ : Block_)) from (foc_fst (α := List Phi_) (β := (List Ins_) × Int × Int × (List Int)) (cs := [aL]) (ds := [aq, (nV aC.jump), (nV aC.on), ar]) (v := [aL]) (inner := aC.phis) (x := aC.phis) (z := (aC.ins, aC.jump, aC.on, aC.next_)) (put := fun (y : List Phi_) => y) rfl (foc_id [aL] aC.phis))))
   obtain ⟨au, hle, hm1, hsub, av⟩ := hm.take2 (L1 := [ow [aL] aC.phis]) (L2 := [hole [(sV aI aJ a_.length aH)] [aL] (fun (y : List Phi_) => (aG.1 : List Block_).set (aE).toNat (⟨y, aC.ins, aC.jump, aC.on, aC.next_⟩ : Block_))]) [0] [1] (by decide) rfl rfl
   refine gCg rfl call169 (laws_markPhiS_ok _ au aC.phis aL aG.2 hm1 ) ?_
   rintro aN bR bS w ⟨rfl, hB⟩
   replace hm := av _ _ hB; clear hB
   replace hm := (hm.shut 1 0 (by decide) rfl rfl).pk (L' := [ow [(sV aI aJ a_.length aH)] (aG.1.set (aE).toNat (⟨aN.2, aC.ins, aC.jump, aC.on, aC.next_⟩ : Block_))]) [1] rfl rfl
   refine gA rfl (gE (gS (gR (gM rfl (gM rfl (gg fun aD aw aW => ?_))))))
   obtain ⟨ax, aK, an, ao, bT, bU, bV⟩ := rk_Block_ (hm.ow_rep 0 rfl) aW
   have hL1_2 := rep_slice_len (hm.ow_rep 0 rfl)
   refine gI st_47 aw (idx_lt2 aW hL1_2) rfl (gF fo_63_1 rfl (gY (yl isAgg61 (ao.cell (j := 1) rfl) rfl) (gM rfl ?_)))
   replace hm : Mem w0 hz _ [ow [aK] aD.ins, hole [(sV aI aJ a_.length aH)] [aK] (fun (y : List Ins_) => ((aG.1.set (aE).toNat (⟨aN.2, aC.ins, aC.jump, aC.on, aC.next_⟩ : Block_)) : List Block_).set (aE).toNat (⟨aD.phis, y, aD.jump, aD.on, aD.next_⟩ : Block_))] := hm.open 0 rfl (foc_elem aW ao rfl (show FocH (α := Block_) _ _ aD [aK] aD.ins (fun y => (⟨aD.phis, y, aD.jump, aD.on, aD.next_⟩ : Block_)) from (foc_snd (α := List Phi_) (β := (List Ins_) × Int × Int × (List Int)) (cs := [ax]) (ds := [aK, (nV aD.jump), (nV aD.on), an]) (v := [aK]) (inner := aD.ins) (x := (aD.ins, aD.jump, aD.on, aD.next_)) (z := aD.phis) (put := fun (y : List Ins_) => (y, aD.jump, aD.on, aD.next_)) rfl (foc_fst (α := List Ins_) (β := Int × Int × (List Int)) (cs := [aK]) (ds := [(nV aD.jump), (nV aD.on), an]) (v := [aK]) (inner := aD.ins) (x := aD.ins) (z := (aD.jump, aD.on, aD.next_)) (put := fun (y : List Ins_) => y) rfl (foc_id [aK] aD.ins)))))
   obtain ⟨ay, hle, hm1, hsub, az⟩ := hm.take2 (L1 := [ow [aK] aD.ins]) (L2 := [hole [(sV aI aJ a_.length aH)] [aK] (fun (y : List Ins_) => ((aG.1.set (aE).toNat (⟨aN.2, aC.ins, aC.jump, aC.on, aC.next_⟩ : Block_)) : List Block_).set (aE).toNat (⟨aD.phis, y, aD.jump, aD.on, aD.next_⟩ : Block_))]) [0] [1] (by decide) rfl rfl
   refine gCg rfl call170 (laws_markInsS_ok _ ay aD.ins aK aN.1 hm1 ) ?_
   rintro aB bW bX w ⟨rfl, hB⟩
   replace hm := az _ _ hB; clear hB
   replace hm := (hm.shut 1 0 (by decide) rfl rfl).pk (L' := [ow [(sV aI aJ a_.length aH)] ((aG.1.set (aE).toNat (⟨aN.2, aC.ins, aC.jump, aC.on, aC.next_⟩ : Block_)).set (aE).toNat (⟨aD.phis, aB.2, aD.jump, aD.on, aD.next_⟩ : Block_))]) [1] rfl rfl
   refine gA rfl (gE (gS (gR (gM rfl (gM rfl (gM rfl (gg fun aA aX aR => ?_)))))))
   obtain ⟨bA, aY, aO, bB, bY, bZ, b6⟩ := rk_Block_ (hm.ow_rep 0 rfl) aR
   have hL1_3 := rep_slice_len (hm.ow_rep 0 rfl)
   refine gI st_47 aX (idx_lt2 aR hL1_3) rfl (gF fo_63_2 rfl (gf0 rfl (fun a hf => e_setElemR (x1 := ((⟨aA.phis, aA.ins, aB.1, aA.on, aA.next_⟩ : Block_) : Block_)) (j := 2) (vs := [(nV aB.1)]) 0 hf hm rfl aR bB rfl (fun F h ho => (fun _ => own_snd_map (α := List Phi_) (β := (List Ins_) × Int × Int × (List Int)) (cs := [bA]) (ds := [aY, (nV aA.jump), (nV aA.on), aO]) (ds' := [aY, (nV aB.1), (nV aA.on), aO]) rfl (fun _ => own_snd_map (α := List Ins_) (β := Int × Int × (List Int)) (cs := [aY]) (ds := [(nV aA.jump), (nV aA.on), aO]) (ds' := [(nV aB.1), (nV aA.on), aO]) rfl (fun _ => own_fst_map (α := Int) (β := Int × (List Int)) (cs := [(nV aA.jump)]) (cs' := [(nV aB.1)]) (ds := [(nV aA.on), aO]) rfl (fun _ _ => Flat.own_iff.2 rfl)))) F ho) rfl sizeOf3 rfl rfl rfl (one_cons rfl one_nil) rfl) ?_))
   rintro _ w hm
   have aS := List.getElem?_set_self (a := ((⟨aA.phis, aA.ins, aB.1, aA.on, aA.next_⟩ : Block_) : Block_)) (idx_lt aR)
   refine gE (gS (gR (gM rfl (gB rfl (gA rfl (gE (gS (gR (gM rfl (gM rfl (gM rfl ?_)))))))))))
   obtain ⟨_, _, aZ, bC⟩ := ro_get' (hm.ow_rep 0 rfl) aS
   obtain ⟨_, _, rfl, aa, _, _, rfl, ab, _, _, rfl, rfl, _, _, rfl, rfl, ac⟩ := bC
   obtain ⟨ae, rfl, -⟩ := id aa
   replace aa : GT.rep (hp _) [ae] aA.phis := aa
   obtain ⟨aP, rfl, -⟩ := id ab
   replace ab : GT.rep (hp _) [aP] aA.ins := ab
   obtain ⟨aM, rfl, -⟩ := id ac
   replace ac : GT.rep (hp _) [aM] aA.next_ := ac
   replace aZ : CellsAt (hp _) aI (aJ + (aE).toNat * 5) [ae, aP, (nV aB.1), (nV aA.on), aM] := aZ
   have hL1_4 := rep_slice_len (hm.ow_rep 0 rfl)
   refine gI st_47 aX (idx_lt2 aS hL1_4) rfl (gF fo_63_3 rfl (gf0 rfl (fun a hf => e_setElemR (x1 := ((⟨aA.phis, aA.ins, aB.1, w64 (aB.1 + 1), aA.next_⟩ : Block_) : Block_)) (j := 3) (vs := [(nV (w64 (aB.1 + 1)))]) 0 hf hm rfl aS aZ rfl (fun F h ho => (fun _ => own_snd_map (α := List Phi_) (β := (List Ins_) × Int × Int × (List Int)) (cs := [ae]) (ds := [aP, (nV aB.1), (nV aA.on), aM]) (ds' := [aP, (nV aB.1), (nV (w64 (aB.1 + 1))), aM]) rfl (fun _ => own_snd_map (α := List Ins_) (β := Int × Int × (List Int)) (cs := [aP]) (ds := [(nV aB.1), (nV aA.on), aM]) (ds' := [(nV aB.1), (nV (w64 (aB.1 + 1))), aM]) rfl (fun _ => own_snd_map (α := Int) (β := Int × (List Int)) (cs := [(nV aB.1)]) (ds := [(nV aA.on), aM]) (ds' := [(nV (w64 (aB.1 + 1))), aM]) rfl (fun _ => own_fst_map (α := Int) (β := (List Int)) (cs := [(nV aA.on)]) (cs' := [(nV (w64 (aB.1 + 1)))]) (ds := [aM]) rfl (fun _ _ => Flat.own_iff.2 rfl))))) F ho) rfl sizeOf3 rfl rfl rfl (one_cons rfl one_nil) rfl) ?_))
   rintro _ w hm
   have af := List.getElem?_set_self (a := ((⟨aA.phis, aA.ins, aB.1, w64 (aB.1 + 1), aA.next_⟩ : Block_) : Block_)) (idx_lt aS)
   refine gE (gS (gR (gM rfl (gB rfl (gA rfl (gE (gR (gM rfl (gM rfl ?_)))))))))
   obtain ⟨_, _, aT, bD⟩ := ro_get' (hm.ow_rep 0 rfl) af
   obtain ⟨_, _, rfl, ah, _, _, rfl, ai, _, _, rfl, rfl, _, _, rfl, rfl, aj⟩ := bD
   obtain ⟨ak, rfl, -⟩ := id ah
   replace ah : GT.rep (hp _) [ak] aA.phis := ah
   obtain ⟨aV, rfl, -⟩ := id ai
   replace ai : GT.rep (hp _) [aV] aA.ins := ai
   obtain ⟨aF, rfl, -⟩ := id aj
   replace aj : GT.rep (hp _) [aF] aA.next_ := aj
   replace aT : CellsAt (hp _) aI (aJ + (aE).toNat * 5) [ak, aV, (nV aB.1), (nV (w64 (aB.1 + 1))), aF] := aT
   have hL1_5 := rep_slice_len (hm.ow_rep 0 rfl)
   refine gI st_47 aX (idx_lt2 af hL1_5) rfl (gF fo_63_4 rfl (gY (yl isAgg43 (aT.cell (j := 4) rfl) rfl) (gM rfl ?_)))
   replace hm : Mem w0 hz _ [ow [aF] aA.next_, hole [(sV aI aJ a_.length aH)] [aF] (fun (y : List Int) => (((((aG.1.set (aE).toNat (⟨aN.2, aC.ins, aC.jump, aC.on, aC.next_⟩ : Block_)).set (aE).toNat (⟨aD.phis, aB.2, aD.jump, aD.on, aD.next_⟩ : Block_)).set (aE).toNat (⟨aA.phis, aA.ins, aB.1, aA.on, aA.next_⟩ : Block_)).set (aE).toNat (⟨aA.phis, aA.ins, aB.1, w64 (aB.1 + 1), aA.next_⟩ : Block_)) : List Block_).set (aE).toNat (⟨aA.phis, aA.ins, aB.1, w64 (aB.1 + 1), y⟩ : Block_))] := hm.open 0 rfl (foc_elem af aT rfl (show FocH (α := Block_) _ _ (⟨aA.phis, aA.ins, aB.1, w64 (aB.1 + 1), aA.next_⟩ : Block_) [aF] aA.next_ (fun y => (⟨aA.phis, aA.ins, aB.1, w64 (aB.1 + 1), y⟩ : Block_)) from (foc_snd (α := List Phi_) (β := (List Ins_) × Int × Int × (List Int)) (cs := [ak]) (ds := [aV, (nV aB.1), (nV (w64 (aB.1 + 1))), aF]) (v := [aF]) (inner := aA.next_) (x := (aA.ins, aB.1, w64 (aB.1 + 1), aA.next_)) (z := aA.phis) (put := fun (y : List Int) => (aA.ins, aB.1, w64 (aB.1 + 1), y)) rfl (foc_snd (α := List Ins_) (β := Int × Int × (List Int)) (cs := [aV]) (ds := [(nV aB.1), (nV (w64 (aB.1 + 1))), aF]) (v := [aF]) (inner := aA.next_) (x := (aB.1, w64 (aB.1 + 1), aA.next_)) (z := aA.ins) (put := fun (y : List Int) => (aB.1, w64 (aB.1 + 1), y)) rfl (foc_snd (α := Int) (β := Int × (List Int)) (cs := [(nV aB.1)]) (ds := [(nV (w64 (aB.1 + 1))), aF]) (v := [aF]) (inner := aA.next_) (x := (w64 (aB.1 + 1), aA.next_)) (z := aB.1) (put := fun (y : List Int) => (w64 (aB.1 + 1), y)) rfl (foc_snd (α := Int) (β := (List Int)) (cs := [(nV (w64 (aB.1 + 1)))]) (ds := [aF]) (v := [aF]) (inner := aA.next_) (x := aA.next_) (z := w64 (aB.1 + 1)) (put := fun (y : List Int) => y) rfl (foc_id [aF] aA.next_)))))))
   obtain ⟨bE, hle, hm1, hsub, bF⟩ := hm.take2 (L1 := [ow [aF] aA.next_]) (L2 := [hole [(sV aI aJ a_.length aH)] [aF] (fun (y : List Int) => (((((aG.1.set (aE).toNat (⟨aN.2, aC.ins, aC.jump, aC.on, aC.next_⟩ : Block_)).set (aE).toNat (⟨aD.phis, aB.2, aD.jump, aD.on, aD.next_⟩ : Block_)).set (aE).toNat (⟨aA.phis, aA.ins, aB.1, aA.on, aA.next_⟩ : Block_)).set (aE).toNat (⟨aA.phis, aA.ins, aB.1, w64 (aB.1 + 1), aA.next_⟩ : Block_)) : List Block_).set (aE).toNat (⟨aA.phis, aA.ins, aB.1, w64 (aB.1 + 1), y⟩ : Block_))]) [0] [1] (by decide) rfl rfl
   refine gCg rfl call171 (laws_markIntS_ok _ bE aA.next_ aF (w64 ((w64 (aB.1 + 1)) + 1)) hm1 ) ?_
   rintro bG b8 b9 w ⟨rfl, hB⟩
   replace hm := bF _ _ hB; clear hB
   replace hm := (hm.shut 1 0 (by decide) rfl rfl).pk (L' := [ow [(sV aI aJ a_.length aH)] (((((aG.1.set (aE).toNat (⟨aN.2, aC.ins, aC.jump, aC.on, aC.next_⟩ : Block_)).set (aE).toNat (⟨aD.phis, aB.2, aD.jump, aD.on, aD.next_⟩ : Block_)).set (aE).toNat (⟨aA.phis, aA.ins, aB.1, aA.on, aA.next_⟩ : Block_)).set (aE).toNat (⟨aA.phis, aA.ins, aB.1, w64 (aB.1 + 1), aA.next_⟩ : Block_)).set (aE).toNat (⟨aA.phis, aA.ins, aB.1, w64 (aB.1 + 1), bG.2⟩ : Block_))]) [1] rfl rfl
   exact gA rfl (gE (gR (gM rfl (gP (by omega) (by omega) rfl (gA rfl (gE (gze hm [0] rfl)))))))
  repeat clear hm
  intro ba bb w hm bc bd
  refine gS (gS (gR (gM rfl (gM rfl ?_))))
  have be := rep_len (hm.ow_rep 0 rfl)
  exact gY (yV st_47 rfl) (gB rfl (gE (go _ 9 rfl (decide_eq_false (by omega)) (gcf rfl (gXt (gHh (gS (gR (gM rfl (gA rfl (gE (gRt (gr1 results104 rfl ⟨rfl, hm.pk [0] rfl rfl⟩)))))))))))))
theorem laws_markCodeS_ok (w0 : World) (hz : Heap) (a_ : List Code_) (v1 : Value) (k_ : Int) (hm0 : Mem w0 hz w0 [ow [v1] a_]) :
    ConM Tryz.prog 53 [v1, (nV k_)] w0 (laws_markCodeS a_ k_) fun r v w' => v = (nV r.1) ∧ Mem w0 hz w' [ow [v1] r.2] := by
  unfold laws_markCodeS
  refine gcon func53 rfl fun r => ?_
  have hm := hm0
  refine gS (gR (gA rfl (gE (gS (gS (gR (gA rfl (gE ?_))))))))
  obtain ⟨aQ, aE, rfl, aZ⟩ := ro_slice (hm.ow_rep 0 rfl)
  refine gBk (gNf hm (fun aC aA => [(0, (.slice aQ a_.length aE)), (1, (nV aA.2)), (5, (nV aC))]) (fun aC aA => [ow [(.slice aQ a_.length aE)] aA.1]) [0] rfl ?_ ?_)
  ·
   repeat clear hm
   intro _ _ aC aA w hm aa ab ac _
   refine gS (gS (gR (gM rfl (gM rfl ?_))))
   have ae := rep_len (hm.ow_rep 0 rfl)
   refine gY (yV st_26 rfl) (gB rfl (gE (go _ 9 rfl (decide_eq_true (by omega)) (gct rfl (gSk (gS (gBk (gS (gR (gM rfl (gM rfl (gM rfl (gg fun aB aL aF => ?_)))))))))))))
   obtain ⟨aG, aH, af, he⟩ := idx_form' (hm.ow_rep 0 rfl) aF
   obtain ⟨rfl, _, rfl⟩ := sl3 he
   obtain ⟨aR, aS, ah⟩ := rk_Code_ (hm.ow_rep 0 rfl) aF
   have hL1_1 := rep_slice_len (hm.ow_rep 0 rfl)
   refine gI st_26 aL (idx_lt2 aF hL1_1) rfl (gF fo_49_0 rfl (gf0 rfl (fun a hf => e_setElemR (x1 := ((⟨aA.2, aB.regs, aB.blocks⟩ : Code_) : Code_)) (j := 0) (vs := [(nV aA.2)]) 0 hf hm rfl aF aS rfl (fun F h ho => (fun _ => own_fst_map (α := Int) (β := Int × (List Block_)) (cs := [(nV aB.params)]) (cs' := [(nV aA.2)]) (ds := [(nV aB.regs), aR]) rfl (fun _ _ => Flat.own_iff.2 rfl)) F ho) rfl sizeOf3 rfl rfl rfl (one_cons rfl one_nil) rfl) ?_))
   rintro _ w hm
   have aJ := List.getElem?_set_self (a := ((⟨aA.2, aB.regs, aB.blocks⟩ : Code_) : Code_)) (idx_lt aF)
   refine gE (gS (gR (gM rfl (gB rfl (gA rfl (gE (gS (gR (gM rfl (gM rfl (gM rfl ?_)))))))))))
   obtain ⟨_, _, aM, aT⟩ := ro_get' (hm.ow_rep 0 rfl) aJ
   obtain ⟨_, _, rfl, rfl, _, _, rfl, rfl, aN⟩ := aT
   obtain ⟨aI, rfl, -⟩ := id aN
   replace aN : GT.rep (hp _) [aI] aB.blocks := aN
   replace aM : CellsAt (hp _) aG (aH + (aC).toNat * 3) [(nV aA.2), (nV aB.regs), aI] := aM
   have hL1_2 := rep_slice_len (hm.ow_rep 0 rfl)
   refine gI st_26 aL (idx_lt2 aJ hL1_2) rfl (gF fo_49_1 rfl (gf0 rfl (fun a hf => e_setElemR (x1 := ((⟨aA.2, w64 (aA.2 + 1), aB.blocks⟩ : Code_) : Code_)) (j := 1) (vs := [(nV (w64 (aA.2 + 1)))]) 0 hf hm rfl aJ aM rfl (fun F h ho => (fun _ => own_snd_map (α := Int) (β := Int × (List Block_)) (cs := [(nV aA.2)]) (ds := [(nV aB.regs), aI]) (ds' := [(nV (w64 (aA.2 + 1))), aI]) rfl (fun _ => own_fst_map (α := Int) (β := (List Block_)) (cs := [(nV aB.regs)]) (cs' := [(nV (w64 (aA.2 + 1)))]) (ds := [aI]) rfl (fun _ _ => Flat.own_iff.2 rfl))) F ho) rfl sizeOf3 rfl rfl rfl (one_cons rfl one_nil) rfl) ?_))
   rintro _ w hm
   have aO := List.getElem?_set_self (a := ((⟨aA.2, w64 (aA.2 + 1), aB.blocks⟩ : Code_) : Code_)) (idx_lt aJ)
   refine gE (gS (gR (gM rfl (gB rfl (gA rfl (gE (gR (gM rfl (gM rfl ?_)))))))))
   obtain ⟨_, _, aK, aV⟩ := ro_get' (hm.ow_rep 0 rfl) aO
   obtain ⟨_, _, rfl, rfl, _, _, rfl, rfl, aP⟩ := aV
   obtain ⟨aD, rfl, -⟩ := id aP
   replace aP : GT.rep (hp _) [aD] aB.blocks := aP
   replace aK : CellsAt (hp _) aG (aH + (aC).toNat * 3) [(nV aA.2), (nV (w64 (aA.2 + 1))), aD] := aK
   have hL1_3 := rep_slice_len (hm.ow_rep 0 rfl)
   refine gI st_26 aL (idx_lt2 aO hL1_3) rfl (gF fo_49_2 rfl (gY (yl isAgg47 (aK.cell (j := 2) rfl) rfl) (gM rfl ?_)))
   replace hm : Mem w0 hz _ [ow [aD] aB.blocks, hole [(sV aG aH a_.length aE)] [aD] (fun (y : List Block_) => (((aA.1.set (aC).toNat (⟨aA.2, aB.regs, aB.blocks⟩ : Code_)).set (aC).toNat (⟨aA.2, w64 (aA.2 + 1), aB.blocks⟩ : Code_)) : List Code_).set (aC).toNat (⟨aA.2, w64 (aA.2 + 1), y⟩ : Code_))] := hm.open 0 rfl (foc_elem aO aK rfl (show FocH (α := Code_) _ _ (⟨aA.2, w64 (aA.2 + 1), aB.blocks⟩ : Code_) [aD] aB.blocks (fun y => (⟨aA.2, w64 (aA.2 + 1), y⟩ : Code_)) from (foc_snd (α := Int) (β := Int × (List Block_)) (cs := [(nV aA.2)]) (ds := [(nV (w64 (aA.2 + 1))), aD]) (v := [aD]) (inner := aB.blocks) (x := (w64 (aA.2 + 1), aB.blocks)) (z := aA.2) (put := fun (y : List Block_) => (w64 (aA.2 + 1), y)) rfl (foc_snd (α := Int) (β := (List Block_)) (cs := [(nV (w64 (aA.2 + 1)))]) (ds := [aD]) (v := [aD]) (inner := aB.blocks) (x := aB.blocks) (z := w64 (aA.2 + 1)) (put := fun (y : List Block_) => y) rfl (foc_id [aD] aB.blocks)))))
   obtain ⟨aW, hle, hm1, hsub, aX⟩ := hm.take2 (L1 := [ow [aD] aB.blocks]) (L2 := [hole [(sV aG aH a_.length aE)] [aD] (fun (y : List Block_) => (((aA.1.set (aC).toNat (⟨aA.2, aB.regs, aB.blocks⟩ : Code_)).set (aC).toNat (⟨aA.2, w64 (aA.2 + 1), aB.blocks⟩ : Code_)) : List Code_).set (aC).toNat (⟨aA.2, w64 (aA.2 + 1), y⟩ : Code_))]) [0] [1] (by decide) rfl rfl
   refine gCg rfl call104 (laws_markBlockS_ok _ aW aB.blocks aD (w64 ((w64 (aA.2 + 1)) + 1)) hm1 ) ?_
   rintro aY ai aj w ⟨rfl, hB⟩
   replace hm := aX _ _ hB; clear hB
   replace hm := (hm.shut 1 0 (by decide) rfl rfl).pk (L' := [ow [(sV aG aH a_.length aE)] (((aA.1.set (aC).toNat (⟨aA.2, aB.regs, aB.blocks⟩ : Code_)).set (aC).toNat (⟨aA.2, w64 (aA.2 + 1), aB.blocks⟩ : Code_)).set (aC).toNat (⟨aA.2, w64 (aA.2 + 1), aY.2⟩ : Code_))]) [1] rfl rfl
   exact gA rfl (gE (gR (gM rfl (gP (by omega) (by omega) rfl (gA rfl (gE (gze hm [0] rfl)))))))
  repeat clear hm
  intro ak al w hm am an
  refine gS (gS (gR (gM rfl (gM rfl ?_))))
  have ao := rep_len (hm.ow_rep 0 rfl)
  exact gY (yV st_26 rfl) (gB rfl (gE (go _ 9 rfl (decide_eq_false (by omega)) (gcf rfl (gXt (gHh (gS (gR (gM rfl (gA rfl (gE (gRt (gr1 results53 rfl ⟨rfl, hm.pk [0] rfl rfl⟩)))))))))))))
theorem laws_markUnit_ok (w0 : World) (hz : Heap) (a_ : Unit_) (v1 : Value) (k_ : Int) (hm0 : Mem w0 hz w0 [ow [v1] a_.codes]) :
    ConM Tryz.prog 18 [(.agg #[v1]), (nV k_)] w0 (laws_markUnit a_ k_) fun r v w' => v = (nV r.1) ∧ Mem w0 hz w' [ow [v1] r.2] := by
  unfold laws_markUnit
  refine gcon func18 rfl fun r => ?_
  have hm := hm0
  refine gS (gR (gBx hm rfl fun aA w hm => gA rfl (gE (gS (gR (gF fo_28_0 rfl (gL hm 0 isAgg26 rfl (gM rfl ?_))))))))
  obtain ⟨aB, hle, hm1, hsub, aC⟩ := hm.take2 (L1 := [ow [v1] a_.codes]) (L2 := [blk aA [v1] 28]) [1] [0] (by decide) rfl rfl
  refine gCg rfl call53 (laws_markCodeS_ok _ aB a_.codes v1 k_ hm1 ) ?_
  rintro aD aE aF w ⟨rfl, hB⟩
  replace hm := aC _ _ hB; clear hB
  exact gA rfl (gE (gS (gR (gM rfl (gA rfl (gE (gRt (gr1 results18 rfl ⟨rfl, hm.pk [0] rfl rfl⟩))))))))
theorem laws_heldIntS_ok (w0 : World) (a_ : List Int) (v1 : Value) (h1 : GT.rep (hp w0) [v1] a_) (k_ : Int) :
    ConM Tryz.prog 174 [v1, (nV k_)] w0 (laws_heldIntS a_ k_) fun r v w' => v = (nV r) ∧ Below w0.heap.size w0 w' := by
  unfold laws_heldIntS
  refine gcon func174 rfl fun r => ?_
  have hm := Mem.start w0
  refine gS (gR (gA rfl (gE (gS (gS (gR (gA rfl (gE (gBk (gNf hm (fun aA aB => [(0, v1), (1, (nV aB)), (5, (nV aA))]) (fun aA aB => []) [] rfl ?_ ?_))))))))))
  ·
   repeat clear hm
   intro aI aD aA aB w hm aJ aK aL aE
   refine gS (gS (gR (gM rfl (gM rfl ?_))))
   obtain ⟨aM, aN, rfl, aO⟩ := ro_slice h1
   refine gY (yV st_43 rfl) (gB rfl (gE (go _ 9 rfl (decide_eq_true (by omega)) (gct rfl (gSk (gS (gBk (gS (gS (gR (gM rfl (gM rfl (gg fun aF aG aC => ?_)))))))))))))
   obtain ⟨aP, aQ, aR, he⟩ := idx_form h1 aC
   obtain ⟨rfl, _, rfl⟩ := sl3 he
   refine gI st_43 aG (idx_lt aC) rfl (gY (yl isAgg3 ((flat_cells (cs := [(nV aF)]) (hm.now h1) aC rfl).cell (j := 0) rfl) rfl) (gM rfl (gB rfl (gE (gsd 17 rfl (fun aH => ?_) fun aH => ?_)))))
   ·
    exact gct rfl (gS (gR (gA rfl (gE (gRt (gLr aE aD (gr1 results174 rfl ⟨rfl, hm.below⟩)))))))
   exact gcf rfl (gSk (gR (gM rfl (gB rfl (gA rfl (gE (gR (gM rfl (gP (by omega) (by omega) rfl (gA rfl (gE (gze hm [] rfl))))))))))))
  repeat clear hm
  intro aS aT w hm aV aW
  refine gS (gS (gR (gM rfl (gM rfl ?_))))
  obtain ⟨aX, aY, rfl, aZ⟩ := ro_slice h1
  exact gY (yV st_43 rfl) (gB rfl (gE (go _ 9 rfl (decide_eq_false (by omega)) (gcf rfl (gXt (gHh (gS (gR (gM rfl (gA rfl (gE (gRt (gr1 results174 rfl ⟨rfl, hm.below⟩)))))))))))))
theorem laws_heldPhiS_ok (w0 : World) (a_ : List Phi_) (v1 : Value) (h1 : GT.rep (hp w0) [v1] a_) (k_ : Int) :
    ConM Tryz.prog 172 [v1, (nV k_)] w0 (laws_heldPhiS a_ k_) fun r v w' => v = (nV r) ∧ Below w0.heap.size w0 w' := by
  unfold laws_heldPhiS
  refine gcon func172 rfl fun r => ?_
  have hm := Mem.start w0
  refine gS (gR (gA rfl (gE (gS (gS (gR (gA rfl (gE (gBk (gNf hm (fun aC aA => [(0, v1), (1, (nV aA)), (5, (nV aC))]) (fun aC aA => []) [] rfl ?_ ?_))))))))))
  ·
   repeat clear hm
   intro aM aD aC aA w hm aN aO aP aE
   refine gS (gS (gR (gM rfl (gM rfl ?_))))
   obtain ⟨aQ, aR, rfl, aS⟩ := ro_slice h1
   refine gY (yV st_60 rfl) (gB rfl (gE (go _ 9 rfl (decide_eq_true (by omega)) (gct rfl (gSk (gS (gBk (gS (gS (gR (gM rfl (gM rfl (gg fun aH aF aB => ?_)))))))))))))
   obtain ⟨aT, aV, aW, he⟩ := idx_form' h1 aB
   obtain ⟨rfl, _, rfl⟩ := sl3 he
   obtain ⟨aI, aG, aJ⟩ := rk_Phi_ h1 aB
   refine gI st_60 aF (idx_lt aB) rfl (gF fo_127_0 rfl (gY (yl isAgg3 ((aG.mono hm.lez).cell (j := 0) rfl) rfl) (gM rfl (gB rfl (gE (gsd 18 rfl (fun aK => ?_) fun aK => ?_))))))
   ·
    exact gct rfl (gS (gR (gA rfl (gE (gRt (gLr aE aD (gr1 results172 rfl ⟨rfl, hm.below⟩)))))))
   refine gcf rfl (gSk (gS (gR (gM rfl (gB rfl (gA rfl (gE (gS (gR (gM rfl (gM rfl (gI st_60 aF (idx_lt aB) rfl (gF fo_127_1 rfl (gY (yl isAgg43 ((aG.mono hm.lez).cell (j := 1) rfl) rfl) (gM rfl (gC hm rfl call174 (laws_heldIntS_ok _ aH.args aI (hm.now aJ) (w64 (aA + 1))) fun aX aY w hm => gA rfl (gE (gS (gR (gM rfl (gB rfl (gE (gsd 29 rfl (fun aL => ?_) fun aL => ?_)))))))))))))))))))))))
   ·
    exact gct rfl (gS (gR (gA rfl (gE (gRt (gLr aE aD (gr1 results172 rfl ⟨rfl, hm.below⟩)))))))
   exact gcf rfl (gSk (gR (gM rfl (gP (by omega) (by omega) rfl (gA rfl (gE (gze hm [] rfl)))))))
  repeat clear hm
  intro aZ aa w hm ab ac
  refine gS (gS (gR (gM rfl (gM rfl ?_))))
  obtain ⟨ae, af, rfl, ah⟩ := ro_slice h1
  exact gY (yV st_60 rfl) (gB rfl (gE (go _ 9 rfl (decide_eq_false (by omega)) (gcf rfl (gXt (gHh (gS (gR (gM rfl (gA rfl (gE (gRt (gr1 results172 rfl ⟨rfl, hm.below⟩)))))))))))))
theorem laws_heldInsS_ok (w0 : World) (a_ : List Ins_) (v1 : Value) (h1 : GT.rep (hp w0) [v1] a_) (k_ : Int) :
    ConM Tryz.prog 173 [v1, (nV k_)] w0 (laws_heldInsS a_ k_) fun r v w' => v = (nV r) ∧ Below w0.heap.size w0 w' := by
  unfold laws_heldInsS
  refine gcon func173 rfl fun r => ?_
  have hm := Mem.start w0
  refine gS (gR (gA rfl (gE (gS (gS (gR (gA rfl (gE (gBk (gNf hm (fun aG aB => [(0, v1), (1, (nV aB)), (5, (nV aG))]) (fun aG aB => []) [] rfl ?_ ?_))))))))))
  ·
   repeat clear hm
   intro aO aC aG aB w hm aP aQ aR aD
   refine gS (gS (gR (gM rfl (gM rfl ?_))))
   obtain ⟨aS, aT, rfl, aV⟩ := ro_slice h1
   refine gY (yV st_61 rfl) (gB rfl (gE (go _ 9 rfl (decide_eq_true (by omega)) (gct rfl (gSk (gS (gBk (gS (gS (gR (gM rfl (gM rfl (gg fun aH aE aA => ?_)))))))))))))
   obtain ⟨aW, aX, aY, he⟩ := idx_form' h1 aA
   obtain ⟨rfl, _, rfl⟩ := sl3 he
   obtain ⟨aI, aF, aJ⟩ := rk_Ins_ h1 aA
   refine gI st_61 aE (idx_lt aA) rfl (gF fo_65_0 rfl (gY (yl isAgg3 ((aF.mono hm.lez).cell (j := 0) rfl) rfl) (gM rfl (gB rfl (gE (gsd 18 rfl (fun aK => ?_) fun aK => ?_))))))
   ·
    exact gct rfl (gS (gR (gA rfl (gE (gRt (gLr aD aC (gr1 results173 rfl ⟨rfl, hm.below⟩)))))))
   refine gcf rfl (gSk (gS (gR (gM rfl (gB rfl (gA rfl (gE (gS (gS (gR (gM rfl (gM rfl (gI st_61 aE (idx_lt aA) rfl (gF fo_65_1 rfl (gY (yl isAgg3 ((aF.mono hm.lez).cell (j := 1) rfl) rfl) (gM rfl (gB rfl (gE (gsd 27 rfl (fun aL => ?_) fun aL => ?_)))))))))))))))))))
   ·
    exact gct rfl (gS (gR (gA rfl (gE (gRt (gLr aD aC (gr1 results173 rfl ⟨rfl, hm.below⟩)))))))
   refine gcf rfl (gSk (gS (gR (gM rfl (gB rfl (gA rfl (gE (gS (gR (gM rfl (gM rfl (gI st_61 aE (idx_lt aA) rfl (gF fo_65_2 rfl (gY (yl isAgg43 ((aF.mono hm.lez).cell (j := 2) rfl) rfl) (gM rfl (gC hm rfl call174 (laws_heldIntS_ok _ aH.args aI (hm.now aJ) (w64 ((w64 (aB + 1)) + 1))) fun aZ aa w hm => gA rfl (gE (gS (gS (gR (gM rfl (gB rfl (gE (gsd 38 rfl (fun aM => ?_) fun aM => ?_))))))))))))))))))))))))
   ·
    exact gct rfl (gS (gR (gA rfl (gE (gRt (gLr aD aC (gr1 results173 rfl ⟨rfl, hm.below⟩)))))))
   refine gcf rfl (gSk (gS (gS (gR (gM rfl (gM rfl (gI st_61 aE (idx_lt aA) rfl (gF fo_65_3 rfl (gY (yl isAgg3 ((aF.mono hm.lez).cell (j := 3) rfl) rfl) (gM rfl (gB rfl (gE (gsd 45 rfl (fun aN => ?_) fun aN => ?_)))))))))))))
   ·
    exact gct rfl (gS (gR (gA rfl (gE (gRt (gLr aD aC (gr1 results173 rfl ⟨rfl, hm.below⟩)))))))
   exact gcf rfl (gSk (gR (gM rfl (gB rfl (gA rfl (gE (gR (gM rfl (gP (by omega) (by omega) rfl (gA rfl (gE (gze hm [] rfl))))))))))))
  repeat clear hm
  intro ab ac w hm ae af
  refine gS (gS (gR (gM rfl (gM rfl ?_))))
  obtain ⟨ah, ai, rfl, aj⟩ := ro_slice h1
  exact gY (yV st_61 rfl) (gB rfl (gE (go _ 9 rfl (decide_eq_false (by omega)) (gcf rfl (gXt (gHh (gS (gR (gM rfl (gA rfl (gE (gRt (gr1 results173 rfl ⟨rfl, hm.below⟩)))))))))))))
theorem laws_heldBlockS_ok (w0 : World) (a_ : List Block_) (v1 : Value) (h1 : GT.rep (hp w0) [v1] a_) (k_ : Int) :
    ConM Tryz.prog 105 [v1, (nV k_)] w0 (laws_heldBlockS a_ k_) fun r v w' => v = (nV r) ∧ Below w0.heap.size w0 w' := by
  unfold laws_heldBlockS
  refine gcon func105 rfl fun r => ?_
  have hm := Mem.start w0
  refine gS (gR (gA rfl (gE (gS (gS (gR (gA rfl (gE (gBk (gNf hm (fun aG aF => [(0, v1), (1, (nV aF)), (5, (nV aG))]) (fun aG aF => []) [] rfl ?_ ?_))))))))))
  ·
   repeat clear hm
   intro aW aB aG aF w hm aX aY aZ aC
   refine gS (gS (gR (gM rfl (gM rfl ?_))))
   obtain ⟨aa, ab, rfl, ac⟩ := ro_slice h1
   refine gY (yV st_47 rfl) (gB rfl (gE (go _ 9 rfl (decide_eq_true (by omega)) (gct rfl (gSk (gS (gBk (gS (gR (gM rfl (gM rfl (gg fun aH aD aA => ?_))))))))))))
   obtain ⟨ae, af, ah, he⟩ := idx_form' h1 aA
   obtain ⟨rfl, _, rfl⟩ := sl3 he
   obtain ⟨aI, aJ, aK, aE, aL, aM, aN⟩ := rk_Block_ h1 aA
   refine gI st_47 aD (idx_lt aA) rfl (gF fo_63_0 rfl (gY (yl isAgg60 ((aE.mono hm.lez).cell (j := 0) rfl) rfl) (gM rfl (gC hm rfl call172 (laws_heldPhiS_ok _ aH.phis aI (hm.now aL) aF) fun aO ai w hm => gA rfl (gE (gS (gS (gR (gM rfl (gB rfl (gE (gsd 20 rfl (fun aP => ?_) fun aP => ?_))))))))))))
   ·
    exact gct rfl (gS (gR (gA rfl (gE (gRt (gLr aC aB (gr1 results105 rfl ⟨rfl, hm.below⟩)))))))
   refine gcf rfl (gSk (gS (gR (gM rfl (gM rfl (gI st_47 aD (idx_lt aA) rfl (gF fo_63_1 rfl (gY (yl isAgg61 ((aE.mono hm.lez).cell (j := 1) rfl) rfl) (gM rfl (gC hm rfl call173 (laws_heldInsS_ok _ aH.ins aJ (hm.now aM) aO) fun aQ aj w hm => gA rfl (gE (gS (gS (gR (gM rfl (gB rfl (gE (gsd 29 rfl (fun aR => ?_) fun aR => ?_))))))))))))))))))
   ·
    exact gct rfl (gS (gR (gA rfl (gE (gRt (gLr aC aB (gr1 results105 rfl ⟨rfl, hm.below⟩)))))))
   refine gcf rfl (gSk (gS (gS (gR (gM rfl (gM rfl (gI st_47 aD (idx_lt aA) rfl (gF fo_63_2 rfl (gY (yl isAgg3 ((aE.mono hm.lez).cell (j := 2) rfl) rfl) (gM rfl (gB rfl (gE (gsd 36 rfl (fun aS => ?_) fun aS => ?_)))))))))))))
   ·
    exact gct rfl (gS (gR (gA rfl (gE (gRt (gLr aC aB (gr1 results105 rfl ⟨rfl, hm.below⟩)))))))
   refine gcf rfl (gSk (gS (gR (gM rfl (gB rfl (gA rfl (gE (gS (gS (gR (gM rfl (gM rfl (gI st_47 aD (idx_lt aA) rfl (gF fo_63_3 rfl (gY (yl isAgg3 ((aE.mono hm.lez).cell (j := 3) rfl) rfl) (gM rfl (gB rfl (gE (gsd 45 rfl (fun aT => ?_) fun aT => ?_)))))))))))))))))))
   ·
    exact gct rfl (gS (gR (gA rfl (gE (gRt (gLr aC aB (gr1 results105 rfl ⟨rfl, hm.below⟩)))))))
   refine gcf rfl (gSk (gS (gR (gM rfl (gB rfl (gA rfl (gE (gS (gR (gM rfl (gM rfl (gI st_47 aD (idx_lt aA) rfl (gF fo_63_4 rfl (gY (yl isAgg43 ((aE.mono hm.lez).cell (j := 4) rfl) rfl) (gM rfl (gC hm rfl call174 (laws_heldIntS_ok _ aH.next_ aK (hm.now aN) (w64 ((w64 (aQ + 1)) + 1))) fun ak al w hm => gA rfl (gE (gS (gR (gM rfl (gB rfl (gE (gsd 56 rfl (fun aV => ?_) fun aV => ?_)))))))))))))))))))))))
   ·
    exact gct rfl (gS (gR (gA rfl (gE (gRt (gLr aC aB (gr1 results105 rfl ⟨rfl, hm.below⟩)))))))
   exact gcf rfl (gSk (gR (gM rfl (gP (by omega) (by omega) rfl (gA rfl (gE (gze hm [] rfl)))))))
  repeat clear hm
  intro am an w hm ao ap
  refine gS (gS (gR (gM rfl (gM rfl ?_))))
  obtain ⟨aq, ar, rfl, au⟩ := ro_slice h1
  exact gY (yV st_47 rfl) (gB rfl (gE (go _ 9 rfl (decide_eq_false (by omega)) (gcf rfl (gXt (gHh (gS (gR (gM rfl (gA rfl (gE (gRt (gr1 results105 rfl ⟨rfl, hm.below⟩)))))))))))))
theorem laws_heldCodeS_ok (w0 : World) (a_ : List Code_) (v1 : Value) (h1 : GT.rep (hp w0) [v1] a_) (k_ : Int) :
    ConM Tryz.prog 54 [v1, (nV k_)] w0 (laws_heldCodeS a_ k_) fun r v w' => v = (nV r) ∧ Below w0.heap.size w0 w' := by
  unfold laws_heldCodeS
  refine gcon func54 rfl fun r => ?_
  have hm := Mem.start w0
  refine gS (gR (gA rfl (gE (gS (gS (gR (gA rfl (gE (gBk (gNf hm (fun aC aB => [(0, v1), (1, (nV aB)), (5, (nV aC))]) (fun aC aB => []) [] rfl ?_ ?_))))))))))
  ·
   repeat clear hm
   intro aN aD aC aB w hm aO aP aQ aE
   refine gS (gS (gR (gM rfl (gM rfl ?_))))
   obtain ⟨aR, aS, rfl, aT⟩ := ro_slice h1
   refine gY (yV st_26 rfl) (gB rfl (gE (go _ 9 rfl (decide_eq_true (by omega)) (gct rfl (gSk (gS (gBk (gS (gS (gR (gM rfl (gM rfl (gg fun aH aF aA => ?_)))))))))))))
   obtain ⟨aV, aW, aX, he⟩ := idx_form' h1 aA
   obtain ⟨rfl, _, rfl⟩ := sl3 he
   obtain ⟨aI, aG, aJ⟩ := rk_Code_ h1 aA
   refine gI st_26 aF (idx_lt aA) rfl (gF fo_49_0 rfl (gY (yl isAgg3 ((aG.mono hm.lez).cell (j := 0) rfl) rfl) (gM rfl (gB rfl (gE (gsd 18 rfl (fun aK => ?_) fun aK => ?_))))))
   ·
    exact gct rfl (gS (gR (gA rfl (gE (gRt (gLr aE aD (gr1 results54 rfl ⟨rfl, hm.below⟩)))))))
   refine gcf rfl (gSk (gS (gR (gM rfl (gB rfl (gA rfl (gE (gS (gS (gR (gM rfl (gM rfl (gI st_26 aF (idx_lt aA) rfl (gF fo_49_1 rfl (gY (yl isAgg3 ((aG.mono hm.lez).cell (j := 1) rfl) rfl) (gM rfl (gB rfl (gE (gsd 27 rfl (fun aL => ?_) fun aL => ?_)))))))))))))))))))
   ·
    exact gct rfl (gS (gR (gA rfl (gE (gRt (gLr aE aD (gr1 results54 rfl ⟨rfl, hm.below⟩)))))))
   refine gcf rfl (gSk (gS (gR (gM rfl (gB rfl (gA rfl (gE (gS (gR (gM rfl (gM rfl (gI st_26 aF (idx_lt aA) rfl (gF fo_49_2 rfl (gY (yl isAgg47 ((aG.mono hm.lez).cell (j := 2) rfl) rfl) (gM rfl (gC hm rfl call105 (laws_heldBlockS_ok _ aH.blocks aI (hm.now aJ) (w64 ((w64 (aB + 1)) + 1))) fun aY aZ w hm => gA rfl (gE (gS (gR (gM rfl (gB rfl (gE (gsd 38 rfl (fun aM => ?_) fun aM => ?_)))))))))))))))))))))))
   ·
    exact gct rfl (gS (gR (gA rfl (gE (gRt (gLr aE aD (gr1 results54 rfl ⟨rfl, hm.below⟩)))))))
   exact gcf rfl (gSk (gR (gM rfl (gP (by omega) (by omega) rfl (gA rfl (gE (gze hm [] rfl)))))))
  repeat clear hm
  intro aa ab w hm ac ae
  refine gS (gS (gR (gM rfl (gM rfl ?_))))
  obtain ⟨af, ah, rfl, ai⟩ := ro_slice h1
  exact gY (yV st_26 rfl) (gB rfl (gE (go _ 9 rfl (decide_eq_false (by omega)) (gcf rfl (gXt (gHh (gS (gR (gM rfl (gA rfl (gE (gRt (gr1 results54 rfl ⟨rfl, hm.below⟩)))))))))))))
theorem laws_heldUnit_ok (w0 : World) (a_ : Unit_) (v1 : Value) (h1 : GT.rep (hp w0) [v1] a_.codes) (k_ : Int) :
    ConM Tryz.prog 19 [(.agg #[v1]), (nV k_)] w0 (laws_heldUnit a_ k_) fun r v w' => v = (nV r) ∧ Below w0.heap.size w0 w' := by
  unfold laws_heldUnit
  refine gcon func19 rfl fun r => ?_
  have hm := Mem.start w0
  refine gS (gR (gBx hm rfl fun aB w hm => gA rfl (gE (gS (gR (gF fo_28_0 rfl (gL hm 0 isAgg26 rfl (gM rfl (gC hm rfl call54 (laws_heldCodeS_ok _ a_.codes v1 (hm.now h1) k_) fun aC aD w hm => gA rfl (gE (gS (gS (gR (gM rfl (gB rfl (gE (gsd 10 rfl (fun aA => ?_) fun aA => ?_)))))))))))))))))
  ·
   exact gct rfl (gS (gR (gA rfl (gE (gRt (gr1 results19 rfl ⟨rfl, hm.below⟩))))))
  exact gcf rfl (gSk (gS (gR (gM rfl (gA rfl (gE (gRt (gr1 results19 rfl ⟨rfl, hm.below⟩))))))))
theorem laws_FnExactDropIdle_ok (w0 : World) (aU : Unit_) (v1 : Value) (h1 : GT.rep (hp w0) [v1] aU.codes) :
    ConM Tryz.prog 7 [(.agg #[v1])] w0 (laws_FnExactDropIdle aU) fun r v w' => v = (.bool (r)) ∧ Below w0.heap.size w0 w' := by
  unfold laws_FnExactDropIdle
  refine gcon func7 rfl fun r => ?_
  have hm := Mem.start w0
  refine gS (gR (gBx hm rfl fun aG w hm => gA rfl (gE (gS (gR (gA rfl (gE (gS (gR (gY (yn (hm.blk_at 0 rfl) isAgg24 sizeOf24 rfl) (gM rfl (gC hm rfl call13 (laws_szUnit_ok _ aU v1 (hm.now h1) 1048576) fun au av w hm => gA rfl (gE (gS (gS (gR (gM rfl (gB rfl (gE (gsd 18 rfl (fun aQ => ?_) fun aQ => ?_))))))))))))))))))))
  ·
   exact gct rfl (gS (gR (gA rfl (gE (gRt (gr1 results7 rfl ⟨rfl, hm.below⟩))))))
  refine gcf rfl (gSk (gS (gR (gY (yn (hm.blk_at 0 rfl) isAgg24 sizeOf24 rfl) (gCg rfl call15 (laws_toUnit_ok _ aU v1 (hm.now h1)) ?_)))))
  rintro aR aw ax w ⟨aS, rfl, hB⟩
  replace hm := hm.give hB; clear hB
  refine gCg rfl call26 (spec_DropIdle_ok _ aR aS (hm.ow_rep 0 rfl)) ?_
  rintro aC ay az w ⟨aB, rfl, hB⟩
  replace hm := hm.give hB; clear hB
  refine gM rfl (gX rfl (gX rfl (gAl hm zeroValue28 rfl fun aH w hm => gSN hm 0 sizeOf28 (one_cons (rep_one (hm.ow_rep 1 rfl)) one_nil) rfl fun w hm => gA rfl (gE (gS (gR (gY (yn (hm.blk_at 3 rfl) isAgg24 sizeOf24 rfl) (gCg rfl call15 (laws_toUnit_ok _ aU v1 (hm.now h1)) ?_))))))))
  rintro aI bA bB w ⟨aD, rfl, hB⟩
  replace hm := hm.give hB; clear hB
  refine gAl hm zeroValue28 rfl fun aJ w hm => gSN hm 0 sizeOf28 (one_cons (rep_one (hm.ow_rep 1 rfl)) one_nil) rfl fun w hm => gE (gS (gR (gY (yn (hm.blk_at 0 rfl) isAgg28 sizeOf28 rfl) (gCg rfl call27 (impl_DropIdle_ok _ aI aD (hm.ow_rep 1 rfl)) ?_))))
  rintro aE bC bD w ⟨aA, rfl, hB⟩
  replace hm := hm.give hB; clear hB
  refine gM rfl (gX rfl (gX rfl (gAl hm zeroValue28 rfl fun aF w hm => gSN hm 0 sizeOf28 (one_cons (rep_one (hm.ow_rep 1 rfl)) one_nil) rfl fun w hm => gA rfl (gE (gS (gS (gJ hm (fun aK => [(1, (pV aG)), (4, (pV aH)), (5, (.bool (aC.2))), (6, (pV aJ)), (7, (pV aF)), (8, (.bool (aE.2))), (40, (.bool (aK)))]) (fun aK => [blk aG [v1] 24, blk aH [aB] 28, ow [aB] aC.1.codes, blk aJ [aD] 28, ow [aD] aI.codes, blk aF [aA] 28, ow [aA] aE.1.codes]) (fun aK => ?_) ?_)))))))
  ·
   refine gR (gY (yn (hm.blk_at 0 rfl) isAgg28 sizeOf28 rfl) (gY (yn (hm.blk_at 4 rfl) isAgg28 sizeOf28 rfl) (gC hm rfl call17 (laws_eqUnit_ok _ aE.1 aA (hm.ow_rep 1 rfl) aC.1 aB (hm.ow_rep 5 rfl)) fun bE bF w hm => gN rfl (gM rfl (gsn 36 rfl (fun aT => ?_) fun aT => ?_)))))
   ·
    exact gO rfl (gO rfl (gO rfl (gKt rfl (gE (gz hm [7, 4, 5, 2, 3, 0, 1] rfl)))))
   exact gM rfl (gM rfl (gY (yG rfl (y_neqb underlying4 rfl rfl rfl)) (gKf rfl (gE (gz hm [7, 4, 5, 2, 3, 0, 1] rfl)))))
  repeat clear hm
  intro aK w hm
  refine gs 40 rfl (fun aV => ?_) fun aV => ?_
  ·
   exact gct rfl (gS (gR (gA rfl (gE (gRt (gr1 results7 rfl ⟨rfl, hm.below⟩))))))
  refine gcf rfl (gSk (gS (gS (gW (.q 0 (.e 1 (.e 2 (.e 3 (.p 4 .fin) .nil) .nil) .nil)) [1, 2] [4] hm [0, 1, 2, 3, 4, 5, 6] [blk aG [v1] 24, blk aH [aB] 28, ow [aB] aC.1.codes, blk aJ [aD] 28, ow [aD] aI.codes, blk aF [aA] 28, ow [aA] aE.1.codes] rfl mxo (by kernel_rfl) (fun _ _ _ h => h.2) fun w hm hS => tQ rfl hS (fun w hm => yn (hm.blk_at 3 rfl) isAgg28 sizeOf28 rfl) (tO (tY rfl (yn (hm.blk_at 0 rfl) isAgg24 sizeOf24 rfl) (tAs hS (tO (gb fun aO aW => tf rfl rfl (fun a hf => e_call hf rfl call15 rfl (laws_toUnit_ok _ aU v1 (hm.now h1) _ aW)) ?_)))))))))
  rintro bG w ⟨aP, rfl, hB⟩
  replace hm := hm.give hB; clear hB
  refine tAk hm [1, 2, 3, 4, 5, 6, 7] rfl fun hS => tO (gb fun bH aX => tf rfl rfl (fun a hf => e_call hf rfl call17 rfl (laws_eqUnit_ok _ aI aD (hm.ow_rep 5 rfl) aO aP (hm.ow_rep 0 rfl) _ aX)) ?_)
  rintro bJ w ⟨rfl, hB⟩
  replace hm := hm.below' hB; clear hB
  refine tAn rfl (tP rfl (fun w => yN rfl) (tE (gsn 45 rfl (fun aY => ?_) fun aY => ?_)))
  ·
   exact gct rfl (gS (gR (gA rfl (gE (gRt (gr1 results7 rfl ⟨rfl, hm.below⟩))))))
  refine gcf rfl (gSk (gS (gR (gA rfl (gE (gS (gR (gY (yn (hm.blk_at 4 rfl) isAgg28 sizeOf28 rfl) (gM rfl ?_)))))))))
  obtain ⟨aZ, hle, hm1, hsub, aa⟩ := hm.take2 (L1 := [ow [aD] aI.codes]) (L2 := [ow [aP] aO.codes, blk aG [v1] 24, blk aH [aB] 28, ow [aB] aC.1.codes, blk aJ [aD] 28, blk aF [aA] 28, ow [aA] aE.1.codes]) [5] [0, 1, 2, 3, 4, 6, 7] (by decide) rfl rfl
  refine gCg rfl call18 (laws_markUnit_ok _ aZ aI aD 1 hm1 ) ?_
  rintro bK bL bM w ⟨rfl, hB⟩
  replace hm := aa _ _ hB; clear hB
  refine gA rfl (gE (gS (gS (gJ hm (fun aL => [(1, (pV aG)), (4, (pV aH)), (5, (.bool (aC.2))), (7, (pV aF)), (61, (.bool (aL)))]) (fun aL => [blk aG [v1] 24, blk aH [aB] 28, ow [aB] aC.1.codes, blk aF [aA] 28, ow [aA] aE.1.codes]) (fun aL => ?_) ?_))))
  ·
   refine gR (gM rfl (gB rfl (gM rfl (gsd 51 rfl (fun ab => ?_) fun ab => ?_))))
   ·
    exact gO rfl (gO rfl (gO rfl (gO rfl (gKt rfl (gM rfl (gO rfl (gO rfl (gO rfl (gKt rfl (gE (gz hm [2, 3, 4, 6, 7] rfl)))))))))))
   refine gY (yn (hm.blk_at 6 rfl) isAgg28 sizeOf28 rfl) (gY (yn (hm.blk_at 3 rfl) isAgg28 sizeOf28 rfl) (gC hm rfl call17 (laws_eqUnit_ok _ aE.1 aA (hm.ow_rep 7 rfl) aC.1 aB (hm.ow_rep 4 rfl)) fun bN bO w hm => gN rfl (gKf rfl (gM rfl (gsn 57 rfl (fun ac => ?_) fun ac => ?_)))))
   ·
    exact gO rfl (gO rfl (gO rfl (gKt rfl (gE (gz hm [2, 3, 4, 6, 7] rfl)))))
   exact gM rfl (gM rfl (gY (yG rfl (y_neqb underlying4 rfl rfl rfl)) (gKf rfl (gE (gz hm [2, 3, 4, 6, 7] rfl)))))
  repeat clear hm
  intro aL w hm
  refine gs 61 rfl (fun ae => ?_) fun ae => ?_
  ·
   exact gct rfl (gS (gR (gA rfl (gE (gRt (gr1 results7 rfl ⟨rfl, hm.below⟩))))))
  refine gcf rfl (gSk (gS (gR (gA rfl (gE (gS (gR (gY (yn (hm.blk_at 3 rfl) isAgg28 sizeOf28 rfl) (gM rfl ?_)))))))))
  obtain ⟨af, hle, hm1, hsub, ah⟩ := hm.take2 (L1 := [ow [aA] aE.1.codes]) (L2 := [blk aG [v1] 24, blk aH [aB] 28, ow [aB] aC.1.codes, blk aF [aA] 28]) [4] [0, 1, 2, 3] (by decide) rfl rfl
  refine gCg rfl call18 (laws_markUnit_ok _ af aE.1 aA 1 hm1 ) ?_
  rintro aM bP bQ w ⟨rfl, hB⟩
  replace hm := ah _ _ hB; clear hB
  refine gA rfl (gE (gS (gR (gA rfl (gE (gS (gR (gY (yn (hm.blk_at 4 rfl) isAgg28 sizeOf28 rfl) (gM rfl (gC hm rfl call19 (laws_heldUnit_ok _ (⟨aM.2⟩ : Unit_) aA (hm.ow_rep 0 rfl) 1) fun bR bS w hm => gA rfl (gE (gS (gS (gR (gM rfl (gB rfl (gE (gsd 69 rfl (fun ai => ?_) fun ai => ?_))))))))))))))))))
  ·
   exact gct rfl (gS (gR (gA rfl (gE (gRt (gr1 results7 rfl ⟨rfl, hm.below⟩))))))
  refine gcf rfl (gSk (gS (gS (gR (gM rfl (gM rfl (gB rfl (gE (gsd 72 rfl (fun aj => ?_) fun aj => ?_)))))))))
  ·
   exact gct rfl (gS (gR (gA rfl (gE (gRt (gr1 results7 rfl ⟨rfl, hm.below⟩))))))
  refine gcf rfl (gSk (gS (gR (gY (yn (hm.blk_at 1 rfl) isAgg24 sizeOf24 rfl) (gCg rfl call15 (laws_toUnit_ok _ aU v1 (hm.now h1)) ?_)))))
  rintro ak bT bU w ⟨al, rfl, hB⟩
  replace hm := hm.give hB; clear hB
  refine gCg rfl call27 (impl_DropIdle_ok _ ak al (hm.ow_rep 0 rfl)) ?_
  rintro am bV bW w ⟨an, rfl, hB⟩
  replace hm := hm.give hB; clear hB
  refine gM rfl (gX rfl (gX rfl (gAl hm zeroValue28 rfl fun bX w hm => gSN hm 0 sizeOf28 (one_cons (rep_one (hm.ow_rep 1 rfl)) one_nil) rfl fun w hm => gA rfl (gE (gS (gS (gJ hm (fun aN => [(7, (pV aF)), (10, (nV aM.1)), (87, (.bool (aN)))]) (fun aN => [blk aF [aA] 28, ow [aA] aM.2]) (fun aN => ?_) ?_)))))))
  ·
   refine gR (gY (yn (hm.blk_at 0 rfl) isAgg28 sizeOf28 rfl) (gY (yn (hm.blk_at 5 rfl) isAgg28 sizeOf28 rfl) (gC hm rfl call17 (laws_eqUnit_ok _ am.1 an (hm.ow_rep 1 rfl) aC.1 aB (hm.ow_rep 6 rfl)) fun bY bZ w hm => gN rfl (gM rfl (gsn 83 rfl (fun ao => ?_) fun ao => ?_)))))
   ·
    exact gO rfl (gO rfl (gO rfl (gKt rfl (gE (gz hm [7, 3] rfl)))))
   exact gM rfl (gM rfl (gY (yG rfl (y_neqb underlying4 rfl rfl rfl)) (gKf rfl (gE (gz hm [7, 3] rfl)))))
  repeat clear hm
  intro aN w hm
  refine gs 87 rfl (fun ap => ?_) fun ap => ?_
  ·
   exact gct rfl (gS (gR (gA rfl (gE (gRt (gr1 results7 rfl ⟨rfl, hm.below⟩))))))
  refine gcf rfl (gSk (gS (gR (gA rfl (gE (gS (gR (gY (yn (hm.blk_at 0 rfl) isAgg28 sizeOf28 rfl) (gM rfl (gC hm rfl call19 (laws_heldUnit_ok _ (⟨aM.2⟩ : Unit_) aA (hm.ow_rep 1 rfl) 1) fun b6 b8 w hm => gA rfl (gE (gS (gS (gR (gM rfl (gB rfl (gE (gsd 92 rfl (fun aq => ?_) fun aq => ?_))))))))))))))))))
  ·
   exact gct rfl (gS (gR (gA rfl (gE (gRt (gr1 results7 rfl ⟨rfl, hm.below⟩))))))
  refine gcf rfl (gSk (gS (gS (gR (gM rfl (gM rfl (gB rfl (gE (gsd 95 rfl (fun ar => ?_) fun ar => ?_)))))))))
  ·
   exact gct rfl (gS (gR (gA rfl (gE (gRt (gr1 results7 rfl ⟨rfl, hm.below⟩))))))
  exact gcf rfl (gSk (gS (gR (gA rfl (gE (gRt (gr1 results7 rfl ⟨rfl, hm.below⟩)))))))
end Go.Proofs.YtabgclojkbijbaaGreat
