/- A part of the proof of FnTightRunsSaid. -/
import Derived.Test.YtabgclojkbijbaaTiWalksA
namespace Go.Proofs.Ytabgclojkbijbaa
open Go Go.Wk Go.RowKit
set_option maxRecDepth 4000
set_option maxHeartbeats 4000000
open Try
theorem impl_insOk_ok (w0 : World) (u : Unit_) (v1 : Value) (h1 : GT.rep (hp w0) [v1] u.codes) (k_ : Int) (x_ : Ins_) (v2 : Value) (h2 : GT.rep (hp w0) [v2] x_.args) :
    ConM Try.prog 68 [(.agg #[v1]), (nV k_), (.agg #[(nV x_.op), (nV x_.to), v2, (nV x_.n_)])] w0 (impl_insOk u k_ x_) fun r v w' => v = (.bool (r)) ∧ Below w0.heap.size w0 w' := by
  unfold impl_insOk
  refine gcon func68 rfl fun r => ?_
  have hm := Mem.start w0
  refine gS (gR (gBx hm rfl fun aA w hm => gBx hm rfl fun aB w hm => gA rfl (gE (gS (gR (gF fo_25_0 rfl (gL hm 1 isAgg23 rfl (gM rfl (gg fun aC aR aN => ?_)))))))))
  obtain ⟨aF, aG, aH, he⟩ := idx_form' h1 aN
  subst he
  obtain ⟨aO, aS, aP⟩ := rk_Code_ h1 aN
  refine gI st_23 aR (idx_lt aN) rfl (gY (yn (aS.mono hm.lez) isAgg59 sizeOf59 rfl) (gAl hm zeroValue59 rfl fun aD w hm => gSN hm 0 sizeOf59 (one_cons rfl (one_cons rfl (one_cons (rep_one aP) one_nil))) rfl fun w hm => gE (gS (gR (gY (yU rfl) (gAl hm zeroValue96 rfl fun aE w hm => gS1 hm 0 sizeOf96 rfl rfl fun w hm => gE (gS (gS (gJ hm (fun aI => [(1, (nV k_)), (3, (pV aA)), (5, (pV aB)), (8, (pV aE)), (24, (.bool (aI)))]) (fun aI => [blk aA [(sV aF aG u.codes.length aH)] 25, blk aB [(nV x_.op), (nV x_.to), v2, (nV x_.n_)] 75, blk aE [(.func (.func 88) #[] #[(pV aD)])] 96, blk aD [(nV aC.params), (nV aC.regs), aO] 59]) (fun aI => ?_) ?_)))))))))
  ·
   refine gR (gF fo_75_0 rfl (gL hm 2 isAgg3 rfl (gC hm rfl call89 (impl_isIns_ok _ x_.op) fun al am w hm => gN rfl (gM rfl (gsn 19 rfl (fun aT => ?_) fun aT => ?_)))))
   ·
    exact gO rfl (gO rfl (gO rfl (gO rfl (gKt rfl (gE (gz hm [3, 2, 0, 1] rfl))))))
   exact gF fo_75_2 rfl (gL hm 2 isAgg26 rfl (gY (yU rfl) (gC hm rfl call48 (slices_ContainsFunc_S_int_int_ok _ x_.args v2 (hm.now h2) (fun y0 => impl_insOk_2 y0 aC) (.func (.func 90) #[] #[(pV aE)]) (fun w y0 r hB hq => ⟨90, [(pV aE)], rfl, call90, impl_insOk_2_ok w y0 aC aO (rep_later (hm.now aP) hB) aD (hm.blk_later 1 rfl hB) aE (hm.blk_later 0 rfl hB) r hq⟩)) fun an ao w hm => gKf rfl (gE (gz hm [3, 2, 0, 1] rfl)))))
  repeat clear hm
  intro aI w hm
  refine gs 24 rfl (fun aU => ?_) fun aU => ?_
  ·
   exact gct rfl (gS (gR (gA rfl (gE (gRt (gr1 results68 rfl ⟨rfl, hm.below⟩))))))
  refine gcf rfl (gSk (gS (gS (gJ hm (fun aJ => [(1, (nV k_)), (3, (pV aA)), (5, (pV aB)), (45, (.bool (aJ)))]) (fun aJ => [blk aA [(sV aF aG u.codes.length aH)] 25, blk aB [(nV x_.op), (nV x_.to), v2, (nV x_.n_)] 75]) (fun aJ => ?_) ?_))))
  ·
   refine gR (gF fo_75_0 rfl (gL hm 1 isAgg3 rfl (gC hm rfl call72 (impl_sets_ok _ x_.op) fun aq ar w hm => gM rfl (gs 28 rfl (fun aV => ?_) fun aV => ?_))))
   ·
    refine gL hm 2 isAgg96 rfl (gF fo_75_1 rfl (gL hm 1 isAgg3 rfl (gb fun au aW => gf rfl (fun a hf => e_callv hf rfl rfl rfl ⟨88, [(pV aD)], rfl, call88, impl_insOk_1_ok _ x_.to aC aO (rep_later (hm.now aP) (Below.refl _ _)) aD (hm.blk_later 3 rfl (Below.refl _ _)) _ aW⟩) ?_)))
    rintro av w ⟨rfl, hB⟩
    replace hm := hm.below' hB; clear hB
    refine gN rfl (gKt rfl (gM rfl (gsn 35 rfl (fun aX => ?_) fun aX => ?_)))
    ·
     exact gO rfl (gO rfl (gO rfl (gO rfl (gO rfl (gO rfl (gO rfl (gO rfl (gO rfl (gKt rfl (gE (gz hm [0, 1] rfl)))))))))))
    refine gF fo_75_0 rfl (gL hm 1 isAgg3 rfl (gC hm rfl call72 (impl_sets_ok _ x_.op) fun aw ax w hm => gN rfl (gM rfl (gsn 40 rfl (fun aY => ?_) fun aY => ?_))))
    ·
     exact gF fo_75_1 rfl (gL hm 1 isAgg3 rfl (gB rfl (gKt rfl (gKf rfl (gE (gz hm [0, 1] rfl))))))
    exact gO rfl (gO rfl (gO rfl (gKf rfl (gKf rfl (gE (gz hm [0, 1] rfl))))))
   refine gO rfl (gO rfl (gO rfl (gO rfl (gO rfl (gKf rfl (gM rfl (gF fo_75_0 rfl (gL hm 1 isAgg3 rfl (gC hm rfl call72 (impl_sets_ok _ x_.op) fun ay az w hm => gN rfl (gM rfl (gsn 40 rfl (fun aZ => ?_) fun aZ => ?_)))))))))))
   ·
    exact gF fo_75_1 rfl (gL hm 1 isAgg3 rfl (gB rfl (gKt rfl (gKf rfl (gE (gz hm [0, 1] rfl))))))
   exact gO rfl (gO rfl (gO rfl (gKf rfl (gKf rfl (gE (gz hm [0, 1] rfl))))))
  repeat clear hm
  intro aJ w hm
  refine gs 45 rfl (fun aa => ?_) fun aa => ?_
  ·
   exact gct rfl (gS (gR (gA rfl (gE (gRt (gr1 results68 rfl ⟨rfl, hm.below⟩))))))
  refine gcf rfl (gSk (gS (gS (gR (gF fo_75_0 rfl (gL hm 1 isAgg3 rfl (gE (gBk (gS (gR (gB rfl (gA rfl (gE (gsd 48 rfl (fun ab => ?_) fun ab => ?_))))))))))))))
  ·
   refine gct rfl (gS (gJ hm (fun aK => [(6, (.bool (aK)))]) (fun aK => []) (fun aK => ?_) ?_))
   ·
    refine gR (gF fo_75_2 rfl (gL hm 1 isAgg26 rfl ?_))
    obtain ⟨bA, bB, rfl, bC⟩ := ro_slice h2
    refine gY (yV st_26 rfl) (gB rfl (gM rfl (gsd 54 rfl (fun ac => ?_) fun ac => ?_)))
    ·
     exact gF fo_75_3 rfl (gL hm 1 isAgg3 rfl (gC hm rfl call50 (impl_isByte_ok _ x_.n_) fun bD bE w hm => gKt rfl (gA rfl (gE (gz hm [] rfl)))))
    exact gO rfl (gO rfl (gO rfl (gKf rfl (gA rfl (gE (gz hm [] rfl))))))
   repeat clear hm
   intro aK w hm
   exact gRt (gr1 results68 rfl ⟨rfl, hm.below⟩)
  refine gcf rfl (gS (gR (gB rfl (gA rfl (gE (gsd 59 rfl (fun ae => ?_) fun ae => ?_))))))
  ·
   refine gct rfl (gS (gJ hm (fun aL => [(6, (.bool (aL)))]) (fun aL => []) (fun aL => ?_) ?_))
   ·
    refine gW (.p 0 (.p 2 (.p 3 (.e 1 (.e 4 (.p 5 (.p 6 (.p 9 (.p 11 (.q 7 (.p 8 (.q 10 (.e 12 (.p 13 (.p 14 (.e 15 (.p 16 (.p 17 (.p 18 .fin))) .nil))) .nil)))))))) .nil) .nil)))) [7, 10, 12, 15] [0, 2, 3, 5, 6, 8, 9, 11, 13, 14, 16, 17, 18] hm [0, 1] [blk aA [(sV aF aG u.codes.length aH)] 25, blk aB [(nV x_.op), (nV x_.to), v2, (nV x_.n_)] 75] rfl mxo (by kernel_rfl) (fun _ _ _ h => h.2) fun w hm hS => tP rfl (fun w => yF fo_75_3 rfl) (tP rfl (fun w => yM rfl) (tP rfl (fun w => yB rfl) (tO (tY rfl (yL hm 1 isAgg3 rfl) (tAn rfl (tO (gb fun bF af => tf rfl rfl (fun a hf => e_call hf rfl call32 rfl (impl_within_ok _ x_.n_ 0 (w64 (k_ - 1)) _ af)) ?_)))))))
    rintro bG w ⟨rfl, hB⟩
    replace hm := hm.below' hB; clear hB
    refine tAk hm [0, 1] rfl fun hS => tP rfl (fun w => yM rfl) (gs 66 rfl (fun ag => ?_) fun ag => ?_)
    ·
     refine tP rfl (fun w => yF fo_75_2 rfl) (tP rfl (fun w => yF fo_25_0 rfl) (tP rfl (fun w => yF fo_75_3 rfl) (tQ rfl hS (fun w hm => yL hm 1 isAgg26 rfl) ?_)))
     obtain ⟨bH, bJ, rfl, bK⟩ := ro_slice h2
     refine tP rfl (fun w => yV st_26 rfl) (tQ rfl hS (fun w hm => yL hm 0 isAgg23 rfl) (tO (tY rfl (yL hm 1 isAgg3 rfl) (tAs hS (gg fun bL ah aQ => ?_)))))
     obtain ⟨bM, ai, bN⟩ := rk_Code_ h1 aQ
     exact tP rfl (fun w => yI st_23 ah (idx_lt aQ) rfl) (tP rfl (fun w => yF fo_59_0 rfl) (tO (tY rfl (yl isAgg3 ((ai.mono hm.lez).cell (j := 0) rfl) rfl) (tAs hS (tP rfl (fun w => yB rfl) (tP rfl (fun w => yKt rfl) (tP rfl (fun w => yA rfl) (tE (gz hm [] rfl)))))))))
    exact tPo rfl rfl (tPo rfl rfl (tPo rfl rfl (tQo rfl hS rfl (tPo rfl rfl (tQo rfl hS rfl (tO (tEo rfl rfl (tAs hS (tPo rfl rfl (tPo rfl rfl (tO (tEo rfl rfl (tAs hS (tPo rfl rfl (tP rfl (fun w => yKf rfl) (tP rfl (fun w => yA rfl) (tE (gz hm [] rfl))))))))))))))))))
   repeat clear hm
   intro aL w hm
   exact gRt (gr1 results68 rfl ⟨rfl, hm.below⟩)
  refine gcf rfl (gSk (gS (gJ hm (fun aM => [(6, (.bool (aM)))]) (fun aM => []) (fun aM => ?_) ?_)))
  ·
   refine gW (.p 0 (.e 1 (.p 2 (.p 3 (.p 4 (.p 7 (.q 5 (.p 6 (.e 8 (.e 9 (.p 10 (.p 11 (.p 12 .fin))) .nil) .nil))))))) .nil)) [8, 9] [0, 2, 3, 4, 6, 7, 10, 11, 12] hm [0, 1] [blk aA [(sV aF aG u.codes.length aH)] 25, blk aB [(nV x_.op), (nV x_.to), v2, (nV x_.n_)] 75] rfl mxo (by kernel_rfl) (fun _ _ _ h => h.2) fun w hm hS => tP rfl (fun w => yF fo_75_3 rfl) (tO (tY rfl (yL hm 1 isAgg3 rfl) (tAn rfl (tP rfl (fun w => yB rfl) (tP rfl (fun w => yM rfl) (gsd 82 rfl (fun aj => ?_) fun aj => ?_))))))
   ·
    refine tP rfl (fun w => yF fo_75_2 rfl) (tP rfl (fun w => yF fo_75_0 rfl) (tQ rfl hS (fun w hm => yL hm 1 isAgg26 rfl) ?_))
    obtain ⟨bO, bP, rfl, bQ⟩ := ro_slice h2
    refine tP rfl (fun w => yV st_26 rfl) (tO (tY rfl (yL hm 1 isAgg3 rfl) (tAs hS (tO (gb fun bR ak => tf rfl rfl (fun a hf => e_call hf rfl call91 rfl (impl_insArgs_ok _ x_.op _ ak)) ?_)))))
    rintro bS w ⟨rfl, hB⟩
    replace hm := hm.below' hB; clear hB
    exact tAk hm [0, 1] rfl fun hS => tP rfl (fun w => yB rfl) (tP rfl (fun w => yKt rfl) (tP rfl (fun w => yA rfl) (tE (gz hm [] rfl))))
   exact tPo rfl rfl (tPo rfl rfl (tQo rfl hS rfl (tPo rfl rfl (tO (tEo rfl rfl (tAs hS (tO (tEo rfl rfl (tAs hS (tPo rfl rfl (tP rfl (fun w => yKf rfl) (tP rfl (fun w => yA rfl) (tE (gz hm [] rfl))))))))))))))
  repeat clear hm
  intro aM w hm
  exact gRt (gr1 results68 rfl ⟨rfl, hm.below⟩)
theorem impl_codeOk_3_ok (w0 : World) (i_ : Ins_) (v1 : Value) (h1 : GT.rep (hp w0) [v1] i_.args) (c0_ : Unit_) (v2 : Value) (h2 : GT.rep (hp w0) [v2] c0_.codes) (bf0 : Nat) (hbf0 : w0.heap[bf0]? = some (.cells ([v2] : List Value).toArray 25 (0, 0))) (c1_ : Int) (bf1 : Nat) (hbf1 : w0.heap[bf1]? = some (.cells ([(nV c1_)] : List Value).toArray 3 (0, 0))) :
    ConM Try.prog 67 [(.agg #[(nV i_.op), (nV i_.to), v1, (nV i_.n_)]), (pV bf0), (pV bf1)] w0 (impl_codeOk_3 i_ c0_ c1_) fun r v w' => v = (.bool (r)) ∧ Below w0.heap.size w0 w' := by
  unfold impl_codeOk_3
  refine gcon func67 rfl fun r => ?_
  have hm := Mem.start w0
  exact gS (gR (gBx hm rfl fun aA w hm => gA rfl (gE (gS (gR (gY (yn (hm.old_at hbf0) isAgg25 sizeOf25 rfl) (gY (yl isAgg3 (hm.old_cell hbf1 rfl) rfl) (gY (yn (hm.blk_at 0 rfl) isAgg75 sizeOf75 rfl) (gC hm rfl call68 (impl_insOk_ok _ c0_ v2 (hm.now h2) c1_ i_ v1 (hm.now h1)) fun aB aC w hm => gN rfl (gA rfl (gE (gRt (gr1 results67 rfl ⟨rfl, hm.below⟩)))))))))))))
theorem slices_IndexFunc_S_impl_Ins_impl_Ins_ok (w0 : World) (s_ : List Ins_) (v1 : Value) (h1 : GT.rep (hp w0) [v1] s_) (f : Ins_ → Option Bool) (fv1 : Value) (hfn1 : ∀ (w : World) (y0 : Ins_) (z1 : Value) (_ : GT.rep (hp w) [z1] y0.args) (r : Bool), Below w0.heap.size w0 w → f y0 = some r → FnOk Try.prog fv1 [(.agg #[(nV y0.op), (nV y0.to), z1, (nV y0.n_)])] w (fun v w' => v = (.bool (r)) ∧ Below w.heap.size w w')) :
    ConM Try.prog 87 [v1, fv1] w0 (slices_IndexFunc_S_impl_Ins_impl_Ins s_ f) fun r v w' => v = (nV r) ∧ Below w0.heap.size w0 w' := by
  unfold slices_IndexFunc_S_impl_Ins_impl_Ins
  refine gcon func87 rfl fun r => ?_
  have hm := Mem.start w0
  refine gS (gR (gA rfl (gE (gS (gS (gR (gM rfl ?_)))))))
  obtain ⟨aD, aE, rfl, aO⟩ := ro_slice h1
  refine gY (yV st_69 rfl) (gM rfl (gE (gBk (gNf hm (fun aA aC => [(0, (.slice aD s_.length aE)), (1, fv1), (7, (nV ((s_.length : Int)))), (8, (nV aA))]) (fun aA aC => []) [] rfl ?_ ?_))))
  ·
   repeat clear hm
   intro aP aF aA aC w hm aQ aR aS aG
   refine gS (gR (gB rfl (gE (gS (go _ 9 rfl (decide_eq_true (by omega)) (gct rfl (gSk (gS (gBk (gS (gR (gM rfl (gA rfl (gE (gS (gR (gM rfl (gM rfl (gM rfl (gg fun aH aI aB => ?_))))))))))))))))))))
   obtain ⟨aT, aU, aV, he⟩ := idx_form' h1 aB
   obtain ⟨rfl, _, rfl⟩ := sl3 he
   obtain ⟨aJ, aK, aL⟩ := rk_Ins_ h1 aB
   refine gI st_69 aI (idx_lt aB) rfl (gY (yn (aK.mono hm.lez) isAgg75 sizeOf75 rfl) (gb fun aW aM => gf rfl (fun a hf => e_callv hf rfl rfl rfl (hfn1 _ aH aJ (hm.now aL) _ hm.below aM)) ?_))
   rintro aX w ⟨rfl, hB⟩
   replace hm := hm.below' hB; clear hB
   refine gE (gs 16 rfl (fun aN => ?_) fun aN => ?_)
   ·
    exact gct rfl (gS (gR (gM rfl (gA rfl (gE (gRt (gLr aG aF (gr1 results87 rfl ⟨rfl, hm.below⟩))))))))
   exact gcf rfl (gSk (gR (gP (by omega) (by omega) rfl (gM rfl (gE (gze hm [] rfl))))))
  repeat clear hm
  intro aY aZ w hm aa ab
  exact gS (gR (gB rfl (gE (gS (go _ 9 rfl (decide_eq_false (by omega)) (gcf rfl (gXt (gHh (gS (gR (gA rfl (gE (gRt (gr1 results87 rfl ⟨rfl, hm.below⟩))))))))))))))
theorem slices_ContainsFunc_S_impl_Ins_impl_Ins_ok (w0 : World) (s_ : List Ins_) (v1 : Value) (h1 : GT.rep (hp w0) [v1] s_) (f : Ins_ → Option Bool) (fv1 : Value) (hfn1 : ∀ (w : World) (y0 : Ins_) (z1 : Value) (_ : GT.rep (hp w) [z1] y0.args) (r : Bool), Below w0.heap.size w0 w → f y0 = some r → FnOk Try.prog fv1 [(.agg #[(nV y0.op), (nV y0.to), z1, (nV y0.n_)])] w (fun v w' => v = (.bool (r)) ∧ Below w.heap.size w w')) :
    ConM Try.prog 66 [v1, fv1] w0 (slices_ContainsFunc_S_impl_Ins_impl_Ins s_ f) fun r v w' => v = (.bool (r)) ∧ Below w0.heap.size w0 w' := by
  unfold slices_ContainsFunc_S_impl_Ins_impl_Ins
  refine gcon func66 rfl fun r => ?_
  have hm := Mem.start w0
  exact gS (gR (gA rfl (gE (gS (gR (gM rfl (gM rfl (gC hm rfl call87 (slices_IndexFunc_S_impl_Ins_impl_Ins_ok _ s_ v1 (hm.now h1) f fv1 (fun w y0 aA aB r hB hq => hfn1 w y0 aA aB r (hm.below.trans (hB.mono hm.below.size)) hq)) fun aC aD w hm => gB rfl (gA rfl (gE (gRt (gr1 results66 rfl ⟨rfl, hm.below⟩))))))))))))
theorem slices_Index_S_int_int_ok (w0 : World) (s_ : List Int) (v1 : Value) (h1 : GT.rep (hp w0) [v1] s_) (v_ : Int) :
    ConM Try.prog 52 [v1, (nV v_)] w0 (slices_Index_S_int_int s_ v_) fun r v w' => v = (nV r) ∧ Below w0.heap.size w0 w' := by
  unfold slices_Index_S_int_int
  refine gcon func52 rfl fun r => ?_
  have hm := Mem.start w0
  refine gS (gR (gA rfl (gE (gS (gS (gR (gM rfl ?_)))))))
  obtain ⟨aD, aE, rfl, aK⟩ := ro_slice h1
  refine gY (yV st_26 rfl) (gM rfl (gE (gBk (gNf hm (fun aA aC => [(0, (.slice aD s_.length aE)), (1, (nV v_)), (7, (nV ((s_.length : Int)))), (8, (nV aA))]) (fun aA aC => []) [] rfl ?_ ?_))))
  ·
   repeat clear hm
   intro aL aF aA aC w hm aM aN aO aG
   refine gS (gR (gB rfl (gE (gS (go _ 9 rfl (decide_eq_true (by omega)) (gct rfl (gSk (gS (gBk (gS (gR (gM rfl (gA rfl (gE (gS (gR (gM rfl (gM rfl (gM rfl (gg fun aH aI aB => ?_))))))))))))))))))))
   obtain ⟨aP, aQ, aR, he⟩ := idx_form h1 aB
   obtain ⟨rfl, _, rfl⟩ := sl3 he
   refine gI st_26 aI (idx_lt aB) rfl (gY (yl isAgg3 ((flat_cells (cs := [(nV aH)]) (hm.now h1) aB rfl).cell (j := 0) rfl) rfl) (gB rfl (gE (gsd 16 rfl (fun aJ => ?_) fun aJ => ?_))))
   ·
    exact gct rfl (gS (gR (gM rfl (gA rfl (gE (gRt (gLr aG aF (gr1 results52 rfl ⟨rfl, hm.below⟩))))))))
   exact gcf rfl (gSk (gR (gP (by omega) (by omega) rfl (gM rfl (gE (gze hm [] rfl))))))
  repeat clear hm
  intro aS aT w hm aU aV
  exact gS (gR (gB rfl (gE (gS (go _ 9 rfl (decide_eq_false (by omega)) (gcf rfl (gXt (gHh (gS (gR (gA rfl (gE (gRt (gr1 results52 rfl ⟨rfl, hm.below⟩))))))))))))))
theorem slices_Contains_S_int_int_ok (w0 : World) (s_ : List Int) (v1 : Value) (h1 : GT.rep (hp w0) [v1] s_) (v_ : Int) :
    ConM Try.prog 77 [v1, (nV v_)] w0 (slices_Contains_S_int_int s_ v_) fun r v w' => v = (.bool (r)) ∧ Below w0.heap.size w0 w' := by
  unfold slices_Contains_S_int_int
  refine gcon func77 rfl fun r => ?_
  have hm := Mem.start w0
  exact gS (gR (gA rfl (gE (gS (gR (gM rfl (gM rfl (gC hm rfl call52 (slices_Index_S_int_int_ok _ s_ v1 (hm.now h1) v_) fun aA aB w hm => gB rfl (gA rfl (gE (gRt (gr1 results77 rfl ⟨rfl, hm.below⟩))))))))))))
theorem impl_PredsOf_ok (w0 : World) (c_ : Code_) (v1 : Value) (h1 : GT.rep (hp w0) [v1] c_.blocks) (b_ : Int) :
    ConM Try.prog 53 [(.agg #[(nV c_.params), (nV c_.regs), v1]), (nV b_)] w0 (impl_PredsOf c_ b_) fun r v w' => ∃ (x1 : Value), v = x1 ∧ Mem w0 (hp w0) w' [ow [x1] r] := by
  unfold impl_PredsOf
  refine gcon func53 rfl fun r => ?_
  have hm := Mem.start w0
  refine gS (gR (gBx hm rfl fun aa w hm => gA rfl (gE (gS (gR (gA rfl (gE (gS (gS (gR (gM rfl (gF fo_59_2 rfl (gL hm 0 isAgg57 rfl ?_)))))))))))))
  obtain ⟨aI, aE, rfl, ab⟩ := ro_slice h1
  refine gY (yV st_57 rfl) (gY (yS (by omega) (by omega) rfl) (gC hm rfl call32 (impl_within_ok _ b_ 0 (((c_.blocks.length : Int)) - 1)) fun ac ae w hm => gN rfl (gE (gsn 14 rfl (fun aL => ?_) fun aL => ?_))))
  ·
   refine gct rfl (gS (gR (gA rfl (gE (gRt ?_)))))
   replace hm := hm.nilow (α := Int)
   exact gr1 results53 rfl ⟨(.slice none 0 0), rfl, hm.pk [0] rfl rfl⟩
  refine gcf rfl (gSk (gS (gS (gR (gF fo_59_2 rfl (gL hm 0 isAgg57 rfl (gY (yV st_57 rfl) (gM rfl (gE (gBk ?_))))))))))
  replace hm := hm.nilow (α := Int)
  refine gNg (fun aA aJ a w => ∃ (aB : Value), St 33 [(1, (nV b_)), (5, aB), (16, (.slice aI c_.blocks.length aE)), (17, (nV ((c_.blocks.length : Int)))), (18, (nV aA))] w0 (hp w0) [ow [aB] aJ] a w) (fun a hf => ⟨(.slice none 0 0), hf.sb rfl, hm.pk [0] rfl rfl⟩) ?_ ?_
  ·
   repeat clear hm
   rintro _ _ aA aJ a w ⟨aB, hf, hm⟩ af ag ah _
   refine gv hf (gS (gR (gB rfl (gE (gS (go _ 19 rfl (decide_eq_true (by omega)) (gct rfl (gSk (gS (gJg (fun aF a w => ∃ (aC : Value), St 33 [(1, (nV b_)), (5, aC), (16, (.slice aI c_.blocks.length aE)), (17, (nV ((c_.blocks.length : Int)))), (18, (nV aA))] w0 (hp w0) [ow [aC] aF] a w) (fun aF => ?_) ?_))))))))))
   ·
    refine gBk (gS (gR (gM rfl (gg fun aM aN aG => ?_))))
    obtain ⟨aO, aP, ai, he⟩ := idx_form' h1 aG
    obtain ⟨rfl, _, rfl⟩ := sl3 he
    obtain ⟨aj, ak, aQ, aR, aS, aT, aK⟩ := rk_Block_ h1 aG
    refine gI st_57 aN (idx_lt aG) rfl (gY (yn (aR.mono hm.lez) isAgg71 sizeOf71 rfl) (gAl hm zeroValue71 rfl fun al w hm => gA rfl (gSN hm 0 sizeOf71 (one_cons (rep_one aS) (one_cons (rep_one aT) (one_cons rfl (one_cons rfl (one_cons (rep_one aK) one_nil))))) rfl fun w hm => gE (gS (gR (gF fo_71_4 rfl (gL hm 0 isAgg26 rfl (gM rfl (gC hm rfl call77 (slices_Contains_S_int_int_ok _ aM.next_ aQ (hm.now aK) b_) fun am an w hm => gE (gJg (fun aH a w => ∃ (aD : Value), St 33 [(1, (nV b_)), (5, aD), (16, (sV aO aP c_.blocks.length aE)), (17, (nV ((c_.blocks.length : Int)))), (18, (nV aA))] w0 (hp w0) [ow [aD] aH] a w) (fun aH => ?_) ?_))))))))))
    ·
     refine gs 26 rfl (fun aU => ?_) fun aU => ?_
     ·
      refine gct rfl (gR (gM rfl (gM rfl (gf rfl (fun a hf => e_build (vs := #[(0, (nV aA))]) (cs := [(nV aA)]) et_26 hf hm rfl rfl (by kernel_rfl) rfl rfl) ?_))))
      rintro _ w ⟨ao, rfl, hm⟩
      replace hm := hm.lit (xs := ([aA] : List Int)) 0 rfl rfl rfl rfl
      refine gb fun aq aV => ?_
      obtain ⟨aW, aX⟩ := appM_some.1 aV
      refine gf rfl (fun a hf => e_append 2 et_26 hf hm rfl (hm.ow_rep 0 rfl) rfl rfl rfl aW) ?_
      rintro aY w hm
      rw [aX] at hm
      exact gA rfl (gE (gZ fun a hf => ⟨aY, hf.sb rfl, hm.pk [2] rfl rfl⟩))
     exact gcf rfl (gSk (gZ fun a hf => ⟨aB, hf.sb rfl, hm.pk [1] rfl rfl⟩))
    repeat clear hm
    rintro aH a w ⟨aD, hf, hm⟩
    exact gv hf (gZ fun a hf => ⟨aD, hf.sb rfl, hm.pk [0] rfl rfl⟩)
   repeat clear hm
   rintro aF a w ⟨aC, hf, hm⟩
   exact gv hf (gR (gP (by omega) (by omega) rfl (gM rfl (gE (gZe fun a hf => ⟨aC, hf.sb rfl, hm.pk [0] rfl rfl⟩)))))
  repeat clear hm
  rintro ar au a w ⟨aZ, hf, hm⟩ av aw
  exact gv hf (gS (gR (gB rfl (gE (gS (go _ 19 rfl (decide_eq_false (by omega)) (gcf rfl (gXt (gHh (gS (gR (gM rfl (gA rfl (gE (gRt (gr1 results53 rfl ⟨aZ, rfl, hm.pk [0] rfl rfl⟩))))))))))))))))
theorem impl_codeOk_4_ok (w0 : World) (r_ : Int) (c0_0_ : Code_) (v1 : Value) (h1 : GT.rep (hp w0) [v1] c0_0_.blocks) (aA : Nat) (aB : w0.heap[aA]? = some (.cells ([(nV c0_0_.params), (nV c0_0_.regs), v1] : List Value).toArray 59 (0, 0))) (bf0 : Nat) (hbf0 : w0.heap[bf0]? = some (.cells ([(.func (.func 62) #[] #[(pV aA)])] : List Value).toArray 96 (0, 0))) :
    ConM Try.prog 69 [(nV r_), (pV bf0)] w0 (impl_codeOk_4 r_ c0_0_) fun r v w' => v = (.bool (r)) ∧ Below w0.heap.size w0 w' := by
  unfold impl_codeOk_4
  refine gcon func69 rfl fun r => ?_
  have hm := Mem.start w0
  refine gS (gR (gA rfl (gE (gS (gR (gY (yl isAgg96 (hm.old_cell hbf0 rfl) rfl) (gM rfl (gb fun aD aC => gf rfl (fun a hf => e_callv hf rfl rfl rfl ⟨62, [(pV aA)], rfl, call62, impl_codeOk_1_ok _ r_ c0_0_ v1 (rep_later (hm.now h1) (Below.refl _ _)) aA (hm.old_later aB (Below.refl _ _)) _ aC⟩) ?_))))))))
  rintro aE w ⟨rfl, hB⟩
  replace hm := hm.below' hB; clear hB
  exact gN rfl (gA rfl (gE (gRt (gr1 results69 rfl ⟨rfl, hm.below⟩))))
theorem impl_codeOk_ok (w0 : World) (u : Unit_) (v1 : Value) (h1 : GT.rep (hp w0) [v1] u.codes) (k_ : Int) :
    ConM Try.prog 40 [(.agg #[v1]), (nV k_)] w0 (impl_codeOk u k_) fun r v w' => v = (.bool (r)) ∧ Below w0.heap.size w0 w' := by
  unfold impl_codeOk
  refine gcon func40 rfl fun r => ?_
  have hm := Mem.start w0
  refine gS (gR (gBx hm rfl fun aD w hm => gBx hm rfl fun aE w hm => gA rfl (gE (gS (gR (gF fo_25_0 rfl (gL hm 1 isAgg23 rfl (gL hm 0 isAgg3 rfl (gg fun aA an aX => ?_)))))))))
  obtain ⟨aL, aM, aN, he⟩ := idx_form' h1 aX
  subst he
  obtain ⟨ao, aq, aK⟩ := rk_Code_ h1 aX
  refine gI st_23 an (idx_lt aX) rfl (gY (yn (aq.mono hm.lez) isAgg59 sizeOf59 rfl) (gAl hm zeroValue59 rfl fun aB w hm => gSN hm 0 sizeOf59 (one_cons rfl (one_cons rfl (one_cons (rep_one aK) one_nil))) rfl fun w hm => gE (gS (gS (gJ hm (fun aP => [(2, (pV aD)), (3, (pV aE)), (5, (pV aB)), (36, (.bool (aP)))]) (fun aP => [blk aD [(sV aL aM u.codes.length aN)] 25, blk aE [(nV k_)] 3, blk aB [(nV aA.params), (nV aA.regs), ao] 59]) (fun aP => ?_) ?_)))))
  ·
   refine gR (gF fo_59_1 rfl (gL hm 0 isAgg3 rfl (gC hm rfl call32 (impl_within_ok _ aA.regs 0 300) fun b7 b8 w hm => gN rfl (gM rfl (gsn 21 rfl (fun ar => ?_) fun ar => ?_)))))
   ·
    exact gO rfl (gO rfl (gO rfl (gO rfl (gO rfl (gO rfl (gO rfl (gKt rfl (gM rfl (gO rfl (gO rfl (gO rfl (gO rfl (gO rfl (gKt rfl (gE (gz hm [2, 1, 0] rfl))))))))))))))))
   refine gF fo_59_0 rfl (gL hm 0 isAgg3 rfl (gF fo_59_1 rfl (gL hm 0 isAgg3 rfl (gY (yG rfl (y_min rfl rfl rfl)) ?_))))
   have b9 : minI 3 aA.regs = min 3 aA.regs := minI_eq _ _
   refine gC hm rfl call32 (impl_within_ok _ aA.params 0 (minI 3 aA.regs)) fun ba bc w hm => gN rfl (gKf rfl (gM rfl (gsn 30 rfl (fun au => ?_) fun au => ?_)))
   ·
    exact gO rfl (gO rfl (gO rfl (gO rfl (gO rfl (gKt rfl (gE (gz hm [2, 1, 0] rfl)))))))
   refine gF fo_59_2 rfl (gL hm 0 isAgg57 rfl ?_)
   obtain ⟨bd, be, rfl, bf⟩ := ro_slice aK
   exact gY (yV st_57 rfl) (gC hm rfl call32 (impl_within_ok _ (aA.blocks.length : Int) 1 160) fun bg bh w hm => gN rfl (gKf rfl (gE (gz hm [2, 1, 0] rfl))))
  repeat clear hm
  intro aP w hm
  refine gs 36 rfl (fun av => ?_) fun av => ?_
  ·
   exact gct rfl (gS (gR (gA rfl (gE (gRt (gr1 results40 rfl ⟨rfl, hm.below⟩))))))
  refine gcf rfl (gSk (gS (gR (gY (yU rfl) (gAl hm zeroValue96 rfl fun aG w hm => gS1 hm 0 sizeOf96 rfl rfl fun w hm => gE (gS (gS (gR (gF fo_59_2 rfl (gL hm 3 isAgg57 rfl ?_))))))))))
  obtain ⟨ah, aF, rfl, bi⟩ := ro_slice aK
  refine gY (yV st_57 rfl) (gM rfl (gE (gBk (gNf hm (fun aJ ai => [(2, (pV aD)), (3, (pV aE)), (5, (pV aB)), (6, (pV aG)), (39, (.slice ah aA.blocks.length aF)), (40, (nV ((aA.blocks.length : Int)))), (41, (nV aJ))]) (fun aJ ai => [blk aD [(sV aL aM u.codes.length aN)] 25, blk aE [(nV k_)] 3, blk aB [(nV aA.params), (nV aA.regs), (.slice ah aA.blocks.length aF)] 59, blk aG [(.func (.func 62) #[] #[(pV aB)])] 96]) [1, 2, 3, 0] rfl ?_ ?_))))
  ·
   repeat clear hm
   intro bj aY aJ ai w hm bk bm bo aZ
   refine gS (gR (gB rfl (gE (gS (go _ 42 rfl (decide_eq_true (by omega)) (gct rfl (gSk (gS (gBk (gS (gR (gM rfl (gg fun aC aw aa => ?_)))))))))))))
   obtain ⟨aH, aI, bp, he⟩ := idx_form' aK aa
   obtain ⟨rfl, _, rfl⟩ := sl3 he
   obtain ⟨ab, aQ, aR, ax, aS, aj, ac⟩ := rk_Block_ aK aa
   refine gI st_57 aw (idx_lt aa) rfl (gY (yn (ax.mono hm.lez) isAgg71 sizeOf71 rfl) (gAl hm zeroValue71 rfl fun aO w hm => gA rfl (gSN hm 0 sizeOf71 (one_cons (rep_one aS) (one_cons (rep_one aj) (one_cons rfl (one_cons rfl (one_cons (rep_one ac) one_nil))))) rfl fun w hm => gE (gS (gS (gJ hm (fun aT => [(2, (pV aD)), (3, (pV aE)), (5, (pV aB)), (6, (pV aG)), (7, (nV aJ)), (8, (pV aO)), (39, (sV aH aI aA.blocks.length aF)), (40, (nV ((aA.blocks.length : Int)))), (41, (nV aJ)), (75, (.bool (aT)))]) (fun aT => [blk aD [(sV aL aM u.codes.length aN)] 25, blk aE [(nV k_)] 3, blk aB [(nV aA.params), (nV aA.regs), (sV aH aI aA.blocks.length aF)] 59, blk aG [(.func (.func 62) #[] #[(pV aB)])] 96, blk aO [ab, aQ, (nV aC.jump), (nV aC.on), aR] 71]) (fun aT => ?_) ?_))))))
   ·
    refine gW (.p 0 (.p 3 (.q 1 (.p 2 (.e 4 (.e 5 (.p 6 (.p 7 (.p 8 (.e 9 (.e 10 (.p 11 (.p 13 (.q 12 (.e 14 (.e 15 (.p 16 (.p 17 (.p 18 (.p 19 (.p 20 (.e 21 (.e 22 (.p 23 (.p 24 (.p 25 (.e 26 (.p 27 (.p 28 (.p 29 .fin))) .nil)))) .nil) .nil)))))) .nil) .nil)))) .nil) .nil)))) .nil) .nil))))) [4, 5, 14] [0, 2, 3, 6, 7, 8, 11, 13, 16, 17, 18, 19, 20, 23, 24, 25, 27, 28, 29] hm [0, 1, 2, 3, 4] [blk aO [ab, aQ, (nV aC.jump), (nV aC.on), aR] 71, blk aD [(sV aL aM u.codes.length aN)] 25, blk aE [(nV k_)] 3, blk aB [(nV aA.params), (nV aA.regs), (sV aH aI aA.blocks.length aF)] 59, blk aG [(.func (.func 62) #[] #[(pV aB)])] 96] rfl mxo (by kernel_rfl) (fun _ _ _ h => h.2) fun w hm hS => tP rfl (fun w => yF fo_71_4 rfl) (tP rfl (fun w => yF fo_71_2 rfl) (tQ rfl hS (fun w hm => yL hm 0 isAgg26 rfl) ?_))
    obtain ⟨bq, br, rfl, bt⟩ := ro_slice ac
    refine tP rfl (fun w => yV st_26 rfl) (tO (tY rfl (yL hm 0 isAgg3 rfl) (tAs hS (tO (gb fun bu ay => tf rfl rfl (fun a hf => e_call hf rfl call63 rfl (impl_nextCount_ok _ aC.jump _ ay)) ?_)))))
    rintro bv w ⟨rfl, hB⟩
    replace hm := hm.below' hB; clear hB
    refine tAk hm [0, 1, 2, 3, 4] rfl fun hS => tP rfl (fun w => yB rfl) (tP rfl (fun w => yM rfl) (gsd 53 rfl (fun az => ?_) fun az => ?_))
    ·
     refine tPo rfl rfl (tO (tEo rfl rfl (tAn rfl (tO (tEo rfl rfl (tAn rfl (tPo rfl rfl (tPo rfl rfl (tQo rfl hS rfl (tO (tEo rfl rfl (tAs hS (tO (tEo rfl rfl (tAn rfl (tPo rfl rfl (tPo rfl rfl (tP rfl (fun w => yKt rfl) (tP rfl (fun w => yM rfl) (tPo rfl rfl (tO (tEo rfl rfl (tAn rfl (tO (tEo rfl rfl (tAn rfl (tPo rfl rfl (tPo rfl rfl (tPo rfl rfl (tO ?_))))))))))))))))))))))))))))))
     exact tEo rfl rfl (tAn rfl (tPo rfl rfl (tPo rfl rfl (tP rfl (fun w => yKt rfl) (tE (gz hm [1, 2, 3, 4, 0] rfl))))))
    refine tP rfl (fun w => yF fo_71_2 rfl) (tO (tY rfl (yL hm 0 isAgg3 rfl) (tAn rfl (tO (gb fun bw bA => tf rfl rfl (fun a hf => e_call hf rfl call64 rfl (impl_usesOn_ok _ aC.jump _ bA)) ?_)))))
    rintro bx w ⟨rfl, hB⟩
    replace hm := hm.below' hB; clear hB
    refine tAk hm [0, 1, 2, 3, 4] rfl fun hS => tP rfl (fun w => yM rfl) (gs 57 rfl (fun bB => ?_) fun bB => ?_)
    ·
     refine tP rfl (fun w => yF fo_71_3 rfl) (tQ rfl hS (fun w hm => yL hm 4 isAgg96 rfl) (tO (tY rfl (yL hm 0 isAgg3 rfl) (tAs hS (tO (gb fun bz bC => tf rfl rfl (fun a hf => e_callv hf rfl rfl rfl ⟨62, [(pV aB)], rfl, call62, impl_codeOk_1_ok _ aC.on aA (sV aH aI aA.blocks.length aF) (rep_later (hm.now aK) (Below.refl _ _)) aB (hm.blk_later 3 rfl (Below.refl _ _)) _ bC⟩) ?_))))))
     rintro cA w ⟨rfl, hB⟩
     replace hm := hm.below' hB; clear hB
     refine tAn rfl (tP rfl (fun w => yN rfl) (tP rfl (fun w => yKt rfl) (tP rfl (fun w => yKf rfl) (tP rfl (fun w => yM rfl) (gsn 65 rfl (fun bD => ?_) fun bD => ?_)))))
     ·
      exact tPo rfl rfl (tO (tEo rfl rfl (tAn rfl (tO (tEo rfl rfl (tAn rfl (tPo rfl rfl (tPo rfl rfl (tPo rfl rfl (tO (tEo rfl rfl (tAn rfl (tPo rfl rfl (tPo rfl rfl (tP rfl (fun w => yKt rfl) (tE (gz hm [1, 2, 3, 4, 0] rfl)))))))))))))))))
     refine tP rfl (fun w => yF fo_71_2 rfl) (tO (tY rfl (yL hm 0 isAgg3 rfl) (tAn rfl (tO (gb fun cB bE => tf rfl rfl (fun a hf => e_call hf rfl call64 rfl (impl_usesOn_ok _ aC.jump _ bE)) ?_)))))
     rintro cC w ⟨rfl, hB⟩
     replace hm := hm.below' hB; clear hB
     refine tAn rfl (tP rfl (fun w => yN rfl) (tP rfl (fun w => yM rfl) (gsn 70 rfl (fun bF => ?_) fun bF => ?_)))
     ·
      exact tP rfl (fun w => yF fo_71_3 rfl) (tO (tY rfl (yL hm 0 isAgg3 rfl) (tAn rfl (tP rfl (fun w => yB rfl) (tP rfl (fun w => yKt rfl) (tP rfl (fun w => yKf rfl) (tE (gz hm [1, 2, 3, 4, 0] rfl))))))))
     exact tPo rfl rfl (tO (tEo rfl rfl (tAn rfl (tPo rfl rfl (tP rfl (fun w => yKf rfl) (tP rfl (fun w => yKf rfl) (tE (gz hm [1, 2, 3, 4, 0] rfl))))))))
    refine tPo rfl rfl (tQo rfl hS rfl (tO (tEo rfl rfl (tAs hS (tO (tEo rfl rfl (tAn rfl (tPo rfl rfl (tP rfl (fun w => yKf rfl) (tP rfl (fun w => yKf rfl) (tP rfl (fun w => yM rfl) (tP rfl (fun w => yF fo_71_2 rfl) (tO (tY rfl (yL hm 0 isAgg3 rfl) (tAn rfl (tO (gb fun cD bG => tf rfl rfl (fun a hf => e_call hf rfl call64 rfl (impl_usesOn_ok _ aC.jump _ bG)) ?_)))))))))))))))))
    rintro cE w ⟨rfl, hB⟩
    replace hm := hm.below' hB; clear hB
    refine tAn rfl (tP rfl (fun w => yN rfl) (tP rfl (fun w => yM rfl) (gsn 70 rfl (fun bH => ?_) fun bH => ?_)))
    ·
     exact tP rfl (fun w => yF fo_71_3 rfl) (tO (tY rfl (yL hm 0 isAgg3 rfl) (tAn rfl (tP rfl (fun w => yB rfl) (tP rfl (fun w => yKt rfl) (tP rfl (fun w => yKf rfl) (tE (gz hm [1, 2, 3, 4, 0] rfl))))))))
    exact tPo rfl rfl (tO (tEo rfl rfl (tAn rfl (tPo rfl rfl (tP rfl (fun w => yKf rfl) (tP rfl (fun w => yKf rfl) (tE (gz hm [1, 2, 3, 4, 0] rfl))))))))
   repeat clear hm
   intro aT w hm
   refine gs 75 rfl (fun bJ => ?_) fun bJ => ?_
   ·
    exact gct rfl (gS (gR (gA rfl (gE (gRt (gLr aZ aY (gr1 results40 rfl ⟨rfl, hm.below⟩)))))))
   refine gcf rfl (gSk (gS (gS (gJ hm (fun aU => [(2, (pV aD)), (3, (pV aE)), (5, (pV aB)), (6, (pV aG)), (7, (nV aJ)), (8, (pV aO)), (39, (sV aH aI aA.blocks.length aF)), (40, (nV ((aA.blocks.length : Int)))), (41, (nV aJ)), (85, (.bool (aU)))]) (fun aU => [blk aD [(sV aL aM u.codes.length aN)] 25, blk aE [(nV k_)] 3, blk aB [(nV aA.params), (nV aA.regs), (sV aH aI aA.blocks.length aF)] 59, blk aG [(.func (.func 62) #[] #[(pV aB)])] 96, blk aO [ab, aQ, (nV aC.jump), (nV aC.on), aR] 71]) (fun aU => ?_) ?_))))
   ·
    refine gR (gF fo_71_4 rfl (gL hm 4 isAgg26 rfl (gY (yU rfl) (gC hm rfl call48 (slices_ContainsFunc_S_int_int_ok _ aC.next_ aR (hm.now ac) (fun y0 => impl_codeOk_2 y0 aA) (.func (.func 65) #[] #[(pV aB)]) (fun w y0 r hB hq => ⟨65, [(pV aB)], rfl, call65, impl_codeOk_2_ok w y0 aA (sV aH aI aA.blocks.length aF) (rep_later (hm.now aK) hB) aB (hm.blk_later 2 rfl hB) r hq⟩)) fun cF cG w hm => gM rfl (gs 80 rfl (fun bK => ?_) fun bK => ?_)))))
    ·
     exact gO rfl (gO rfl (gO rfl (gO rfl (gKt rfl (gE (gz hm [0, 1, 2, 3, 4] rfl))))))
    exact gF fo_71_1 rfl (gL hm 4 isAgg69 rfl (gY (yU rfl) (gC hm rfl call66 (slices_ContainsFunc_S_impl_Ins_impl_Ins_ok _ aC.ins aQ (hm.now aj) (fun y0 => impl_codeOk_3 y0 u k_) (.func (.func 67) #[] #[(pV aD), (pV aE)]) (fun w y0 bL bM r hB hq => ⟨67, [(pV aD), (pV aE)], rfl, call67, impl_codeOk_3_ok w y0 bL bM u (sV aL aM u.codes.length aN) (rep_later (hm.now h1) hB) aD (hm.blk_later 0 rfl hB) k_ aE (hm.blk_later 1 rfl hB) r hq⟩)) fun cH cI w hm => gKf rfl (gE (gz hm [0, 1, 2, 3, 4] rfl)))))
   repeat clear hm
   intro aU w hm
   refine gs 85 rfl (fun bN => ?_) fun bN => ?_
   ·
    exact gct rfl (gS (gR (gA rfl (gE (gRt (gLr aZ aY (gr1 results40 rfl ⟨rfl, hm.below⟩)))))))
   refine gcf rfl (gSk (gS (gR (gY (yn (hm.blk_at 2 rfl) isAgg59 sizeOf59 rfl) (gM rfl (gCg rfl call53 (impl_PredsOf_ok _ aA (sV aH aI aA.blocks.length aF) (hm.now aK) aJ) ?_))))))
   rintro ak cJ cK w ⟨_, rfl, hB⟩
   replace hm := hm.give hB; clear hB
   obtain ⟨cL, cM, rfl, cN⟩ := ro_slice (hm.ow_rep 0 rfl)
   refine gY (yV st_26 rfl) (gA rfl (gE (gS (gR (gF fo_71_0 rfl (gL hm 5 isAgg68 rfl ?_))))))
   obtain ⟨bO, al, rfl, cO⟩ := ro_slice aS
   refine gY (yV st_68 rfl) (gM rfl (gE (gBk (gNf hm (fun aV am => [(2, (pV aD)), (3, (pV aE)), (5, (pV aB)), (6, (pV aG)), (7, (nV aJ)), (9, (nV ((ak.length : Int)))), (39, (sV aH aI aA.blocks.length aF)), (40, (nV ((aA.blocks.length : Int)))), (41, (nV aJ)), (91, (.slice bO aC.phis.length al)), (92, (nV ((aC.phis.length : Int)))), (93, (nV aV))]) (fun aV am => [blk aD [(sV aL aM u.codes.length aN)] 25, blk aE [(nV k_)] 3, blk aB [(nV aA.params), (nV aA.regs), (sV aH aI aA.blocks.length aF)] 59, blk aG [(.func (.func 62) #[] #[(pV aB)])] 96]) [1, 2, 3, 4] rfl ?_ ?_))))
   ·
    repeat clear hm
    intro cP bP aV am w hm cQ cR cS bQ
    refine gS (gR (gB rfl (gE (gS (go _ 94 rfl (decide_eq_true (by omega)) (gct rfl (gSk (gS (gBk (gS (gR (gg fun ae bR af => ?_))))))))))))
    obtain ⟨bS, bT, cT, he⟩ := idx_form' aS af
    obtain ⟨rfl, _, rfl⟩ := sl3 he
    obtain ⟨cU, bU, ag⟩ := rk_Phi_ aS af
    refine gI st_68 bR (idx_lt af) rfl (gY (yn (bU.mono hm.lez) isAgg66 sizeOf66 rfl) (gAl hm zeroValue66 rfl fun cV w hm => gSN hm 0 sizeOf66 (one_cons rfl (one_cons (rep_one ag) one_nil)) rfl fun w hm => gE (gS (gJ hm (fun aW => [(2, (pV aD)), (3, (pV aE)), (5, (pV aB)), (6, (pV aG)), (7, (nV aJ)), (9, (nV ((ak.length : Int)))), (39, (sV aH aI aA.blocks.length aF)), (40, (nV ((aA.blocks.length : Int)))), (41, (nV aJ)), (91, (sV bS bT aC.phis.length al)), (92, (nV ((aC.phis.length : Int)))), (93, (nV aV)), (118, (.bool (aW)))]) (fun aW => [blk aD [(sV aL aM u.codes.length aN)] 25, blk aE [(nV k_)] 3, blk aB [(nV aA.params), (nV aA.regs), (sV aH aI aA.blocks.length aF)] 59, blk aG [(.func (.func 62) #[] #[(pV aB)])] 96]) (fun aW => ?_) ?_))))
    ·
     refine gR (gM rfl (gB rfl (gM rfl (gsd 99 rfl (fun bV => ?_) fun bV => ?_))))
     ·
      exact gO rfl (gO rfl (gO rfl (gO rfl (gO rfl (gKt rfl (gM rfl (gO rfl (gO rfl (gO rfl (gO rfl (gO rfl (gKt rfl (gM rfl (gO rfl (gO rfl (gO rfl (gO rfl (gKt rfl (gE (gz hm [1, 2, 3, 4] rfl))))))))))))))))))))
     refine gL hm 4 isAgg96 rfl (gF fo_66_0 rfl (gL hm 0 isAgg3 rfl (gb fun cW bW => gf rfl (fun a hf => e_callv hf rfl rfl rfl ⟨62, [(pV aB)], rfl, call62, impl_codeOk_1_ok _ ae.to aA (sV aH aI aA.blocks.length aF) (rep_later (hm.now aK) (Below.refl _ _)) aB (hm.blk_later 3 rfl (Below.refl _ _)) _ bW⟩) ?_)))
     rintro cX w ⟨rfl, hB⟩
     replace hm := hm.below' hB; clear hB
     refine gN rfl (gKf rfl (gM rfl (gsn 106 rfl (fun bX => ?_) fun bX => ?_)))
     ·
      exact gO rfl (gO rfl (gO rfl (gO rfl (gO rfl (gKt rfl (gM rfl (gO rfl (gO rfl (gO rfl (gO rfl (gKt rfl (gE (gz hm [1, 2, 3, 4] rfl)))))))))))))
     refine gF fo_66_1 rfl (gL hm 0 isAgg26 rfl ?_)
     obtain ⟨bY, bZ, rfl, cY⟩ := ro_slice ag
     refine gY (yV st_26 rfl) (gM rfl (gB rfl (gKf rfl (gM rfl (gsd 113 rfl (fun b5 => ?_) fun b5 => ?_)))))
     ·
      exact gO rfl (gO rfl (gO rfl (gO rfl (gKt rfl (gE (gz hm [1, 2, 3, 4] rfl))))))
     exact gF fo_66_1 rfl (gL hm 0 isAgg26 rfl (gY (yU rfl) (gC hm rfl call48 (slices_ContainsFunc_S_int_int_ok _ ae.args (.slice bY ae.args.length bZ) (hm.now ag) (fun y0 => impl_codeOk_4 y0 aA) (.func (.func 69) #[] #[(pV aG)]) (fun w y0 r hB hq => ⟨69, [(pV aG)], rfl, call69, impl_codeOk_4_ok w y0 aA (sV aH aI aA.blocks.length aF) (rep_later (hm.now aK) hB) aB (hm.blk_later 3 rfl hB) aG (hm.blk_later 4 rfl hB) r hq⟩)) fun cZ c5 w hm => gKf rfl (gE (gz hm [1, 2, 3, 4] rfl)))))
    repeat clear hm
    intro aW w hm
    refine gs 118 rfl (fun b6 => ?_) fun b6 => ?_
    ·
     exact gct rfl (gS (gR (gA rfl (gE (gRt (gLr bQ bP (gLr aZ aY (gr1 results40 rfl ⟨rfl, hm.below⟩))))))))
    exact gcf rfl (gSk (gR (gP (by omega) (by omega) rfl (gM rfl (gE (gze hm [0, 1, 2, 3] rfl))))))
   repeat clear hm
   intro c6 c7 w hm c8 c9
   exact gS (gR (gB rfl (gE (gS (go _ 94 rfl (decide_eq_false (by omega)) (gcf rfl (gXt (gHh (gR (gP (by omega) (by omega) rfl (gM rfl (gE (gze hm [0, 1, 2, 3] rfl)))))))))))))
  repeat clear hm
  intro ca cb w hm cd ce
  exact gS (gR (gB rfl (gE (gS (go _ 42 rfl (decide_eq_false (by omega)) (gcf rfl (gXt (gHh (gS (gR (gA rfl (gE (gRt (gr1 results40 rfl ⟨rfl, hm.below⟩))))))))))))))
theorem impl_codeCount_ok (w0 : World) (c_ : Code_) (v1 : Value) (h1 : GT.rep (hp w0) [v1] c_.blocks) :
    ConM Try.prog 41 [(.agg #[(nV c_.params), (nV c_.regs), v1])] w0 (impl_codeCount c_) fun r v w' => v = (nV r) ∧ Below w0.heap.size w0 w' := by
  unfold impl_codeCount
  refine gcon func41 rfl fun r => ?_
  have hm := Mem.start w0
  refine gS (gR (gBx hm rfl fun aK w hm => gA rfl (gE (gS (gR (gA rfl (gE (gS (gS (gR (gF fo_59_2 rfl (gL hm 0 isAgg57 rfl ?_))))))))))))
  obtain ⟨aF, aG, rfl, aL⟩ := ro_slice h1
  refine gY (yV st_57 rfl) (gM rfl (gE (gBk (gNf hm (fun aA aB => [(3, (nV aB)), (7, (.slice aF c_.blocks.length aG)), (8, (nV ((c_.blocks.length : Int)))), (9, (nV aA))]) (fun aA aB => []) [] rfl ?_ ?_))))
  ·
   repeat clear hm
   intro _ _ aA aB w hm aM aN aO _
   refine gS (gR (gB rfl (gE (gS (go _ 10 rfl (decide_eq_true (by omega)) (gct rfl (gSk (gS (gBk (gS (gR (gg fun aP aH aC => ?_))))))))))))
   obtain ⟨aQ, aR, aS, he⟩ := idx_form' h1 aC
   obtain ⟨rfl, _, rfl⟩ := sl3 he
   obtain ⟨aT, aU, aV, aI, aD, aE, aJ⟩ := rk_Block_ h1 aC
   refine gI st_57 aH (idx_lt aC) rfl (gY (yn (aI.mono hm.lez) isAgg71 sizeOf71 rfl) (gAl hm zeroValue71 rfl fun aW w hm => gSN hm 0 sizeOf71 (one_cons (rep_one aD) (one_cons (rep_one aE) (one_cons rfl (one_cons rfl (one_cons (rep_one aJ) one_nil))))) rfl fun w hm => gE (gR (gM rfl (gF fo_71_0 rfl (gL hm 0 isAgg68 rfl ?_))))))
   obtain ⟨aX, aY, rfl, aZ⟩ := ro_slice aD
   refine gY (yV st_68 rfl) (gF fo_71_1 rfl (gL hm 0 isAgg69 rfl ?_))
   obtain ⟨aa, ab, rfl, ac⟩ := ro_slice aE
   exact gY (yV st_69 rfl) (gP (by omega) (by omega) rfl (gB rfl (gA rfl (gE (gR (gP (by omega) (by omega) rfl (gM rfl (gE (gze hm [] rfl)))))))))
  repeat clear hm
  intro ae af w hm ag ah
  exact gS (gR (gB rfl (gE (gS (go _ 10 rfl (decide_eq_false (by omega)) (gcf rfl (gXt (gHh (gS (gR (gM rfl (gA rfl (gE (gRt (gr1 results41 rfl ⟨rfl, hm.below⟩)))))))))))))))
theorem impl_UnitValid_ok (w0 : World) (u : Unit_) (v1 : Value) (h1 : GT.rep (hp w0) [v1] u.codes) :
    ConM Try.prog 23 [(.agg #[v1])] w0 (impl_UnitValid u) fun r v w' => v = (.bool (r)) ∧ Below w0.heap.size w0 w' := by
  unfold impl_UnitValid
  refine gcon func23 rfl fun r => ?_
  have hm := Mem.start w0
  refine gS (gR (gBx hm rfl fun aE w hm => gA rfl (gE (gS (gS (gR (gF fo_25_0 rfl (gL hm 0 isAgg23 rfl ?_))))))))
  obtain ⟨aF, aB, rfl, aR⟩ := ro_slice h1
  refine gY (yV st_23 rfl) (gC hm rfl call32 (impl_within_ok _ (u.codes.length : Int) 1 4) fun aS aT w hm => gN rfl (gE (gsn 10 rfl (fun aH => ?_) fun aH => ?_)))
  ·
   exact gct rfl (gS (gR (gA rfl (gE (gRt (gr1 results23 rfl ⟨rfl, hm.below⟩))))))
  refine gcf rfl (gSk (gS (gR (gA rfl (gE (gS (gS (gR (gF fo_25_0 rfl (gL hm 0 isAgg23 rfl (gY (yV st_23 rfl) (gM rfl (gE (gBk (gNf hm (fun aA aC => [(1, (pV aE)), (3, (nV aC)), (12, (.slice aF u.codes.length aB)), (13, (nV ((u.codes.length : Int)))), (14, (nV aA))]) (fun aA aC => [blk aE [(.slice aF u.codes.length aB)] 25]) [0] rfl ?_ ?_)))))))))))))))
  ·
   repeat clear hm
   intro aU aI aA aC w hm aV aW aX aJ
   refine gS (gR (gB rfl (gE (gS (go _ 15 rfl (decide_eq_true (by omega)) (gct rfl (gSk (gS (gBk (gS (gR (gM rfl (gg fun aK aL aD => ?_)))))))))))))
   obtain ⟨aM, aN, aY, he⟩ := idx_form' h1 aD
   obtain ⟨rfl, _, rfl⟩ := sl3 he
   obtain ⟨aO, aP, aG⟩ := rk_Code_ h1 aD
   refine gI st_23 aL (idx_lt aD) rfl (gY (yn (aP.mono hm.lez) isAgg59 sizeOf59 rfl) (gAl hm zeroValue59 rfl fun aZ w hm => gA rfl (gSN hm 0 sizeOf59 (one_cons rfl (one_cons rfl (one_cons (rep_one aG) one_nil))) rfl fun w hm => gE (gS (gS (gR (gY (yn (hm.blk_at 1 rfl) isAgg25 sizeOf25 rfl) (gM rfl (gC hm rfl call40 (impl_codeOk_ok _ u (sV aM aN u.codes.length aB) (hm.now h1) aA) fun aa ab w hm => gN rfl (gE (gsn 22 rfl (fun aQ => ?_) fun aQ => ?_)))))))))))
   ·
    exact gct rfl (gS (gR (gA rfl (gE (gRt (gLr aJ aI (gr1 results23 rfl ⟨rfl, hm.below⟩)))))))
   exact gcf rfl (gSk (gR (gM rfl (gY (yn (hm.blk_at 0 rfl) isAgg59 sizeOf59 rfl) (gC hm rfl call41 (impl_codeCount_ok _ aK aO (hm.now aG)) fun ac ae w hm => gB rfl (gA rfl (gE (gR (gP (by omega) (by omega) rfl (gM rfl (gE (gze hm [1] rfl))))))))))))
  repeat clear hm
  intro af ag w hm ah ai
  exact gS (gR (gB rfl (gE (gS (go _ 15 rfl (decide_eq_false (by omega)) (gcf rfl (gXt (gHh (gS (gR (gM rfl (gB rfl (gA rfl (gE (gRt (gr1 results23 rfl ⟨rfl, hm.below⟩))))))))))))))))
theorem impl_mainParams_ok (w0 : World) (u : Unit_) (v1 : Value) (h1 : GT.rep (hp w0) [v1] u.codes) :
    ConM Try.prog 31 [(.agg #[v1])] w0 (impl_mainParams u) fun r v w' => v = (nV r) ∧ Below w0.heap.size w0 w' := by
  unfold impl_mainParams
  refine gcon func31 rfl fun r => ?_
  have hm := Mem.start w0
  refine gS (gR (gBx hm rfl fun aD w hm => gA rfl (gE (gS (gR (gF fo_25_0 rfl (gL hm 0 isAgg23 rfl (gF fo_25_0 rfl (gL hm 0 isAgg23 rfl ?_)))))))))
  obtain ⟨aE, aF, rfl, aG⟩ := ro_slice h1
  refine gY (yV st_23 rfl) (gY (yS (by omega) (by omega) rfl) (gg fun aH aB aA => ?_))
  obtain ⟨aI, aJ, aK, he⟩ := idx_form' h1 aA
  obtain ⟨rfl, _, rfl⟩ := sl3 he
  obtain ⟨aL, aC, aM⟩ := rk_Code_ h1 aA
  exact gI st_23 aB (idx_lt aA) rfl (gF fo_59_0 rfl (gY (yl isAgg3 ((aC.mono hm.lez).cell (j := 0) rfl) rfl) (gA rfl (gE (gRt (gr1 results31 rfl ⟨rfl, hm.below⟩))))))
theorem impl_bytesOk_1_ok (w0 : World) (v_ : Int) :
    ConM Try.prog 49 [(nV v_)] w0 (impl_bytesOk_1 v_) fun r v w' => v = (.bool (r)) ∧ Below w0.heap.size w0 w' := by
  unfold impl_bytesOk_1
  refine gcon func49 rfl fun r => ?_
  have hm := Mem.start w0
  exact gS (gR (gA rfl (gE (gS (gR (gM rfl (gC hm rfl call50 (impl_isByte_ok _ v_) fun aA aB w hm => gN rfl (gA rfl (gE (gRt (gr1 results49 rfl ⟨rfl, hm.below⟩)))))))))))
theorem impl_bytesOk_ok (w0 : World) (in_ : List Int) (v1 : Value) (h1 : GT.rep (hp w0) [v1] in_) (n_ : Int) :
    ConM Try.prog 30 [v1, (nV n_)] w0 (impl_bytesOk in_ n_) fun r v w' => v = (.bool (r)) ∧ Below w0.heap.size w0 w' := by
  unfold impl_bytesOk
  refine gcon func30 rfl fun r => ?_
  have hm := Mem.start w0
  refine gS (gR (gA rfl (gE (gS (gJ hm (fun aA => [(4, (.bool (aA)))]) (fun aA => []) (fun aA => ?_) ?_)))))
  ·
   refine gR (gM rfl ?_)
   obtain ⟨aB, aC, rfl, aE⟩ := ro_slice h1
   refine gY (yV st_26 rfl) (gM rfl (gB rfl (gM rfl (gsd 9 rfl (fun aD => ?_) fun aD => ?_))))
   ·
    exact gM rfl (gC hm rfl call48 (slices_ContainsFunc_S_int_int_ok _ in_ (.slice aB in_.length aC) (hm.now h1) (fun y0 => impl_bytesOk_1 y0) (.func (.func 49) #[] #[]) (fun w y0 r hB hq => ⟨49, [], rfl, call49, impl_bytesOk_1_ok w y0  r hq⟩)) fun aF aG w hm => gN rfl (gKt rfl (gA rfl (gE (gz hm [] rfl)))))
   exact gO rfl (gO rfl (gO rfl (gKf rfl (gA rfl (gE (gz hm [] rfl))))))
  repeat clear hm
  intro aA w hm
  exact gRt (gr1 results30 rfl ⟨rfl, hm.below⟩)
theorem impl_unitRuns_ok (w0 : World) (u : Unit_) (v1 : Value) (h1 : GT.rep (hp w0) [v1] u.codes) (in_ : List Int) (v2 : Value) (h2 : GT.rep (hp w0) [v2] in_) (steps : Int) :
    ConM Try.prog 17 [(.agg #[v1]), v2, (nV steps)] w0 (impl_unitRuns u in_ steps) fun r v w' => v = (.bool (r)) ∧ Below w0.heap.size w0 w' := by
  unfold impl_unitRuns
  refine gcon func17 rfl fun r => ?_
  have hm := Mem.start w0
  refine gS (gR (gBx hm rfl fun aE w hm => gA rfl (gE (gS (gJ hm (fun aA => [(6, (.bool (aA)))]) (fun aA => []) (fun aA => ?_) ?_)))))
  ·
   refine gR (gY (yn (hm.blk_at 0 rfl) isAgg25 sizeOf25 rfl) (gC hm rfl call23 (impl_UnitValid_ok _ u v1 (hm.now h1)) fun aF aG w hm => gM rfl (gs 9 rfl (fun aB => ?_) fun aB => ?_)))
   ·
    refine gM rfl (gY (yn (hm.blk_at 0 rfl) isAgg25 sizeOf25 rfl) (gC hm rfl call31 (impl_mainParams_ok _ u v1 (hm.now h1)) fun aC aH w hm => gC hm rfl call30 (impl_bytesOk_ok _ in_ v2 (hm.now h2) aC) fun aI aJ w hm => gKt rfl (gM rfl (gs 15 rfl (fun aD => ?_) fun aD => ?_))))
    ·
     exact gM rfl (gC hm rfl call32 (impl_within_ok _ steps 0 60000) fun aK aL w hm => gKt rfl (gA rfl (gE (gz hm [] rfl))))
    exact gO rfl (gO rfl (gKf rfl (gA rfl (gE (gz hm [] rfl)))))
   exact gO rfl (gO rfl (gO rfl (gO rfl (gKf rfl (gM rfl (gO rfl (gO rfl (gKf rfl (gA rfl (gE (gz hm [] rfl)))))))))))
  repeat clear hm
  intro aA w hm
  exact gRt (gr1 results17 rfl ⟨rfl, hm.below⟩)
theorem pimpl_running__code_1_ok (w0 : World) (f : Phi_) (v1 : Value) (h1 : GT.rep (hp w0) [v1] f.args) (c0_ : List Int) (v2 : Value) (h2 : GT.rep (hp w0) [v2] c0_) (bf0 : Nat) (hbf0 : w0.heap[bf0]? = some (.cells ([v2] : List Value).toArray 26 (0, 0))) (c1_ : Int) (bf1 : Nat) (hbf1 : w0.heap[bf1]? = some (.cells ([(nV c1_)] : List Value).toArray 3 (0, 0))) :
    ConM Try.prog 55 [(.agg #[(nV f.to), v1]), (pV bf0), (pV bf1)] w0 (pimpl_running__code_1 f c0_ c1_) fun r v w' => v = (nV r) ∧ Below w0.heap.size w0 w' := by
  unfold pimpl_running__code_1
  refine gcon func55 rfl fun r => ?_
  have hm := Mem.start w0
  refine gS (gR (gBx hm rfl fun aC w hm => gA rfl (gE (gS (gW (.p 1 (.q 0 (.q 2 (.e 3 (.p 4 (.e 5 (.p 6 (.e 7 (.p 8 .fin) .nil)) .nil)) .nil)))) [0, 2, 3, 5] [1, 4, 6, 8] hm [0] [blk aC [(nV f.to), v1] 66] rfl mxo (by kernel_rfl) (fun _ _ _ h => h.2) fun w hm hS => tP rfl (fun w => yF fo_66_1 rfl) (tQ rfl hS (fun w hm => yl isAgg26 (hm.old_cell hbf0 rfl) rfl) (tQ rfl hS (fun w hm => yL hm 0 isAgg26 rfl) (tO (tY rfl (yl isAgg3 (hm.old_cell hbf1 rfl) rfl) (tAs hS (gg fun aD aE aA => ?_)))))))))))
  obtain ⟨aH, aI, aJ, he⟩ := idx_form h1 aA
  subst he
  refine tP rfl (fun w => yI st_26 aE (idx_lt aA) rfl) (tO (tY rfl (yl isAgg3 ((flat_cells (cs := [(nV aD)]) (hm.now h1) aA rfl).cell (j := 0) rfl) rfl) (tAs hS (gg fun aF aG aB => ?_))))
  obtain ⟨aK, aL, aM, he⟩ := idx_form h2 aB
  subst he
  exact tP rfl (fun w => yI st_26 aG (idx_lt aB) rfl) (tO (tY rfl (yl isAgg3 ((flat_cells (cs := [(nV aF)]) (hm.now h2) aB rfl).cell (j := 0) rfl) rfl) (tAn rfl (tP rfl (fun w => yA rfl) (tE (gRt (gr1 results55 rfl ⟨rfl, hm.below⟩)))))))
theorem impl_mapped_impl_Phi_int_ok (w0 : World) (list : List Phi_) (v1 : Value) (h1 : GT.rep (hp w0) [v1] list) (f : Phi_ → Option Int) (fv1 : Value) (hfn1 : ∀ (w : World) (y0 : Phi_) (z1 : Value) (_ : GT.rep (hp w) [z1] y0.args) (r : Int), Below w0.heap.size w0 w → f y0 = some r → FnOk Try.prog fv1 [(.agg #[(nV y0.to), z1])] w (fun v w' => v = (nV r) ∧ Below w.heap.size w w')) :
    ConM Try.prog 54 [v1, fv1] w0 (impl_mapped_impl_Phi_int list f) fun r v w' => ∃ (x1 : Value), v = x1 ∧ Mem w0 (hp w0) w' [ow [x1] r] := by
  unfold impl_mapped_impl_Phi_int
  refine gcon func54 rfl fun r => ?_
  have hm := Mem.start w0
  refine gS (gR (gA rfl (gE (gS (gR (gA rfl (gE (gS (gS (gR (gM rfl ?_)))))))))))
  obtain ⟨aG, aH, rfl, aS⟩ := ro_slice h1
  refine gY (yV st_68 rfl) (gM rfl (gE (gBk ?_)))
  replace hm := hm.nilow (α := Int)
  refine gNg (fun aD aE a w => ∃ (aA : Value), St 22 [(1, fv1), (5, aA), (8, (.slice aG list.length aH)), (9, (nV ((list.length : Int)))), (10, (nV aD))] w0 (hp w0) [ow [aA] aE] a w) (fun a hf => ⟨(.slice none 0 0), hf.sb rfl, hm.pk [0] rfl rfl⟩) ?_ ?_
  ·
   repeat clear hm
   rintro _ _ aD aE a w ⟨aA, hf, hm⟩ aT aU aV _
   refine gv hf (gS (gR (gB rfl (gE (gS (go _ 11 rfl (decide_eq_true (by omega)) (gct rfl (gSk (gS (gBk (gS (gR (gg fun aI aJ aB => ?_)))))))))))))
   obtain ⟨aW, aX, aY, he⟩ := idx_form' h1 aB
   obtain ⟨rfl, _, rfl⟩ := sl3 he
   obtain ⟨aK, aL, aF⟩ := rk_Phi_ h1 aB
   refine gI st_68 aJ (idx_lt aB) rfl (gY (yn (aL.mono hm.lez) isAgg66 sizeOf66 rfl) (gAl hm zeroValue66 rfl fun aZ w hm => gSN hm 0 sizeOf66 (one_cons rfl (one_cons (rep_one aF) one_nil)) rfl fun w hm => gE (gR (gM rfl (gM rfl (gY (yn (hm.blk_at 0 rfl) isAgg66 sizeOf66 rfl) (gb fun aC aM => gf rfl (fun a hf => e_callv hf rfl rfl rfl (hfn1 _ aI aK (hm.now aF) _ hm.below aM)) ?_)))))))
   rintro aa w ⟨rfl, hB⟩
   replace hm := hm.below' hB; clear hB
   refine gf rfl (fun a hf => e_build (vs := #[(0, (nV aC))]) (cs := [(nV aC)]) et_26 hf hm rfl rfl (by kernel_rfl) rfl rfl) ?_
   rintro _ w ⟨ab, rfl, hm⟩
   replace hm := hm.lit (xs := ([aC] : List Int)) 0 rfl rfl rfl rfl
   refine gb fun ac aN => ?_
   obtain ⟨aO, aP⟩ := appM_some.1 aN
   refine gf rfl (fun a hf => e_append 2 et_26 hf hm rfl (hm.ow_rep 0 rfl) rfl rfl rfl aO) ?_
   rintro aQ w hm
   rw [aP] at hm
   exact gA rfl (gE (gR (gP (by omega) (by omega) rfl (gM rfl (gE (gZe fun a hf => ⟨aQ, hf.sb rfl, hm.pk [2] rfl rfl⟩))))))
  repeat clear hm
  rintro ae af a w ⟨aR, hf, hm⟩ ag ah
  exact gv hf (gS (gR (gB rfl (gE (gS (go _ 11 rfl (decide_eq_false (by omega)) (gcf rfl (gXt (gHh (gS (gR (gM rfl (gA rfl (gE (gRt (gr1 results54 rfl ⟨aR, rfl, hm.pk [0] rfl rfl⟩))))))))))))))))
theorem impl_stop_ok (w0 : World) (end_ : Int) :
    ConXM Try.prog 81 [(nV end_)] w0 (impl_stop end_) (fun r v w' => ∃ q, r = .inl q ∧ (v = (.tuple #[]) ∧ Below w0.heap.size w0 w')) fun r c w' => ∃ q, r = .inr q ∧ (c = pch 97 q ∧ Below w0.heap.size w0 w') := by
  unfold impl_stop
  refine gconx func81 rfl fun r => ?_
  have hm := Mem.start w0
  refine gR (gM rfl (gY (yG rfl (y_makeIface underlying97 rfl rfl)) (gfx0 rfl (fun a hf => e_panic hf rfl rfl) ?_ (fun _ _ h => h.elim))))
  rintro c w ⟨rfl, rfl⟩
  exact gth ⟨_, rfl, rfl, hm.below⟩
theorem pimpl_running__tick_ok (w0 : World) (hz : Heap) (m : running) (bp0 : Nat) (v1p : Value) (h1p : GT.rep hz [v1p] m.u.codes) (v2p : Value) (v3p : Value) (hm0 : Mem w0 hz w0 [blk bp0 (v1p :: (nV m.steps) :: (nV m.used) :: v2p :: q16 m.cells [v3p]) 80, ow [v2p] m.said, ow [v3p] m.trace]) :
    ConXM Try.prog 57 [(pV bp0)] w0 (pimpl_running__tick m) (fun r v w' => ∃ q, r = .inl q ∧ (∃ (x2 : Value) (x3 : Value), v = (.tuple #[]) ∧ Mem w0 hz w' [blk bp0 (v1p :: (nV q.steps) :: (nV q.used) :: x2 :: q16 q.cells [x3]) 80, ow [x2] q.said, ow [x3] q.trace])) fun r c w' => ∃ q, r = .inr q ∧ (∃ (x2 : Value) (x3 : Value), c = pch 97 q.1 ∧ Mem w0 hz w' [blk bp0 (v1p :: (nV q.2.steps) :: (nV q.2.used) :: x2 :: q16 q.2.cells [x3]) 80, ow [x2] q.2.said, ow [x3] q.2.trace]) := by
  unfold pimpl_running__tick
  refine gconx func57 rfl fun r => ?_
  have hm := hm0
  refine gS (gS (gWx (.p 0 (.p 1 (.p 2 (.p 4 (.p 5 (.p 6 (.q 3 (.e 7 (.p 8 .fin) .nil)))))))) [7] [0, 1, 2, 4, 5, 6, 8] hm [0, 1, 2] [blk bp0 (v1p :: (nV m.steps) :: (nV m.used) :: v2p :: q16 m.cells [v3p]) 80, ow [v2p] m.said, ow [v3p] m.trace] rfl mxo (by kernel_rfl) (fun _ _ _ _ e h => ⟨e.symm.trans h.1, h.2⟩) fun w hm hS => tP rfl (fun w => yM rfl) (tP rfl (fun w => yG rfl (y_nilptr rfl rfl)) (tP rfl (fun w => yF fo_80_2 rfl) (tP rfl (fun w => yM rfl) (tP rfl (fun w => yG rfl (y_nilptr rfl rfl)) (tP rfl (fun w => yF fo_80_1 rfl) (tQ rfl hS (fun w hm => yL hm 0 isAgg3 rfl) (tO (tY rfl (yL hm 0 isAgg3 rfl) (tAs hS (tP rfl (fun w => yB rfl) (tE (gJe hm (fun aB => [(0, (pV bp0))]) (fun aB => [blk bp0 (v1p :: (nV m.steps) :: (nV m.used) :: v2p :: q16 m.cells [v3p]) 80, ow [v2p] m.said, ow [v3p] m.trace]) (fun aF aC => ?_) ?_))))))))))))))
  ·
   refine gsd 10 rfl (fun aD => ?_) fun aD => ?_
   ·
    refine gct rfl (gR (gb fun aG aE => gfx rfl (fun a hf => e_callx hf rfl call81 rfl (impl_stop_ok _ 3 _ aE)) ?_ ?_))
    ·
     rintro c w ⟨aH, rfl, aA⟩
     obtain ⟨rfl, hB⟩ := aA
     replace hm := hm.below' hB; clear hB
     exact gr (gEr aC (gth ⟨_, rfl, v2p, v3p, rfl, hm.pk [0, 1, 2] rfl rfl⟩))
    rintro aI w ⟨aJ, rfl, aA⟩
    obtain ⟨rfl, hB⟩ := aA
    replace hm := hm.below' hB; clear hB
    exact gl (gE (gze hm [0, 1, 2] rfl))
   exact gcf rfl (gSk (gze hm [0, 1, 2] rfl))
  repeat clear hm
  intro aB w hm
  exact gR (gM rfl (gY (yG rfl (y_nilptr rfl rfl)) (gF fo_80_2 rfl (gL hm 0 isAgg3 rfl (gB rfl (gY (yG rfl (y_nilptr rfl rfl)) (gF fo_80_2 rfl (gS1 hm 0 sizeOf3 rfl rfl fun w hm => gE (gxn (gre results57 ⟨_, rfl, ⟨v2p, v3p, rfl, hm.pk [0, 1, 2] rfl rfl⟩⟩))))))))))
theorem pimpl_running__doIns_1_ok (w0 : World) (i_ : Int) (c0_ : List Int) (v1 : Value) (h1 : GT.rep (hp w0) [v1] c0_) (bf0 : Nat) (hbf0 : w0.heap[bf0]? = some (.cells ([v1] : List Value).toArray 26 (0, 0))) (c1_ : Ins_) (v2 : Value) (h2 : GT.rep (hp w0) [v2] c1_.args) (bf1 : Nat) (hbf1 : w0.heap[bf1]? = some (.cells ([(nV c1_.op), (nV c1_.to), v2, (nV c1_.n_)] : List Value).toArray 75 (0, 0))) :
    ConM Try.prog 78 [(nV i_), (pV bf0), (pV bf1)] w0 (pimpl_running__doIns_1 i_ c0_ c1_) fun r v w' => v = (nV r) ∧ Below w0.heap.size w0 w' := by
  unfold pimpl_running__doIns_1
  refine gcon func78 rfl fun r => ?_
  have hm := Mem.start w0
  refine gS (gR (gA rfl (gE (gS (gW (.p 1 (.p 3 (.q 0 (.e 2 (.p 4 (.e 5 (.p 6 (.e 7 (.p 8 .fin) .nil)) .nil)) .nil)))) [2, 5] [1, 3, 4, 6, 8] hm [] [] rfl mxo (by kernel_rfl) (fun _ _ _ h => h.2) fun w hm hS => tP rfl (fun w => yF fo_75_2 rfl) (tP rfl (fun w => yM rfl) (tQ rfl hS (fun w hm => yl isAgg26 (hm.old_cell hbf0 rfl) rfl) (tO (tY rfl (yl isAgg26 (hm.old_cell hbf1 rfl) rfl) (tAs hS (gg fun aC aD aA => ?_)))))))))))
  obtain ⟨aG, aH, aI, he⟩ := idx_form h2 aA
  subst he
  refine tP rfl (fun w => yI st_26 aD (idx_lt aA) rfl) (tO (tY rfl (yl isAgg3 ((flat_cells (cs := [(nV aC)]) (hm.now h2) aA rfl).cell (j := 0) rfl) rfl) (tAs hS (gg fun aE aF aB => ?_))))
  obtain ⟨aJ, aK, aL, he⟩ := idx_form h1 aB
  subst he
  exact tP rfl (fun w => yI st_26 aF (idx_lt aB) rfl) (tO (tY rfl (yl isAgg3 ((flat_cells (cs := [(nV aE)]) (hm.now h1) aB rfl).cell (j := 0) rfl) rfl) (tAn rfl (tP rfl (fun w => yA rfl) (tE (gRt (gr1 results78 rfl ⟨rfl, hm.below⟩)))))))
theorem pimpl_running__cell_ok (w0 : World) (m : running) (bp0 : Nat) (v1p : Value) (h1p : GT.rep (hp w0) [v1p] m.u.codes) (v2p : Value) (h2p : GT.rep (hp w0) [v2p] m.said) (v3p : Value) (h3p : GT.rep (hp w0) [v3p] m.trace) (hbbp0 : (hp w0) bp0 = some (.cells ((v1p :: (nV m.steps) :: (nV m.used) :: v2p :: q16 m.cells [v3p]) : List Value).toArray 80 (0, 0))) (n_ : Int) :
    ConXM Try.prog 79 [(pV bp0), (nV n_)] w0 (pimpl_running__cell m n_) (fun r v w' => ∃ q, r = .inl q ∧ (v = (.pointer (some ⟨bp0, 4 + (q).toNat, none⟩)) ∧ (0 ≤ q ∧ (q).toNat < 16) ∧ Below w0.heap.size w0 w')) fun r c w' => ∃ q, r = .inr q ∧ (c = pch 97 q ∧ Below w0.heap.size w0 w') := by
  unfold pimpl_running__cell
  refine gconx func79 rfl fun r => ?_
  have hm := Mem.start w0
  refine gS (gR (gA rfl (gE (gS (gS (gR (gM rfl (gB rfl (gE (gJe hm (fun aB => [(0, (pV bp0)), (1, (nV n_))]) (fun aB => []) (fun aI aE => ?_) ?_))))))))))
  ·
   refine gsd 6 rfl (fun aF => ?_) fun aF => ?_
   ·
    refine gct rfl (gR (gb fun aJ aG => gfx rfl (fun a hf => e_callx hf rfl call81 rfl (impl_stop_ok _ 2 _ aG)) ?_ ?_))
    ·
     rintro c w ⟨aK, rfl, aA⟩
     obtain ⟨rfl, hB⟩ := aA
     replace hm := hm.below' hB; clear hB
     exact gr (gEr aE (gth ⟨_, rfl, rfl, hm.below⟩))
    rintro aL w ⟨aM, rfl, aA⟩
    obtain ⟨rfl, hB⟩ := aA
    replace hm := hm.below' hB; clear hB
    exact gl (gE (gze hm [] rfl))
   exact gcf rfl (gSk (gze hm [] rfl))
  repeat clear hm
  intro aB w hm
  refine gS (gR (gM rfl (gM rfl (gY (yG rfl (y_nilptr rfl rfl)) (gF fo_80_4 rfl (gb fun aN aH => ?_))))))
  obtain ⟨aC, aD, rfl⟩ := idxA_some.1 aH
  exact gY (yG rfl (y_indexArr1 underlying78 sizeOf3 rfl rfl rfl aC aD)) (gA rfl (gE (gRt (gx (gr1 results79 rfl ⟨_, rfl, ⟨rfl, ⟨aC, aD⟩, hm.below⟩⟩)))))
theorem impl_arith_1_ok (w0 : World) (yes : Bool) :
    ConM Try.prog 96 [(.bool (yes))] w0 (impl_arith_1 yes) fun r v w' => v = (nV r) ∧ Below w0.heap.size w0 w' := by
  unfold impl_arith_1
  refine gcon func96 rfl fun r => ?_
  have hm := Mem.start w0
  refine gS (gR (gA rfl (gE (gS (gS (gR (gM rfl (gE (gs 3 rfl (fun aA => ?_) fun aA => ?_)))))))))
  ·
   exact gct rfl (gS (gR (gA rfl (gE (gRt (gr1 results96 rfl ⟨rfl, hm.below⟩))))))
  exact gcf rfl (gSk (gS (gR (gA rfl (gE (gRt (gr1 results96 rfl ⟨rfl, hm.below⟩)))))))
theorem impl_arith_ok (w0 : World) (op : Int) (a_ : Int) (b_ : Int) :
    ConM Try.prog 80 [(nV op), (nV a_), (nV b_)] w0 (impl_arith op a_ b_) fun r v w' => v = (.tuple #[(nV r.1), (.bool (r.2))]) ∧ Below w0.heap.size w0 w' := by
  unfold impl_arith
  refine gcon func80 rfl fun r => ?_
  have hm := Mem.start w0
  refine gS (gR (gA rfl (gA rfl (gE (gS (gR (gA rfl (gE (gS (gS (gR (gM rfl (gE (gBk (gS (gR (gB rfl (gA rfl (gE (gsd 10 rfl (fun aC => ?_) fun aC => ?_))))))))))))))))))))
  ·
   exact gct rfl (gS (gR (gM rfl (gM rfl (gB rfl (gY (yG rfl (y_rem rfl rfl rfl (by decide))) (gA rfl (gA rfl (gE (gRt (gr2 results80 rfl ⟨rfl, hm.below⟩)))))))))))
  refine gcf rfl (gS (gR (gB rfl (gA rfl (gE (gsd 16 rfl (fun aD => ?_) fun aD => ?_))))))
  ·
   exact gct rfl (gS (gR (gM rfl (gM rfl (gB rfl (gB rfl (gY (yG rfl (y_rem rfl rfl rfl (by decide))) (gA rfl (gA rfl (gE (gRt (gr2 results80 rfl ⟨rfl, hm.below⟩))))))))))))
  refine gcf rfl (gS (gR (gB rfl (gA rfl (gE (gsd 23 rfl (fun aE => ?_) fun aE => ?_))))))
  ·
   exact gct rfl (gS (gR (gM rfl (gM rfl (gB rfl (gY (yG rfl (y_rem rfl rfl rfl (by decide))) (gA rfl (gA rfl (gE (gRt (gr2 results80 rfl ⟨rfl, hm.below⟩)))))))))))
  refine gcf rfl (gS (gS (gR (gB rfl (gA rfl (gE (gJ hm (fun aA => [(0, (nV op)), (1, (nV a_)), (2, (nV b_)), (8, (.func (.func 96) #[] #[])), (9, (nV op)), (29, (.bool (aA)))]) (fun aA => []) (fun aA => ?_) ?_)))))))
  ·
   refine gsd 29 rfl (fun aF => ?_) fun aF => ?_
   ·
    exact gct rfl (gSk (gz hm [] rfl))
   exact gcf rfl (gR (gB rfl (gA rfl (gE (gz hm [] rfl)))))
  repeat clear hm
  intro aA w hm
  refine gs 29 rfl (fun aG => ?_) fun aG => ?_
  ·
   refine gct rfl (gS (gS (gR (gM rfl (gB rfl (gE (gsd 33 rfl (fun aH => ?_) fun aH => ?_)))))))
   ·
    exact gct rfl (gS (gR (gA rfl (gA rfl (gE (gRt (gr2 results80 rfl ⟨rfl, hm.below⟩)))))))
   refine gcf rfl (gSk (gS (gS (gR (gM rfl (gB rfl (gE (gsd 35 rfl (fun aI => ?_) fun aI => ?_))))))))
   ·
    refine gct rfl (gS (gR (gM rfl (gM rfl (gb fun aW aJ => ?_)))))
    obtain ⟨aK, rfl⟩ := quoM_some.1 aJ
    exact gY (yG rfl (y_quo rfl rfl rfl aK)) (gA rfl (gA rfl (gE (gRt (gr2 results80 rfl ⟨rfl, hm.below⟩)))))
   refine gcf rfl (gSk (gS (gR (gM rfl (gM rfl (gb fun aX aL => ?_))))))
   obtain ⟨aM, rfl⟩ := remM_some.1 aL
   exact gY (yG rfl (y_rem rfl rfl rfl aM)) (gA rfl (gA rfl (gE (gRt (gr2 results80 rfl ⟨rfl, hm.below⟩)))))
  refine gcf rfl (gS (gR (gB rfl (gA rfl (gE (gsd 42 rfl (fun aN => ?_) fun aN => ?_))))))
  ·
   refine gct rfl (gS (gR (gM rfl (gM rfl (gM rfl (gB rfl (gb fun aY aO => gf rfl (fun a hf => e_callv hf rfl rfl rfl ⟨96, [], rfl, call96, impl_arith_1_ok _ (decide (a_ < b_)) _ aO⟩) ?_)))))))
   rintro aZ w ⟨rfl, hB⟩
   replace hm := hm.below' hB; clear hB
   exact gA rfl (gA rfl (gE (gRt (gr2 results80 rfl ⟨rfl, hm.below⟩))))
  refine gcf rfl (gS (gR (gB rfl (gA rfl (gE (gsd 49 rfl (fun aP => ?_) fun aP => ?_))))))
  ·
   refine gct rfl (gS (gR (gM rfl (gM rfl (gM rfl (gB rfl (gb fun aa aQ => gf rfl (fun a hf => e_callv hf rfl rfl rfl ⟨96, [], rfl, call96, impl_arith_1_ok _ (decide (a_ = b_)) _ aQ⟩) ?_)))))))
   rintro ab w ⟨rfl, hB⟩
   replace hm := hm.below' hB; clear hB
   exact gA rfl (gA rfl (gE (gRt (gr2 results80 rfl ⟨rfl, hm.below⟩))))
  refine gcf rfl (gS (gR (gB rfl (gA rfl (gE (gsd 56 rfl (fun aR => ?_) fun aR => ?_))))))
  ·
   refine gct rfl (gS (gJ hm (fun aB => [(6, (nV aB)), (7, (.bool (true)))]) (fun aB => []) (fun aB => ?_) ?_))
   ·
    refine gR (gM rfl (gM rfl (gB rfl (gM rfl (gsd 61 rfl (fun aS => ?_) fun aS => ?_)))))
    ·
     refine gM rfl (gB rfl (gKt rfl (gb fun ac aT => gf rfl (fun a hf => e_callv hf rfl rfl rfl ⟨96, [], rfl, call96, impl_arith_1_ok _ (decide (b_ ≠ 0)) _ aT⟩) ?_)))
     rintro ae w ⟨rfl, hB⟩
     replace hm := hm.below' hB; clear hB
     exact gA rfl (gA rfl (gE (gz hm [] rfl)))
    refine gO rfl (gO rfl (gKf rfl (gb fun af aU => gf rfl (fun a hf => e_callv hf rfl rfl rfl ⟨96, [], rfl, call96, impl_arith_1_ok _ false _ aU⟩) ?_)))
    rintro ag w ⟨rfl, hB⟩
    replace hm := hm.below' hB; clear hB
    exact gA rfl (gA rfl (gE (gz hm [] rfl)))
   repeat clear hm
   intro aB w hm
   exact gRt (gr2 results80 rfl ⟨rfl, hm.below⟩)
  refine gcf rfl (gSk (gS (gR (gM rfl (gM rfl (gB rfl (gb fun ah aV => gf rfl (fun a hf => e_callv hf rfl rfl rfl ⟨96, [], rfl, call96, impl_arith_1_ok _ (decide (a_ = 0)) _ aV⟩) ?_)))))))
  rintro ai w ⟨rfl, hB⟩
  replace hm := hm.below' hB; clear hB
  exact gA rfl (gA rfl (gE (gRt (gr2 results80 rfl ⟨rfl, hm.below⟩))))
theorem pimpl_running__code_all : (∀ (m : running) (k_ : Int) (in_ : List Int) (main : Bool) (r : (Int × running) ⊕ (Int × running)), pimpl_running__code m k_ in_ main = some r → ∀ (w0 : World) (hz : Heap) (bp0 : Nat) (v1p : Value) (h1p : GT.rep hz [v1p] m.u.codes) (v2p : Value) (v3p : Value) (v1 : Value) (h1 : GT.rep hz [v1] in_) (hm0 : Mem w0 hz w0 [blk bp0 (v1p :: (nV m.steps) :: (nV m.used) :: v2p :: q16 m.cells [v3p]) 80, ow [v2p] m.said, ow [v3p] m.trace]), ConX Try.prog 35 [(pV bp0), (nV k_), v1, (.bool (main))] w0 (fun v w' => ∃ q, r = .inl q ∧ (∃ (x2 : Value) (x3 : Value), v = (nV q.1) ∧ Mem w0 hz w' [blk bp0 (v1p :: (nV q.2.steps) :: (nV q.2.used) :: x2 :: q16 q.2.cells [x3]) 80, ow [x2] q.2.said, ow [x3] q.2.trace])) (fun c w' => ∃ q, r = .inr q ∧ (∃ (x2 : Value) (x3 : Value), c = pch 97 q.1 ∧ Mem w0 hz w' [blk bp0 (v1p :: (nV q.2.steps) :: (nV q.2.used) :: x2 :: q16 q.2.cells [x3]) 80, ow [x2] q.2.said, ow [x3] q.2.trace]))) ∧
    (∀ (m : running) (x_ : Ins_) (regs : List Int) (r : (running × (List Int)) ⊕ (Int × running × (List Int))), pimpl_running__doIns m x_ regs = some r → ∀ (w0 : World) (hz : Heap) (bp0 : Nat) (v1p : Value) (h1p : GT.rep hz [v1p] m.u.codes) (v2p : Value) (v3p : Value) (v1 : Value) (h1 : GT.rep hz [v1] x_.args) (v2 : Value) (hm0 : Mem w0 hz w0 [blk bp0 (v1p :: (nV m.steps) :: (nV m.used) :: v2p :: q16 m.cells [v3p]) 80, ow [v2p] m.said, ow [v3p] m.trace, ow [v2] regs]), ConX Try.prog 56 [(pV bp0), (.agg #[(nV x_.op), (nV x_.to), v1, (nV x_.n_)]), v2] w0 (fun v w' => ∃ q, r = .inl q ∧ (∃ (x2 : Value) (x3 : Value), v = (.tuple #[]) ∧ Mem w0 hz w' [blk bp0 (v1p :: (nV q.1.steps) :: (nV q.1.used) :: x2 :: q16 q.1.cells [x3]) 80, ow [x2] q.1.said, ow [x3] q.1.trace, ow [v2] q.2])) (fun c w' => ∃ q, r = .inr q ∧ (∃ (x2 : Value) (x3 : Value), c = pch 97 q.1 ∧ Mem w0 hz w' [blk bp0 (v1p :: (nV q.2.1.steps) :: (nV q.2.1.used) :: x2 :: q16 q.2.1.cells [x3]) 80, ow [x2] q.2.1.said, ow [x3] q.2.1.trace, ow [v2] q.2.2]))) := by
  refine pimpl_running__code.mutual_partial_correctness (motive_1 := fun m k_ in_ main r => ∀ (w0 : World) (hz : Heap) (bp0 : Nat) (v1p : Value) (h1p : GT.rep hz [v1p] m.u.codes) (v2p : Value) (v3p : Value) (v1 : Value) (h1 : GT.rep hz [v1] in_) (hm0 : Mem w0 hz w0 [blk bp0 (v1p :: (nV m.steps) :: (nV m.used) :: v2p :: q16 m.cells [v3p]) 80, ow [v2p] m.said, ow [v3p] m.trace]), ConX Try.prog 35 [(pV bp0), (nV k_), v1, (.bool (main))] w0 (fun v w' => ∃ q, r = .inl q ∧ (∃ (x2 : Value) (x3 : Value), v = (nV q.1) ∧ Mem w0 hz w' [blk bp0 (v1p :: (nV q.2.steps) :: (nV q.2.used) :: x2 :: q16 q.2.cells [x3]) 80, ow [x2] q.2.said, ow [x3] q.2.trace])) (fun c w' => ∃ q, r = .inr q ∧ (∃ (x2 : Value) (x3 : Value), c = pch 97 q.1 ∧ Mem w0 hz w' [blk bp0 (v1p :: (nV q.2.steps) :: (nV q.2.used) :: x2 :: q16 q.2.cells [x3]) 80, ow [x2] q.2.said, ow [x3] q.2.trace]))) (motive_2 := fun m x_ regs r => ∀ (w0 : World) (hz : Heap) (bp0 : Nat) (v1p : Value) (h1p : GT.rep hz [v1p] m.u.codes) (v2p : Value) (v3p : Value) (v1 : Value) (h1 : GT.rep hz [v1] x_.args) (v2 : Value) (hm0 : Mem w0 hz w0 [blk bp0 (v1p :: (nV m.steps) :: (nV m.used) :: v2p :: q16 m.cells [v3p]) 80, ow [v2p] m.said, ow [v3p] m.trace, ow [v2] regs]), ConX Try.prog 56 [(pV bp0), (.agg #[(nV x_.op), (nV x_.to), v1, (nV x_.n_)]), v2] w0 (fun v w' => ∃ q, r = .inl q ∧ (∃ (x2 : Value) (x3 : Value), v = (.tuple #[]) ∧ Mem w0 hz w' [blk bp0 (v1p :: (nV q.1.steps) :: (nV q.1.used) :: x2 :: q16 q.1.cells [x3]) 80, ow [x2] q.1.said, ow [x3] q.1.trace, ow [v2] q.2])) (fun c w' => ∃ q, r = .inr q ∧ (∃ (x2 : Value) (x3 : Value), c = pch 97 q.1 ∧ Mem w0 hz w' [blk bp0 (v1p :: (nV q.2.1.steps) :: (nV q.2.1.used) :: x2 :: q16 q.2.1.cells [x3]) 80, ow [x2] q.2.1.said, ow [x3] q.2.1.trace, ow [v2] q.2.2]))) ?_ ?_
  · intro rec_ ih_ m k_ in_ main r hq w0 hz bp0 v1p h1p v2p v3p v1 h1 hm0
    have pimpl_running__doIns_rec : ∀ (w0 : World) (hz : Heap) (m : running) (bp0 : Nat) (v1p : Value) (h1p : GT.rep hz [v1p] m.u.codes) (v2p : Value) (v3p : Value) (x_ : Ins_) (v1 : Value) (h1 : GT.rep hz [v1] x_.args) (regs : List Int) (v2 : Value) (hm0 : Mem w0 hz w0 [blk bp0 (v1p :: (nV m.steps) :: (nV m.used) :: v2p :: q16 m.cells [v3p]) 80, ow [v2p] m.said, ow [v3p] m.trace, ow [v2] regs]) (r : (running × (List Int)) ⊕ (Int × running × (List Int))) (hq : rec_ m x_ regs = some r), ConX Try.prog 56 [(pV bp0), (.agg #[(nV x_.op), (nV x_.to), v1, (nV x_.n_)]), v2] w0 (fun v w' => ∃ q, r = .inl q ∧ (∃ (x2 : Value) (x3 : Value), v = (.tuple #[]) ∧ Mem w0 hz w' [blk bp0 (v1p :: (nV q.1.steps) :: (nV q.1.used) :: x2 :: q16 q.1.cells [x3]) 80, ow [x2] q.1.said, ow [x3] q.1.trace, ow [v2] q.2])) (fun c w' => ∃ q, r = .inr q ∧ (∃ (x2 : Value) (x3 : Value), c = pch 97 q.1 ∧ Mem w0 hz w' [blk bp0 (v1p :: (nV q.2.1.steps) :: (nV q.2.1.used) :: x2 :: q16 q.2.1.cells [x3]) 80, ow [x2] q.2.1.said, ow [x3] q.2.1.trace, ow [v2] q.2.2])) := fun w0 hz m bp0 v1p h1p v2p v3p x_ v1 h1 regs v2 hm0 r hq => ih_ m x_ regs r hq w0 hz bp0 v1p h1p v2p v3p v1 h1 v2 hm0
    refine gconxr (ρ := (Int × running) ⊕ (Int × running)) (R := fun r v w' => ∃ q, r = .inl q ∧ (∃ (x2 : Value) (x3 : Value), v = (nV q.1) ∧ Mem w0 hz w' [blk bp0 (v1p :: (nV q.2.steps) :: (nV q.2.used) :: x2 :: q16 q.2.cells [x3]) 80, ow [x2] q.2.said, ow [x3] q.2.trace])) (X := fun r c w' => ∃ q, r = .inr q ∧ (∃ (x2 : Value) (x3 : Value), c = pch 97 q.1 ∧ Mem w0 hz w' [blk bp0 (v1p :: (nV q.2.steps) :: (nV q.2.used) :: x2 :: q16 q.2.cells [x3]) 80, ow [x2] q.2.said, ow [x3] q.2.trace])) func35 rfl hq ?_
    have hm := hm0
    refine gS (gR (gA rfl (gE (gS (gR (gM rfl (gY (yG rfl (y_nilptr rfl rfl)) (gF fo_80_0 rfl (gF fo_25_0 rfl (gL hm 0 isAgg23 rfl (gM rfl (gg fun aH cu bj => ?_))))))))))))
    obtain ⟨aF, aR, aC, he⟩ := idx_form' h1p bj
    subst he
    obtain ⟨bF, cv, bG⟩ := rk_Code_ h1p bj
    refine gI st_23 cu (idx_lt bj) rfl (gY (yn (cv.mono hm.lez) isAgg59 sizeOf59 rfl) (gAl hm zeroValue59 rfl fun aD w hm => gSN hm 0 sizeOf59 (one_cons rfl (one_cons rfl (one_cons (rep_one bG) one_nil))) rfl fun w hm => gE (gS (gR (gF fo_59_1 rfl (gL hm 0 isAgg3 rfl (gb fun aB cw => ?_)))))))
    obtain ⟨⟨cx, cy⟩, cZ⟩ := makeM_some.1 cw
    refine gf rfl (fun a hf => e_make (x0 := (0 : Int)) et_26 (fun _ => (Flat.own_iff.2 rfl)) hf hm rfl rfl rfl cx (Int.le_refl _) cy) ?_
    rintro c5 w hm
    rw [cZ] at hm
    have h0_3l : (aB.length : Int) = aH.regs := by rw [← cZ]; simp only [List.length_replicate]; omega
    refine gAl hm zeroValue26 rfl fun aN w hm => gS1 hm 0 sizeOf26 (rep_one (hm.ow_rep 1 rfl)) rfl fun w hm => gE (gS (gR (gL hm 0 isAgg26 rfl (gM rfl (gf rfl (fun a hf => e_copy (α := Int) (xs := aB) (ys := in_) (lo := 0) (hi := aB.length) 1 st_26 (show 0 < 1 from by decide) hf hm rfl (hm.now h1) rfl (by rw [hm.subV_whole (α := Int) 1 rfl]; rfl) rfl (Nat.zero_le _) (Nat.le_refl _)) ?_)))))
    rintro _ w ⟨rfl, hm⟩
    refine gE (gS (gR (gA rfl (gA rfl (gE ?_)))))
    obtain ⟨aG, c6, rfl, cz⟩ := ro_slice (hm.ow_rep 4 rfl)
    obtain ⟨dA, dB, rfl, fA⟩ := ro_slice (hm.ow_rep 5 rfl)
    obtain ⟨aL, aM, rfl, fB⟩ := ro_slice (hm.ow_rep 1 rfl)
    refine gBk (gMg (fun aE a w => ∃ (aS aZ : Value), St 128 [(0, (pV bp0)), (3, (.bool (main))), (9, (pV aD)), (10, (pV aN)), (11, (nV aE.2.2.2.2.2.2.1)), (12, (nV aE.2.2.2.2.2.2.2))] w0 hz [blk bp0 ((sV aF aR m.u.codes.length aC) :: (nV aE.1) :: (nV aE.2.1) :: aS :: q16 aE.2.2.2.1 [aZ]) 80, ow [aS] aE.2.2.1, ow [aZ] aE.2.2.2.2.1, blk aD [(nV aH.params), (nV aH.regs), bF] 59, blk aN [(.slice aL (copyL aB in_ 0 aB.length).length aM)] 26, ow [(.slice aL (copyL aB in_ 0 aB.length).length aM)] aE.2.2.2.2.2.1] a w) (fun a hf => ⟨(.slice aG m.said.length c6), (.slice dA m.trace.length dB), hf.sb rfl, hm.pk [3, 4, 5, 2, 0, 1] rfl rfl⟩) ?_)
    repeat clear hm
    rintro dC aa aE a w ⟨aS, aZ, hf, hm⟩ aA ag
    refine gv hf (gBk (gS (gS (gR (gM rfl (gE (gJg (fun aO a w => ∃ (ah : Value), St 128 [(0, (pV bp0)), (3, (.bool (main))), (9, (pV aD)), (10, (pV aN)), (11, (nV aE.2.2.2.2.2.2.1)), (12, (nV aE.2.2.2.2.2.2.2))] w0 hz [blk bp0 ((sV aF aR m.u.codes.length aC) :: (nV aE.1) :: (nV aE.2.1) :: aS :: q16 aE.2.2.2.1 [ah]) 80, ow [aS] aE.2.2.1, ow [ah] aO, blk aD [(nV aH.params), (nV aH.regs), bF] 59, blk aN [(.slice aL (copyL aB in_ 0 aB.length).length aM)] 26, ow [(.slice aL (copyL aB in_ 0 aB.length).length aM)] aE.2.2.2.2.2.1] a w) (fun aO => ?_) ?_)))))))
    ·
     refine gs 34 rfl (fun bk => ?_) fun bk => ?_
     ·
      refine gct rfl (gR (gM rfl (gM rfl (gY (yG rfl (y_nilptr rfl rfl)) (gF fo_80_5 rfl (gL hm 0 isAgg26 rfl (gM rfl (gf rfl (fun a hf => e_build (vs := #[(0, (nV aE.2.2.2.2.2.2.1))]) (cs := [(nV aE.2.2.2.2.2.2.1)]) et_26 hf hm rfl rfl (by kernel_rfl) rfl rfl) ?_))))))))
      rintro _ w ⟨dD, rfl, hm⟩
      replace hm := hm.lit (xs := ([aE.2.2.2.2.2.2.1] : List Int)) 0 rfl rfl rfl rfl
      refine gb fun fC dE => ?_
      obtain ⟨bm, dF⟩ := appM_some.1 dE
      refine gf rfl (fun a hf => e_append 3 et_26 hf hm rfl (hm.ow_rep 0 rfl) rfl rfl rfl bm) ?_
      rintro an w hm
      rw [dF] at hm
      exact gY (yG rfl (y_nilptr rfl rfl)) (gF fo_80_5 rfl (gS1 hm 1 sizeOf26 (rep_one (hm.ow_rep 3 rfl)) rfl fun w hm => gE (gZ fun a hf => ⟨an, hf.sb rfl, hm.pk [1, 2, 3, 4, 5, 6] rfl rfl⟩)))
     exact gcf rfl (gSk (gZ fun a hf => ⟨aZ, hf.sb rfl, hm.pk [0, 1, 2, 3, 4, 5] rfl rfl⟩))
    repeat clear hm
    rintro aO a w ⟨ah, hf, hm⟩
    refine gv hf (gS (gR (gF fo_59_2 rfl (gL hm 3 isAgg57 rfl (gM rfl (gg fun aK dG bo => ?_))))))
    obtain ⟨aX, aY, aV, he⟩ := idx_form' bG bo
    subst he
    obtain ⟨ai, bH, ab, dH, ao, bJ, av⟩ := rk_Block_ bG bo
    refine gI st_57 dG (idx_lt bo) rfl (gY (yn (dH.mono hm.lez) isAgg71 sizeOf71 rfl) (gAl hm zeroValue71 rfl fun aU w hm => gSN hm 0 sizeOf71 (one_cons (rep_one ao) (one_cons (rep_one bJ) (one_cons rfl (one_cons rfl (one_cons (rep_one av) one_nil))))) rfl fun w hm => gE (gS (gS (gJ hm (fun bK => [(0, (pV bp0)), (3, (.bool (main))), (9, (pV aD)), (10, (pV aN)), (11, (nV aE.2.2.2.2.2.2.1)), (12, (nV aE.2.2.2.2.2.2.2)), (13, (pV aU)), (57, (.bool (bK)))]) (fun bK => [blk bp0 ((sV aF aR m.u.codes.length aC) :: (nV aE.1) :: (nV aE.2.1) :: aS :: q16 aE.2.2.2.1 [ah]) 80, ow [aS] aE.2.2.1, ow [ah] aO, blk aD [(nV aH.params), (nV aH.regs), (sV aX aY aH.blocks.length aV)] 59, blk aN [(.slice aL (copyL aB in_ 0 aB.length).length aM)] 26, ow [(.slice aL (copyL aB in_ 0 aB.length).length aM)] aE.2.2.2.2.2.1, blk aU [ai, bH, (nV aK.jump), (nV aK.on), ab] 71]) (fun bK => ?_) ?_)))))
    ·
     refine gR (gM rfl (gB rfl (gM rfl (gsd 52 rfl (fun dI => ?_) fun dI => ?_))))
     ·
      refine gF fo_71_0 rfl (gL hm 0 isAgg68 rfl ?_)
      obtain ⟨fD, dJ, rfl, fE⟩ := ro_slice ao
      exact gY (yV st_68 rfl) (gB rfl (gKt rfl (gE (gz hm [1, 2, 3, 4, 5, 6, 0] rfl))))
     exact gO rfl (gO rfl (gO rfl (gO rfl (gKf rfl (gE (gz hm [1, 2, 3, 4, 5, 6, 0] rfl))))))
    repeat clear hm
    intro bK w hm
    refine gJ hm (fun bL => [(0, (pV bp0)), (3, (.bool (main))), (9, (pV aD)), (10, (pV aN)), (11, (nV aE.2.2.2.2.2.2.1)), (13, (pV aU))]) (fun bL => [blk bp0 ((sV aF aR m.u.codes.length aC) :: (nV aE.1) :: (nV aE.2.1) :: aS :: q16 aE.2.2.2.1 [ah]) 80, ow [aS] aE.2.2.1, ow [ah] aO, blk aD [(nV aH.params), (nV aH.regs), (sV aX aY aH.blocks.length aV)] 59, blk aN [(.slice aL (copyL aB in_ 0 aB.length).length aM)] 26, ow [(.slice aL (copyL aB in_ 0 aB.length).length aM)] bL, blk aU [ai, bH, (nV aK.jump), (nV aK.on), ab] 71]) (fun bL => ?_) ?_
    ·
     refine gs 57 rfl (fun dK => ?_) fun dK => ?_
     ·
      refine gct rfl (gS (gR (gY (yn (hm.blk_at 3 rfl) isAgg59 sizeOf59 rfl) (gM rfl (gCg rfl call53 (impl_PredsOf_ok _ aH (sV aX aY aH.blocks.length aV) (hm.now bG) aE.2.2.2.2.2.2.1) ?_)))))
      rintro dL aw aq w ⟨_, rfl, hB⟩
      replace hm := hm.give hB; clear hB
      refine gM rfl (gC hm rfl call52 (slices_Index_S_int_int_ok _ dL aq (hm.ow_rep 0 rfl) aE.2.2.2.2.2.2.2) fun c7 dM w hm => gAl hm zeroValue3 rfl fun bp w hm => gS1 hm 0 sizeOf3 rfl rfl fun w hm => gE (gS (gR (gF fo_71_0 rfl (gL hm 8 isAgg68 rfl (gY (yU rfl) (gCg rfl call54 (impl_mapped_impl_Phi_int_ok _ aK.phis ai (hm.now ao) (fun y0 => pimpl_running__code_1 y0 aE.2.2.2.2.2.1 c7) (.func (.func 55) #[] #[(pV aN), (pV bp)]) (fun w y0 dN dO r hB hq => ⟨55, [(pV aN), (pV bp)], rfl, call55, pimpl_running__code_1_ok w y0 dN dO aE.2.2.2.2.2.1 (.slice aL (copyL aB in_ 0 aB.length).length aM) (rep_later (hm.ow_rep 7 rfl) hB) aN (hm.blk_later 6 rfl hB) c7 bp (hm.blk_later 0 rfl hB) r hq⟩)) ?_)))))))
      rintro ax fF fG w ⟨_, rfl, hB⟩
      replace hm := hm.give hB; clear hB
      refine gA rfl (gE (gS (gR (gF fo_71_0 rfl (gL hm 9 isAgg68 rfl ?_)))))
      obtain ⟨c8, bM, rfl, fH⟩ := ro_slice ao
      refine gY (yV st_68 rfl) (gM rfl (gE ?_))
      obtain ⟨bN, bO, rfl, fI⟩ := ro_slice (hm.ow_rep 4 rfl)
      obtain ⟨bP, bQ, rfl, fJ⟩ := ro_slice (hm.ow_rep 5 rfl)
      obtain ⟨bq, br, rfl, fK⟩ := ro_slice (hm.ow_rep 0 rfl)
      refine gBk (gNf hm (fun bt bR => [(0, (pV bp0)), (3, (.bool (main))), (9, (pV aD)), (10, (pV aN)), (11, (nV aE.2.2.2.2.2.2.1)), (13, (pV aU)), (15, (.slice bq ax.length br)), (68, (.slice c8 aK.phis.length bM)), (69, (nV ((aK.phis.length : Int)))), (70, (nV bt))]) (fun bt bR => [blk bp0 ((sV aF aR m.u.codes.length aC) :: (nV aE.1) :: (nV aE.2.1) :: (.slice bN aE.2.2.1.length bO) :: q16 aE.2.2.2.1 [(.slice bP aO.length bQ)]) 80, ow [(.slice bN aE.2.2.1.length bO)] aE.2.2.1, ow [(.slice bP aO.length bQ)] aO, blk aD [(nV aH.params), (nV aH.regs), (sV aX aY aH.blocks.length aV)] 59, blk aN [(.slice aL (copyL aB in_ 0 aB.length).length aM)] 26, ow [(.slice aL (copyL aB in_ 0 aB.length).length aM)] bR, blk aU [(.slice c8 aK.phis.length bM), bH, (nV aK.jump), (nV aK.on), ab] 71, ow [(.slice bq ax.length br)] ax]) [3, 4, 5, 6, 7, 8, 9, 0] rfl ?_ ?_)
      ·
       repeat clear hm
       intro _ _ bt bR w hm fL fM fN _
       refine gS (gR (gB rfl (gE (gS (go _ 71 rfl (decide_eq_true (by omega)) (gct rfl (gSk (gS (gBk (gS (gR (gM rfl (gg fun c9 bu ay => ?_)))))))))))))
       obtain ⟨ca, cb, dP, he⟩ := idx_form' ao ay
       obtain ⟨rfl, _, rfl⟩ := sl3 he
       obtain ⟨cd, dQ, ce⟩ := rk_Phi_ ao ay
       refine gI st_68 bu (idx_lt ay) rfl (gY (yn (dQ.mono hm.lez) isAgg66 sizeOf66 rfl) (gAl hm zeroValue66 rfl fun dR w hm => gA rfl (gSN hm 0 sizeOf66 (one_cons rfl (one_cons (rep_one ce) one_nil)) rfl fun w hm => gE (gWx (.p 1 (.p 3 (.p 4 (.p 5 (.q 0 (.q 2 (.e 6 (.p 7 (.e 8 .fin .nil)) .nil))))))) [0, 2, 6] [1, 3, 4, 5, 7] hm [0, 1, 2, 3, 4, 5, 6, 7, 8] [blk dR [(nV c9.to), cd] 66, blk bp0 ((sV aF aR m.u.codes.length aC) :: (nV aE.1) :: (nV aE.2.1) :: (.slice bN aE.2.2.1.length bO) :: q16 aE.2.2.2.1 [(.slice bP aO.length bQ)]) 80, ow [(.slice bN aE.2.2.1.length bO)] aE.2.2.1, ow [(.slice bP aO.length bQ)] aO, blk aD [(nV aH.params), (nV aH.regs), (sV aX aY aH.blocks.length aV)] 59, blk aN [(.slice aL (copyL aB in_ 0 aB.length).length aM)] 26, ow [(.slice aL (copyL aB in_ 0 aB.length).length aM)] bR, blk aU [(sV ca cb aK.phis.length bM), bH, (nV aK.jump), (nV aK.on), ab] 71, ow [(.slice bq ax.length br)] ax] rfl mxo (by kernel_rfl) (fun _ _ _ _ e h => ⟨e.symm.trans h.1, h.2⟩) fun w hm hS => tP rfl (fun w => yF fo_66_0 rfl) (tP rfl (fun w => yM rfl) (tP rfl (fun w => yM rfl) (gg fun bS bv ac => ?_)))))))
       obtain ⟨fO, fP, dS, he⟩ := idx_form (hm.ow_rep 8 rfl) ac
       obtain ⟨rfl, _, rfl⟩ := sl3 he
       refine tP rfl (fun w => yI st_26 bv (idx_lt ac) rfl) (tQ rfl hS (fun w hm => yL hm 5 isAgg26 rfl) (tQ rfl hS (fun w hm => yL hm 0 isAgg3 rfl) (tO (tY rfl (yl isAgg3 ((flat_cells (cs := [(nV bS)]) (hm.ow_rep 8 rfl) ac rfl).cell (j := 0) rfl) rfl) (tAs hS (gg fun fQ bw bT => ?_))))))
       obtain ⟨fR, fS, fT, he⟩ := idx_form (hm.ow_rep 6 rfl) bT
       obtain ⟨rfl, _, rfl⟩ := sl3 he
       have hL3_1 := rep_slice_len (hm.ow_rep 6 rfl)
       refine tP rfl (fun w => yI st_26 bw (idx_lt2 bT hL3_1) rfl) (tO (tf0 rfl rfl (fun a hf => e_setElem (x1 := bS) (j := 0) (vs := [(nV bS)]) 6 hf hm rfl bT rfl sizeOf3 rfl rfl rfl (one_cons rfl one_nil) rfl rfl) ?_))
       rintro _ w hm
       have fU := List.getElem?_set_self (a := bS) (idx_lt bT)
       exact tAn rfl (tE (gR (gP (by omega) (by omega) rfl (gM rfl (gE (gze hm [1, 2, 3, 4, 5, 6, 7, 8] rfl))))))
      repeat clear hm
      intro fV fW w hm fX fY
      exact gS (gR (gB rfl (gE (gS (go _ 71 rfl (decide_eq_false (by omega)) (gcf rfl (gXt (gHh (gz hm [0, 1, 2, 3, 4, 5, 6] rfl)))))))))
     exact gcf rfl (gSk (gz hm [0, 1, 2, 3, 4, 5, 6] rfl))
    repeat clear hm
    intro bL w hm
    refine gS (gS (gR (gF fo_71_1 rfl (gL hm 6 isAgg69 rfl ?_))))
    obtain ⟨bU, az, rfl, fZ⟩ := ro_slice bJ
    refine gY (yV st_69 rfl) (gM rfl (gE ?_))
    obtain ⟨dT, dU, rfl, f4⟩ := ro_slice (hm.ow_rep 1 rfl)
    obtain ⟨dV, dW, rfl, f5⟩ := ro_slice (hm.ow_rep 2 rfl)
    refine gBk (gNg (fun cf aP a w => ∃ (ar au : Value), St 128 [(0, (pV bp0)), (3, (.bool (main))), (9, (pV aD)), (10, (pV aN)), (11, (nV aE.2.2.2.2.2.2.1)), (13, (pV aU)), (85, (.slice bU aK.ins.length az)), (86, (nV ((aK.ins.length : Int)))), (87, (nV cf))] w0 hz [blk bp0 ((sV aF aR m.u.codes.length aC) :: (nV aP.1) :: (nV aP.2.1) :: ar :: q16 aP.2.2.2.1 [au]) 80, ow [ar] aP.2.2.1, ow [au] aP.2.2.2.2.1, blk aD [(nV aH.params), (nV aH.regs), (sV aX aY aH.blocks.length aV)] 59, blk aN [(.slice aL (copyL aB in_ 0 aB.length).length aM)] 26, ow [(.slice aL (copyL aB in_ 0 aB.length).length aM)] aP.2.2.2.2.2, blk aU [ai, (.slice bU aK.ins.length az), (nV aK.jump), (nV aK.on), ab] 71] a w) (fun a hf => ⟨(.slice dT aE.2.2.1.length dU), (.slice dV aO.length dW), hf.sb rfl, hm.pk [0, 1, 2, 3, 4, 5, 6] rfl rfl⟩) ?_ ?_)
    ·
     repeat clear hm
     rintro f6 dX cf aP a w ⟨ar, au, hf, hm⟩ f7 f8 f9 dY
     refine gv hf (gS (gR (gB rfl (gE (gS (go _ 88 rfl (decide_eq_true (by omega)) (gct rfl (gSk (gS (gBk (gS (gR (gg fun bA dZ bx => ?_)))))))))))))
     obtain ⟨d1, cg, fa, he⟩ := idx_form' bJ bx
     obtain ⟨rfl, _, rfl⟩ := sl3 he
     obtain ⟨ci, d2, cj⟩ := rk_Ins_ bJ bx
     refine gI st_69 dZ (idx_lt bx) rfl (gY (yn (d2.mono hm.lez) isAgg75 sizeOf75 rfl) (gAl hm zeroValue75 rfl fun d3 w hm => gSN hm 0 sizeOf75 (one_cons rfl (one_cons rfl (one_cons (rep_one cj) (one_cons rfl one_nil)))) rfl fun w hm => gE (gR (gM rfl (gY (yn (hm.blk_at 0 rfl) isAgg75 sizeOf75 rfl) (gL hm 5 isAgg26 rfl ?_))))))
     obtain ⟨d4, hle, hm1, hsub, ck⟩ := hm.take2 (L1 := [blk bp0 ((sV aF aR m.u.codes.length aC) :: (nV aP.1) :: (nV aP.2.1) :: ar :: q16 aP.2.2.2.1 [au]) 80, ow [ar] aP.2.2.1, ow [au] aP.2.2.2.2.1, ow [(.slice aL (copyL aB in_ 0 aB.length).length aM)] aP.2.2.2.2.2]) (L2 := [blk d3 [(nV bA.op), (nV bA.to), ci, (nV bA.n_)] 75, blk aD [(nV aH.params), (nV aH.regs), (sV aX aY aH.blocks.length aV)] 59, blk aN [(.slice aL (copyL aB in_ 0 aB.length).length aM)] 26, blk aU [ai, (sV d1 cg aK.ins.length az), (nV aK.jump), (nV aK.on), ab] 71]) [1, 2, 3, 6] [0, 4, 5, 7] (by decide) rfl rfl
     refine gb fun fb d5 => gfx rfl (fun a hf => e_callx hf rfl call56 rfl (pimpl_running__doIns_rec _ d4 (⟨m.u, aP.1, aP.2.1, aP.2.2.1, aP.2.2.2.1, aP.2.2.2.2.1⟩ : running) bp0 (sV aF aR m.u.codes.length aC) (GT.mono hle h1p) ar au bA ci (GT.mono hle cj) aP.2.2.2.2.2 (.slice aL (copyL aB in_ 0 aB.length).length aM) hm1  _ d5)) ?_ ?_
     ·
      rintro c w ⟨fc, rfl, bz⟩
      obtain ⟨d6, d7, rfl, hB⟩ := bz
      replace hm := ck _ _ hB; clear hB
      exact gr (gLr dY dX (gLp ag aa (gth ⟨_, rfl, d6, d7, rfl, hm.pk [0, 1, 2] rfl rfl⟩)))
     rintro fd w ⟨fe, rfl, bz⟩
     obtain ⟨d8, d9, rfl, hB⟩ := bz
     replace hm := ck _ _ hB; clear hB
     exact gl (gE (gR (gP (by omega) (by omega) rfl (gM rfl (gE (gZe fun a hf => ⟨d8, d9, hf.sb rfl, hm.pk [0, 1, 2, 5, 6, 3, 7] rfl rfl⟩))))))
    repeat clear hm
    rintro ff aT a w ⟨cA, cB, hf, hm⟩ fg fh
    refine gv hf (gS (gR (gB rfl (gE (gS (go _ 88 rfl (decide_eq_false (by omega)) (gcf rfl (gXt (gHh (gS (gR (gM rfl ?_))))))))))))
    obtain ⟨da, hle, hm1, hsub, cl⟩ := hm.take2 (L1 := [blk bp0 ((sV aF aR m.u.codes.length aC) :: (nV aT.1) :: (nV aT.2.1) :: cA :: q16 aT.2.2.2.1 [cB]) 80, ow [cA] aT.2.2.1, ow [cB] aT.2.2.2.2.1]) (L2 := [blk aD [(nV aH.params), (nV aH.regs), (sV aX aY aH.blocks.length aV)] 59, blk aN [(.slice aL (copyL aB in_ 0 aB.length).length aM)] 26, ow [(.slice aL (copyL aB in_ 0 aB.length).length aM)] aT.2.2.2.2.2, blk aU [ai, (.slice bU aK.ins.length az), (nV aK.jump), (nV aK.on), ab] 71]) [0, 1, 2] [3, 4, 5, 6] (by decide) rfl rfl
    refine gb fun fi db => gfx rfl (fun a hf => e_callx hf rfl call57 rfl (pimpl_running__tick_ok _ da (⟨m.u, aT.1, aT.2.1, aT.2.2.1, aT.2.2.2.1, aT.2.2.2.2.1⟩ : running) bp0 (sV aF aR m.u.codes.length aC) (GT.mono hle h1p) cA cB hm1  _ db)) ?_ ?_
    ·
     rintro c w ⟨fj, rfl, cC⟩
     obtain ⟨dc, dd, rfl, hB⟩ := cC
     replace hm := cl _ _ hB; clear hB
     exact gr (gLp ag aa (gth ⟨_, rfl, dc, dd, rfl, hm.pk [0, 1, 2] rfl rfl⟩))
    rintro fk w ⟨aQ, rfl, cC⟩
    obtain ⟨ae, af, rfl, hB⟩ := cC
    replace hm := cl _ _ hB; clear hB
    refine gl (gE (gS (gR (gM rfl (gA rfl (gE (gJe hm (fun cD => [(0, (pV bp0)), (3, (.bool (main))), (9, (pV aD)), (10, (pV aN)), (11, (nV cD)), (12, (nV aE.2.2.2.2.2.2.1))]) (fun cD => [blk bp0 ((sV aF aR m.u.codes.length aC) :: (nV aQ.steps) :: (nV aQ.used) :: ae :: q16 aQ.cells [af]) 80, ow [ae] aQ.said, ow [af] aQ.trace, blk aD [(nV aH.params), (nV aH.regs), (sV aX aY aH.blocks.length aV)] 59, blk aN [(.slice aL (copyL aB in_ 0 aB.length).length aM)] 26, ow [(.slice aL (copyL aB in_ 0 aB.length).length aM)] aT.2.2.2.2.2]) (fun fl de => ?_) ?_)))))))
    ·
     refine gBk (gS (gR (gF fo_71_2 rfl (gL hm 6 isAgg3 rfl (gB rfl (gA rfl (gE (gsd 103 rfl (fun df => ?_) fun df => ?_))))))))
     ·
      refine gct rfl (gS (gR (gL hm 4 isAgg26 rfl (gF fo_71_3 rfl (gL hm 6 isAgg3 rfl (gg fun dg dh cE => ?_))))))
      obtain ⟨fm, fo, fp, he⟩ := idx_form (hm.ow_rep 5 rfl) cE
      obtain ⟨rfl, _, rfl⟩ := sl3 he
      have hL2_1 := rep_slice_len (hm.ow_rep 5 rfl)
      exact gI st_26 dh (idx_lt2 cE hL2_1) rfl (gY (yl isAgg3 ((flat_cells (cs := [(nV dg)]) (hm.ow_rep 5 rfl) cE rfl).cell (j := 0) rfl) rfl) (gA rfl (gE (gRt (gEr de (gLp ag aa (gx (gr1 results35 rfl ⟨_, rfl, ⟨ae, af, rfl, hm.pk [0, 1, 2] rfl rfl⟩⟩))))))))
     refine gcf rfl (gS (gJ hm (fun aW => [(0, (pV bp0)), (3, (.bool (main))), (9, (pV aD)), (10, (pV aN)), (12, (nV aE.2.2.2.2.2.2.1)), (13, (pV aU)), (112, (.bool (aW)))]) (fun aW => [blk bp0 ((sV aF aR m.u.codes.length aC) :: (nV aQ.steps) :: (nV aQ.used) :: ae :: q16 aQ.cells [af]) 80, ow [ae] aQ.said, ow [af] aQ.trace, blk aD [(nV aH.params), (nV aH.regs), (sV aX aY aH.blocks.length aV)] 59, blk aN [(.slice aL (copyL aB in_ 0 aB.length).length aM)] 26, ow [(.slice aL (copyL aB in_ 0 aB.length).length aM)] aT.2.2.2.2.2, blk aU [ai, (.slice bU aK.ins.length az), (nV aK.jump), (nV aK.on), ab] 71]) (fun aW => ?_) ?_))
     ·
      refine gR (gF fo_71_2 rfl (gL hm 6 isAgg3 rfl (gB rfl (gM rfl (gsd 116 rfl (fun di => ?_) fun di => ?_)))))
      ·
       refine gL hm 4 isAgg26 rfl (gF fo_71_3 rfl (gL hm 6 isAgg3 rfl (gg fun dk dl cF => ?_)))
       obtain ⟨fq, fr, ft, he⟩ := idx_form (hm.ow_rep 5 rfl) cF
       obtain ⟨rfl, _, rfl⟩ := sl3 he
       have hL3_2 := rep_slice_len (hm.ow_rep 5 rfl)
       exact gI st_26 dl (idx_lt2 cF hL3_2) rfl (gY (yl isAgg3 ((flat_cells (cs := [(nV dk)]) (hm.ow_rep 5 rfl) cF rfl).cell (j := 0) rfl) rfl) (gB rfl (gKt rfl (gA rfl (gE (gz hm [0, 1, 2, 3, 4, 5, 6] rfl))))))
      exact gO rfl (gO rfl (gO rfl (gO rfl (gO rfl (gO rfl (gKf rfl (gA rfl (gE (gz hm [0, 1, 2, 3, 4, 5, 6] rfl)))))))))
     repeat clear hm
     intro aW w hm
     refine gJ hm (fun bV => [(0, (pV bp0)), (3, (.bool (main))), (9, (pV aD)), (10, (pV aN)), (11, (nV bV)), (12, (nV aE.2.2.2.2.2.2.1))]) (fun bV => [blk bp0 ((sV aF aR m.u.codes.length aC) :: (nV aQ.steps) :: (nV aQ.used) :: ae :: q16 aQ.cells [af]) 80, ow [ae] aQ.said, ow [af] aQ.trace, blk aD [(nV aH.params), (nV aH.regs), (sV aX aY aH.blocks.length aV)] 59, blk aN [(.slice aL (copyL aB in_ 0 aB.length).length aM)] 26, ow [(.slice aL (copyL aB in_ 0 aB.length).length aM)] aT.2.2.2.2.2]) (fun bV => ?_) ?_
     ·
      refine gs 112 rfl (fun dm => ?_) fun dm => ?_
      ·
       refine gct rfl (gR (gF fo_71_4 rfl (gL hm 6 isAgg26 rfl (gg fun dp dq cG => ?_))))
       obtain ⟨fu, fw, fx, he⟩ := idx_form av cG
       subst he
       exact gI st_26 dq (idx_lt cG) rfl (gY (yl isAgg3 ((flat_cells (cs := [(nV dp)]) (hm.now av) cG rfl).cell (j := 0) rfl) rfl) (gA rfl (gE (gz hm [0, 1, 2, 3, 4, 5] rfl))))
      refine gcf rfl (gR (gF fo_71_4 rfl (gL hm 6 isAgg26 rfl (gg fun dr dt cH => ?_))))
      obtain ⟨fy, gD, gG, he⟩ := idx_form av cH
      subst he
      exact gI st_26 dt (idx_lt cH) rfl (gY (yl isAgg3 ((flat_cells (cs := [(nV dr)]) (hm.now av) cH rfl).cell (j := 0) rfl) rfl) (gA rfl (gE (gz hm [0, 1, 2, 3, 4, 5] rfl))))
     repeat clear hm
     intro bV w hm
     exact gze hm [0, 1, 2, 3, 4, 5] rfl
    repeat clear hm
    intro cD w hm
    exact gZe fun a hf => ⟨ae, af, hf.sb rfl, hm.pk [0, 1, 2, 3, 4, 5] rfl rfl⟩
  · intro rec_ ih_ m x_ regs r hq w0 hz bp0 v1p h1p v2p v3p v1 h1 v2 hm0
    have pimpl_running__code_rec : ∀ (w0 : World) (hz : Heap) (m : running) (bp0 : Nat) (v1p : Value) (h1p : GT.rep hz [v1p] m.u.codes) (v2p : Value) (v3p : Value) (k_ : Int) (in_ : List Int) (v1 : Value) (h1 : GT.rep hz [v1] in_) (main : Bool) (hm0 : Mem w0 hz w0 [blk bp0 (v1p :: (nV m.steps) :: (nV m.used) :: v2p :: q16 m.cells [v3p]) 80, ow [v2p] m.said, ow [v3p] m.trace]) (r : (Int × running) ⊕ (Int × running)) (hq : rec_ m k_ in_ main = some r), ConX Try.prog 35 [(pV bp0), (nV k_), v1, (.bool (main))] w0 (fun v w' => ∃ q, r = .inl q ∧ (∃ (x2 : Value) (x3 : Value), v = (nV q.1) ∧ Mem w0 hz w' [blk bp0 (v1p :: (nV q.2.steps) :: (nV q.2.used) :: x2 :: q16 q.2.cells [x3]) 80, ow [x2] q.2.said, ow [x3] q.2.trace])) (fun c w' => ∃ q, r = .inr q ∧ (∃ (x2 : Value) (x3 : Value), c = pch 97 q.1 ∧ Mem w0 hz w' [blk bp0 (v1p :: (nV q.2.steps) :: (nV q.2.used) :: x2 :: q16 q.2.cells [x3]) 80, ow [x2] q.2.said, ow [x3] q.2.trace])) := fun w0 hz m bp0 v1p h1p v2p v3p k_ in_ v1 h1 main hm0 r hq => ih_ m k_ in_ main r hq w0 hz bp0 v1p h1p v2p v3p v1 h1 hm0
    refine gconxr (ρ := (running × (List Int)) ⊕ (Int × running × (List Int))) (R := fun r v w' => ∃ q, r = .inl q ∧ (∃ (x2 : Value) (x3 : Value), v = (.tuple #[]) ∧ Mem w0 hz w' [blk bp0 (v1p :: (nV q.1.steps) :: (nV q.1.used) :: x2 :: q16 q.1.cells [x3]) 80, ow [x2] q.1.said, ow [x3] q.1.trace, ow [v2] q.2])) (X := fun r c w' => ∃ q, r = .inr q ∧ (∃ (x2 : Value) (x3 : Value), c = pch 97 q.1 ∧ Mem w0 hz w' [blk bp0 (v1p :: (nV q.2.1.steps) :: (nV q.2.1.used) :: x2 :: q16 q.2.1.cells [x3]) 80, ow [x2] q.2.1.said, ow [x3] q.2.1.trace, ow [v2] q.2.2])) func56 rfl hq ?_
    have hm := hm0
    refine gS (gR (gBx hm rfl fun aF w hm => ?_))
    obtain ⟨aG, aC, rfl, cz⟩ := ro_slice (hm.ow_rep 4 rfl)
    refine gBx hm rfl fun aD w hm => gE (gS (gR (gM rfl ?_)))
    obtain ⟨du, hle, hm1, hsub, cm⟩ := hm.take2 (L1 := [blk bp0 (v1p :: (nV m.steps) :: (nV m.used) :: v2p :: q16 m.cells [v3p]) 80, ow [v2p] m.said, ow [v3p] m.trace]) (L2 := [blk aD [(.slice aG regs.length aC)] 26, blk aF [(nV x_.op), (nV x_.to), v1, (nV x_.n_)] 75, ow [(.slice aG regs.length aC)] regs]) [2, 3, 4] [0, 1, 5] (by decide) rfl rfl
    refine gb fun dC dv => gfx rfl (fun a hf => e_callx hf rfl call57 rfl (pimpl_running__tick_ok _ du m bp0 v1p (GT.mono hle h1p) v2p v3p hm1  _ dv)) ?_ ?_
    ·
     rintro c w ⟨gH, rfl, ag⟩
     obtain ⟨bF, c5, rfl, hB⟩ := ag
     replace hm := cm _ _ hB; clear hB
     exact gr (gth ⟨_, rfl, bF, c5, rfl, hm.pk [0, 1, 2, 5] rfl rfl⟩)
    rintro gK w ⟨aA, rfl, ag⟩
    obtain ⟨aJ, aI, rfl, hB⟩ := ag
    replace hm := cm _ _ hB; clear hB
    refine gl (gE (gS (gR (gY (yU rfl) (gA rfl (gE (gS (gR (gF fo_75_0 rfl (gL hm 4 isAgg3 rfl (gE (gJge (fun aj a w => ∃ (bW bX : Value), St 120 [] w0 hz [blk bp0 (v1p :: (nV aj.1) :: (nV aj.2.1) :: bW :: q16 aj.2.2.2.1 [bX]) 80, ow [bW] aj.2.2.1, ow [bX] aj.2.2.2.2.1, ow [(.slice aG regs.length aC)] aj.2.2.2.2.2] a w) (fun c6 aa => ?_) ?_))))))))))))
    ·
     refine gBk (gS (gR (gB rfl (gA rfl (gE (gJge (fun aO a w => ∃ (aS aZ : Value), St 120 [] w0 hz [blk bp0 (v1p :: (nV aO.1) :: (nV aO.2.1) :: aS :: q16 aO.2.2.2.1 [aZ]) 80, ow [aS] aO.2.2.1, ow [aZ] aO.2.2.2.2.1, ow [(.slice aG regs.length aC)] aO.2.2.2.2.2] a w) (fun aV bY => ?_) ?_))))))
     ·
      refine gsd 34 rfl (fun bk => ?_) fun bk => ?_
      ·
       refine gct rfl (gR (gL hm 3 isAgg26 rfl (gF fo_75_1 rfl (gL hm 4 isAgg3 rfl (gF fo_75_3 rfl (gL hm 4 isAgg3 rfl (gg fun bA bm aw => ?_)))))))
       obtain ⟨dD, cg, dJ, he⟩ := idx_form (hm.ow_rep 5 rfl) aw
       obtain ⟨rfl, _, rfl⟩ := sl3 he
       refine gI st_26 bm (idx_lt aw) rfl (gf0 rfl (fun a hf => e_setElem (x1 := x_.n_) (j := 0) (vs := [(nV x_.n_)]) 5 hf hm rfl aw rfl sizeOf3 rfl rfl rfl (one_cons rfl one_nil) rfl rfl) ?_)
       rintro _ w hm
       have dM := List.getElem?_set_self (a := x_.n_) (idx_lt aw)
       exact gE (gZe fun a hf => ⟨aJ, aI, hf.sb rfl, hm.pk [0, 1, 2, 5] rfl rfl⟩)
      refine gcf rfl (gS (gR (gB rfl (gA rfl (gE (gJge (fun aW a w => ∃ (an aq : Value), St 120 [] w0 hz [blk bp0 (v1p :: (nV aW.1) :: (nV aW.2.1) :: an :: q16 aW.2.2.2.1 [aq]) 80, ow [an] aW.2.2.1, ow [aq] aW.2.2.2.2.1, ow [(.slice aG regs.length aC)] aW.2.2.2.2.2] a w) (fun bM bZ => ?_) ?_))))))
      ·
       refine gsd 42 rfl (fun bu => ?_) fun bu => ?_
       ·
        refine gct rfl (gWx (.p 1 (.p 3 (.p 4 (.q 0 (.q 2 (.e 5 (.e 6 (.p 7 (.e 8 (.p 9 (.e 10 .fin .nil)) .nil)) .nil) .nil)))))) [0, 2, 5, 6, 8] [1, 3, 4, 7, 9] hm [0, 1, 2, 3, 4, 5] [blk bp0 (v1p :: (nV aA.steps) :: (nV aA.used) :: aJ :: q16 aA.cells [aI]) 80, ow [aJ] aA.said, ow [aI] aA.trace, blk aD [(.slice aG regs.length aC)] 26, blk aF [(nV x_.op), (nV x_.to), v1, (nV x_.n_)] 75, ow [(.slice aG regs.length aC)] regs] rfl mxo (by kernel_rfl) (fun _ _ _ _ e h => ⟨e.symm.trans h.1, h.2⟩) fun w hm hS => tP rfl (fun w => yF fo_75_1 rfl) (tP rfl (fun w => yM rfl) (tP rfl (fun w => yM rfl) (tQ rfl hS (fun w hm => yL hm 3 isAgg26 rfl) (tQ rfl hS (fun w hm => yL hm 4 isAgg3 rfl) (tO (gb fun dw dx => tf rfl rfl (fun a hf => e_callv hf rfl rfl rfl ⟨78, [(pV aD), (pV aF)], rfl, call78, pimpl_running__doIns_1_ok _ 0 regs (.slice aG regs.length aC) (rep_later (hm.ow_rep 5 rfl) (Below.refl _ _)) aD (hm.blk_later 3 rfl (Below.refl _ _)) x_ v1 (rep_later (hm.now h1) (Below.refl _ _)) aF (hm.blk_later 4 rfl (Below.refl _ _)) _ dx⟩) ?_)))))))
        rintro cd w ⟨rfl, hB⟩
        replace hm := hm.below' hB; clear hB
        refine tAk hm [0, 1, 2, 3, 4, 5] rfl fun hS => tO (gb fun gQ ay => tfx rfl rfl (fun a hf => e_callx hf rfl call79 rfl (pimpl_running__cell_ok _ (⟨m.u, aA.steps, aA.used, aA.said, aA.cells, aA.trace⟩ : running) bp0 v1p (hm.now h1p) aJ (hm.ow_rep 1 rfl) aI (hm.ow_rep 2 rfl) (hm.blk_cells 0 rfl).1 dw _ ay)) ?_ ?_)
        ·
         rintro c w ⟨gT, rfl, cI⟩
         obtain ⟨rfl, hB⟩ := cI
         replace hm := hm.below' hB; clear hB
         exact gr (gEr bZ (gEr bY (gEr aa (gth ⟨_, rfl, aJ, aI, rfl, hm.pk [0, 1, 2, 5] rfl rfl⟩))))
        rintro gU w ⟨cJ, rfl, cI⟩
        obtain ⟨rfl, ⟨ce, bv⟩, hB⟩ := cI
        replace hm := hm.below' hB; clear hB
        refine gl (tAk hm [0, 1, 2, 3, 4, 5] rfl fun hS => tP rfl (fun w => yG rfl (y_nilptr rfl rfl)) (tO (tY rfl (yl isAgg3 (hm.arr_cell (pre := [v1p, (nV aA.steps), (nV aA.used), aJ]) (post := [aI]) (arr := aA.cells) (n := 16) 0 rfl bv) rfl) (tAs hS (gg fun c9 bw ac => ?_)))))
        obtain ⟨ca, cb, dP, he⟩ := idx_form (hm.ow_rep 5 rfl) ac
        obtain ⟨rfl, _, rfl⟩ := sl3 he
        refine tP rfl (fun w => yI st_26 bw (idx_lt ac) rfl) (tO (tf0 rfl rfl (fun a hf => e_setElem (x1 := (aA.cells.getD (cJ).toNat 0)) (j := 0) (vs := [(nV ((aA.cells.getD (cJ).toNat 0)))]) 5 hf hm rfl ac rfl sizeOf3 rfl rfl rfl (one_cons rfl one_nil) rfl rfl) ?_))
        rintro _ w hm
        have gV := List.getElem?_set_self (a := (aA.cells.getD (cJ).toNat 0)) (idx_lt ac)
        exact tAn rfl (tE (gZe fun a hf => ⟨aJ, aI, hf.sb rfl, hm.pk [0, 1, 2, 5] rfl rfl⟩))
       refine gcf rfl (gS (gR (gB rfl (gA rfl (gE (gJge (fun ak a w => ∃ (b5 b6 : Value), St 120 [] w0 hz [blk bp0 (v1p :: (nV ak.1) :: (nV ak.2.1) :: b5 :: q16 ak.2.2.2.1 [b6]) 80, ow [b5] ak.2.2.1, ow [b6] ak.2.2.2.2.1, ow [(.slice aG regs.length aC)] ak.2.2.2.2.2] a w) (fun dS cK => ?_) ?_))))))
       ·
        refine gsd 54 rfl (fun dy => ?_) fun dy => ?_
        ·
         refine gct rfl (gR (gM rfl (gM rfl (gb fun dz eA => gf rfl (fun a hf => e_callv hf rfl rfl rfl ⟨78, [(pV aD), (pV aF)], rfl, call78, pimpl_running__doIns_1_ok _ 0 regs (.slice aG regs.length aC) (rep_later (hm.ow_rep 5 rfl) (Below.refl _ _)) aD (hm.blk_later 3 rfl (Below.refl _ _)) x_ v1 (rep_later (hm.now h1) (Below.refl _ _)) aF (hm.blk_later 4 rfl (Below.refl _ _)) _ eA⟩) ?_))))
         rintro g9 w ⟨rfl, hB⟩
         replace hm := hm.below' hB; clear hB
         refine gb fun ga eB => gfx rfl (fun a hf => e_callx hf rfl call79 rfl (pimpl_running__cell_ok _ (⟨m.u, aA.steps, aA.used, aA.said, aA.cells, aA.trace⟩ : running) bp0 v1p (hm.now h1p) aJ (hm.ow_rep 1 rfl) aI (hm.ow_rep 2 rfl) (hm.blk_cells 0 rfl).1 dz _ eB)) ?_ ?_
         ·
          rintro c w ⟨gc, rfl, cL⟩
          obtain ⟨rfl, hB⟩ := cL
          replace hm := hm.below' hB; clear hB
          exact gr (gEr cK (gEr bZ (gEr bY (gEr aa (gth ⟨_, rfl, aJ, aI, rfl, hm.pk [0, 1, 2, 5] rfl rfl⟩)))))
         rintro ge w ⟨eC, rfl, cL⟩
         obtain ⟨rfl, ⟨gh, eD⟩, hB⟩ := cL
         replace hm := hm.below' hB; clear hB
         refine gl (gM rfl (gb fun eE eF => gf rfl (fun a hf => e_callv hf rfl rfl rfl ⟨78, [(pV aD), (pV aF)], rfl, call78, pimpl_running__doIns_1_ok _ 1 regs (.slice aG regs.length aC) (rep_later (hm.ow_rep 5 rfl) (Below.refl _ _)) aD (hm.blk_later 3 rfl (Below.refl _ _)) x_ v1 (rep_later (hm.now h1) (Below.refl _ _)) aF (hm.blk_later 4 rfl (Below.refl _ _)) _ eF⟩) ?_))
         rintro gi w ⟨rfl, hB⟩
         replace hm := hm.below' hB; clear hB
         refine gY (yG rfl (y_nilptr rfl rfl)) (gf0 rfl (fun a hf => e_storeA (pre := [v1p, (nV aA.steps), (nV aA.used), aJ]) (post := [aI]) (arr := aA.cells) (n := 16) 0 hf hm rfl sizeOf3 rfl rfl rfl eD) ?_)
         rintro _ w hm
         replace hm : Mem w0 hz _ [blk bp0 (v1p :: (nV aA.steps) :: (nV aA.used) :: aJ :: q16 ((setA 16 aA.cells (eC).toNat eE)) [aI]) 80, ow [aJ] aA.said, ow [aI] aA.trace, blk aD [(.slice aG regs.length aC)] 26, blk aF [(nV x_.op), (nV x_.to), v1, (nV x_.n_)] 75, ow [(.slice aG regs.length aC)] regs] := hm
         exact gE (gZe fun a hf => ⟨aJ, aI, hf.sb rfl, hm.pk [0, 1, 2, 5] rfl rfl⟩)
        refine gcf rfl (gS (gR (gB rfl (gA rfl (gE (gJge (fun al a w => ∃ (b7 b8 : Value), St 120 [] w0 hz [blk bp0 (v1p :: (nV al.1) :: (nV al.2.1) :: b7 :: q16 al.2.2.2.1 [b8]) 80, ow [b7] al.2.2.1, ow [b8] al.2.2.2.2.1, ow [(.slice aG regs.length aC)] al.2.2.2.2.2] a w) (fun gj cn => ?_) ?_))))))
        ·
         refine gsd 63 rfl (fun eG => ?_) fun eG => ?_
         ·
          refine gct rfl (gWx (.p 0 (.p 1 (.p 2 (.p 3 (.p 5 (.q 4 (.e 6 (.e 7 (.e 8 (.p 9 (.p 10 (.e 11 .fin .nil))) .nil) .nil) .nil))))))) [6, 7] [0, 1, 2, 3, 5, 9, 10] hm [0, 1, 2, 3, 4, 5] [blk bp0 (v1p :: (nV aA.steps) :: (nV aA.used) :: aJ :: q16 aA.cells [aI]) 80, ow [aJ] aA.said, ow [aI] aA.trace, blk aD [(.slice aG regs.length aC)] 26, blk aF [(nV x_.op), (nV x_.to), v1, (nV x_.n_)] 75, ow [(.slice aG regs.length aC)] regs] rfl mxo (by kernel_rfl) (fun _ _ _ _ e h => ⟨e.symm.trans h.1, h.2⟩) fun w hm hS => tP rfl (fun w => yM rfl) (tP rfl (fun w => yM rfl) (tP rfl (fun w => yG rfl (y_nilptr rfl rfl)) (tP rfl (fun w => yF fo_80_3 rfl) (tP rfl (fun w => yM rfl) (tQ rfl hS (fun w hm => yL hm 0 isAgg26 rfl) (tO (gb fun cM eH => tf rfl rfl (fun a hf => e_callv hf rfl rfl rfl ⟨78, [(pV aD), (pV aF)], rfl, call78, pimpl_running__doIns_1_ok _ 0 regs (.slice aG regs.length aC) (rep_later (hm.ow_rep 5 rfl) (Below.refl _ _)) aD (hm.blk_later 3 rfl (Below.refl _ _)) x_ v1 (rep_later (hm.now h1) (Below.refl _ _)) aF (hm.blk_later 4 rfl (Below.refl _ _)) _ eH⟩) ?_))))))))
          rintro gk w ⟨rfl, hB⟩
          replace hm := hm.below' hB; clear hB
          refine tAk hm [0, 1, 2, 3, 4, 5] rfl fun hS => tO (tf rfl rfl (fun a hf => e_build (vs := #[(0, (nV cM))]) (cs := [(nV cM)]) et_26 hf hm rfl rfl (by kernel_rfl) rfl rfl) ?_)
          rintro _ w ⟨gm, rfl, hm⟩
          replace hm := hm.lit (xs := ([cM] : List Int)) 0 rfl rfl rfl rfl
          refine tAk hm [1, 2, 3, 4, 5, 6] rfl fun hS => tO (gb fun gp eI => ?_)
          obtain ⟨eJ, eK⟩ := appM_some.1 eI
          refine tf rfl rfl (fun a hf => e_append 2 et_26 hf hm rfl (hm.ow_rep 0 rfl) rfl rfl rfl eJ) ?_
          rintro eL w hm
          rw [eK] at hm
          refine tAn rfl (tP rfl (fun w => yG rfl (y_nilptr rfl rfl)) (tP rfl (fun w => yF fo_80_3 rfl) (tO (tf0 rfl rfl (fun a hf => e_store1 1 hf hm rfl sizeOf26 rfl rfl rfl (rep_one (hm.ow_rep 2 rfl)) rfl) ?_))))
          rintro _ w hm
          exact tAn rfl (tE (gZe fun a hf => ⟨eL, aI, hf.sb rfl, hm.pk [1, 2, 3, 6] rfl rfl⟩))
         refine gcf rfl (gS (gR (gB rfl (gA rfl (gE (gJge (fun am a w => ∃ (b9 ba : Value), St 120 [] w0 hz [blk bp0 (v1p :: (nV am.1) :: (nV am.2.1) :: b9 :: q16 am.2.2.2.1 [ba]) 80, ow [b9] am.2.2.1, ow [ba] am.2.2.2.2.1, ow [(.slice aG regs.length aC)] am.2.2.2.2.2] a w) (fun gq co => ?_) ?_))))))
         ·
          refine gsd 76 rfl (fun eM => ?_) fun eM => ?_
          ·
           refine gct rfl (gS (gR (gA rfl (gE (gS (gS (gR (gF fo_75_2 rfl (gL hm 4 isAgg26 rfl ?_)))))))))
           obtain ⟨bc, bd, rfl, gu⟩ := ro_slice h1
           refine gY (yV st_26 rfl) (gM rfl (gE ?_))
           obtain ⟨bB, bC, rfl, gw⟩ := ro_slice (hm.ow_rep 1 rfl)
           obtain ⟨bD, bE, rfl, gy⟩ := ro_slice (hm.ow_rep 2 rfl)
           refine gBk ?_
           replace hm := hm.nilow (α := Int)
           refine gNg (fun cN cq a w => ∃ (cO : Value), St 120 [(0, (pV bp0)), (4, (pV aF)), (5, (pV aD)), (6, (.func (.func 78) #[] #[(pV aD), (pV aF)])), (7, cO), (80, (nV ((x_.args.length : Int)))), (81, (nV cN))] w0 hz [blk bp0 (v1p :: (nV aA.steps) :: (nV aA.used) :: (.slice bB aA.said.length bC) :: q16 aA.cells [(.slice bD aA.trace.length bE)]) 80, ow [(.slice bB aA.said.length bC)] aA.said, ow [(.slice bD aA.trace.length bE)] aA.trace, blk aF [(nV x_.op), (nV x_.to), (.slice bc x_.args.length bd), (nV x_.n_)] 75, blk aD [(.slice aG regs.length aC)] 26, ow [(.slice aG regs.length aC)] regs, ow [cO] cq] a w) (fun a hf => ⟨(.slice none 0 0), hf.sb rfl, hm.pk [1, 2, 3, 5, 4, 6, 0] rfl rfl⟩) ?_ ?_
           ·
            repeat clear hm
            rintro _ _ cN cq a w ⟨cO, hf, hm⟩ hD hJ hO _
            refine gv hf (gS (gR (gB rfl (gE (gS (go _ 82 rfl (decide_eq_true (by omega)) (gct rfl (gSk (gS (gBk (gS (gR (gM rfl (gA rfl (gE (gR (gM rfl (gM rfl (gM rfl (gb fun cP eN => gf rfl (fun a hf => e_callv hf rfl rfl rfl ⟨78, [(pV aD), (pV aF)], rfl, call78, pimpl_running__doIns_1_ok _ cN regs (.slice aG regs.length aC) (rep_later (hm.ow_rep 5 rfl) (Below.refl _ _)) aD (hm.blk_later 4 rfl (Below.refl _ _)) x_ (.slice bc x_.args.length bd) (rep_later (hm.now h1) (Below.refl _ _)) aF (hm.blk_later 3 rfl (Below.refl _ _)) _ eN⟩) ?_))))))))))))))))))))
            rintro hU w ⟨rfl, hB⟩
            replace hm := hm.below' hB; clear hB
            refine gf rfl (fun a hf => e_build (vs := #[(0, (nV cP))]) (cs := [(nV cP)]) et_26 hf hm rfl rfl (by kernel_rfl) rfl rfl) ?_
            rintro _ w ⟨hY, rfl, hm⟩
            replace hm := hm.lit (xs := ([cP] : List Int)) 0 rfl rfl rfl rfl
            refine gb fun hZ eO => ?_
            obtain ⟨eP, eQ⟩ := appM_some.1 eO
            refine gf rfl (fun a hf => e_append 7 et_26 hf hm rfl (hm.ow_rep 0 rfl) rfl rfl rfl eP) ?_
            rintro eR w hm
            rw [eQ] at hm
            exact gA rfl (gE (gR (gP (by omega) (by omega) rfl (gM rfl (gE (gZe fun a hf => ⟨eR, hf.sb rfl, hm.pk [1, 2, 3, 4, 5, 6, 7] rfl rfl⟩))))))
           repeat clear hm
           rintro iA cQ a w ⟨cR, hf, hm⟩ iB iC
           refine gv hf (gS (gR (gB rfl (gE (gS (go _ 82 rfl (decide_eq_false (by omega)) (gcf rfl (gXt (gHh (gWx (.p 1 (.p 3 (.p 4 (.p 6 (.q 0 (.q 2 (.e 5 (.e 7 (.p 8 (.e 9 .fin .nil)) .nil) .nil))))))) [0, 2, 5, 7] [1, 3, 4, 6, 8] hm [3, 4, 5, 6] [blk aF [(nV x_.op), (nV x_.to), (.slice bc x_.args.length bd), (nV x_.n_)] 75, blk aD [(.slice aG regs.length aC)] 26, ow [(.slice aG regs.length aC)] regs, ow [cR] cQ] rfl mxo (by kernel_rfl) (fun _ _ _ _ e h => ⟨e.symm.trans h.1, h.2⟩) fun w hm hS => tP rfl (fun w => yF fo_75_1 rfl) (tP rfl (fun w => yM rfl) (tP rfl (fun w => yF fo_75_3 rfl) (tP rfl (fun w => yM rfl) (tQ rfl hS (fun w hm => yL hm 1 isAgg26 rfl) (tQ rfl hS (fun w hm => yL hm 0 isAgg3 rfl) (tO (tY rfl (yL hm 3 isAgg3 rfl) (tAs hS (tO (gb fun iD eS => ?_))))))))))))))))))))
           obtain ⟨eT, hle, hm1, hsub, cr⟩ := hm.take2 (L1 := [blk bp0 (v1p :: (nV aA.steps) :: (nV aA.used) :: (.slice bB aA.said.length bC) :: q16 aA.cells [(.slice bD aA.trace.length bE)]) 80, ow [(.slice bB aA.said.length bC)] aA.said, ow [(.slice bD aA.trace.length bE)] aA.trace]) (L2 := [blk aF [(nV x_.op), (nV x_.to), (.slice bc x_.args.length bd), (nV x_.n_)] 75, blk aD [(.slice aG regs.length aC)] 26, ow [(.slice aG regs.length aC)] regs, ow [cR] cQ]) [0, 1, 2] [3, 4, 5, 6] (by decide) rfl rfl
           refine tfx rfl rfl (fun a hf => e_callx hf rfl call35 rfl (pimpl_running__code_rec _ eT (⟨m.u, aA.steps, aA.used, aA.said, aA.cells, aA.trace⟩ : running) bp0 v1p (GT.mono hle h1p) (.slice bB aA.said.length bC) (.slice bD aA.trace.length bE) x_.n_ cQ cR (fz_ow (hsub 3 _ rfl)) false hm1  _ eS)) ?_ ?_
           ·
            rintro c w ⟨iE, rfl, cS⟩
            obtain ⟨eU, eV, rfl, hB⟩ := cS
            replace hm := cr _ _ hB; clear hB
            exact gr (gEr co (gEr cn (gEr cK (gEr bZ (gEr bY (gEr aa (gth ⟨_, rfl, eU, eV, rfl, hm.pk [0, 1, 2, 5] rfl rfl⟩)))))))
           rintro iF w ⟨cT, rfl, cS⟩
           obtain ⟨eW, eX, rfl, hB⟩ := cS
           replace hm := cr _ _ hB; clear hB
           refine gl (tAk hm [3, 4, 5, 6] rfl fun hS => gg fun iG eY be => ?_)
           obtain ⟨iH, iI, iJ, he⟩ := idx_form (hm.ow_rep 5 rfl) be
           obtain ⟨rfl, _, rfl⟩ := sl3 he
           refine tP rfl (fun w => yI st_26 eY (idx_lt be) rfl) (tO (tf0 rfl rfl (fun a hf => e_setElem (x1 := cT.1) (j := 0) (vs := [(nV cT.1)]) 5 hf hm rfl be rfl sizeOf3 rfl rfl rfl (one_cons rfl one_nil) rfl rfl) ?_))
           rintro _ w hm
           have iK := List.getElem?_set_self (a := cT.1) (idx_lt be)
           exact tAn rfl (tE (gZe fun a hf => ⟨eW, eX, hf.sb rfl, hm.pk [0, 1, 2, 5] rfl rfl⟩))
          refine gcf rfl (gS (gR (gB rfl (gA rfl (gE (gJe hm (fun cU => []) (fun cU => [blk bp0 (v1p :: (nV aA.steps) :: (nV aA.used) :: aJ :: q16 aA.cells [aI]) 80, ow [aJ] aA.said, ow [aI] aA.trace, ow [(.slice aG regs.length aC)] cU]) (fun iL eZ => ?_) ?_))))))
          ·
           refine gsd 100 rfl (fun ea => ?_) fun ea => ?_
           ·
            refine gct rfl (gWx (.p 1 (.p 3 (.q 0 (.q 2 (.e 4 (.p 5 (.e 6 .fin .nil)) .nil))))) [0, 2, 4] [1, 3, 5] hm [0, 1, 2, 3, 4, 5] [blk bp0 (v1p :: (nV aA.steps) :: (nV aA.used) :: aJ :: q16 aA.cells [aI]) 80, ow [aJ] aA.said, ow [aI] aA.trace, blk aD [(.slice aG regs.length aC)] 26, blk aF [(nV x_.op), (nV x_.to), v1, (nV x_.n_)] 75, ow [(.slice aG regs.length aC)] regs] rfl mxo (by kernel_rfl) (fun _ _ _ _ e h => ⟨e.symm.trans h.1, h.2⟩) fun w hm hS => tP rfl (fun w => yF fo_75_1 rfl) (tP rfl (fun w => yM rfl) (tQ rfl hS (fun w hm => yL hm 3 isAgg26 rfl) (tQ rfl hS (fun w hm => yL hm 4 isAgg3 rfl) (tO (gb fun cV ec => tf rfl rfl (fun a hf => e_callv hf rfl rfl rfl ⟨78, [(pV aD), (pV aF)], rfl, call78, pimpl_running__doIns_1_ok _ 0 regs (.slice aG regs.length aC) (rep_later (hm.ow_rep 5 rfl) (Below.refl _ _)) aD (hm.blk_later 3 rfl (Below.refl _ _)) x_ v1 (rep_later (hm.now h1) (Below.refl _ _)) aF (hm.blk_later 4 rfl (Below.refl _ _)) _ ec⟩) ?_))))))
            rintro iM w ⟨rfl, hB⟩
            replace hm := hm.below' hB; clear hB
            refine tAk hm [0, 1, 2, 3, 4, 5] rfl fun hS => gg fun iN ed bf => ?_
            obtain ⟨iO, iP, iQ, he⟩ := idx_form (hm.ow_rep 5 rfl) bf
            obtain ⟨rfl, _, rfl⟩ := sl3 he
            refine tP rfl (fun w => yI st_26 ed (idx_lt bf) rfl) (tO (tf0 rfl rfl (fun a hf => e_setElem (x1 := cV) (j := 0) (vs := [(nV cV)]) 5 hf hm rfl bf rfl sizeOf3 rfl rfl rfl (one_cons rfl one_nil) rfl rfl) ?_))
            rintro _ w hm
            have iR := List.getElem?_set_self (a := cV) (idx_lt bf)
            exact tAn rfl (tE (gze hm [0, 1, 2, 5] rfl))
           refine gcf rfl (gS (gR (gB rfl (gA rfl (gE (gJe hm (fun cW => []) (fun cW => [blk bp0 (v1p :: (nV aA.steps) :: (nV aA.used) :: aJ :: q16 aA.cells [aI]) 80, ow [aJ] aA.said, ow [aI] aA.trace, ow [(.slice aG regs.length aC)] cW]) (fun iS ee => ?_) ?_))))))
           ·
            refine gsd 108 rfl (fun ef => ?_) fun ef => ?_
            ·
             refine gct rfl (gWx (.p 1 (.p 3 (.q 0 (.q 2 (.e 4 (.e 5 (.p 6 (.p 7 (.p 8 (.p 9 (.e 10 .fin .nil))))) .nil) .nil))))) [0, 2, 4, 5] [1, 3, 6, 7, 8, 9] hm [0, 1, 2, 3, 4, 5] [blk bp0 (v1p :: (nV aA.steps) :: (nV aA.used) :: aJ :: q16 aA.cells [aI]) 80, ow [aJ] aA.said, ow [aI] aA.trace, blk aD [(.slice aG regs.length aC)] 26, blk aF [(nV x_.op), (nV x_.to), v1, (nV x_.n_)] 75, ow [(.slice aG regs.length aC)] regs] rfl mxo (by kernel_rfl) (fun _ _ _ _ e h => ⟨e.symm.trans h.1, h.2⟩) fun w hm hS => tP rfl (fun w => yF fo_75_1 rfl) (tP rfl (fun w => yM rfl) (tQ rfl hS (fun w hm => yL hm 3 isAgg26 rfl) (tQ rfl hS (fun w hm => yL hm 4 isAgg3 rfl) (tO (gb fun eg eh => tf rfl rfl (fun a hf => e_callv hf rfl rfl rfl ⟨78, [(pV aD), (pV aF)], rfl, call78, pimpl_running__doIns_1_ok _ 0 regs (.slice aG regs.length aC) (rep_later (hm.ow_rep 5 rfl) (Below.refl _ _)) aD (hm.blk_later 3 rfl (Below.refl _ _)) x_ v1 (rep_later (hm.now h1) (Below.refl _ _)) aF (hm.blk_later 4 rfl (Below.refl _ _)) _ eh⟩) ?_))))))
             rintro iT w ⟨rfl, hB⟩
             replace hm := hm.below' hB; clear hB
             refine tAk hm [0, 1, 2, 3, 4, 5] rfl fun hS => tO (gb fun cX ei => tf rfl rfl (fun a hf => e_call hf rfl call80 rfl (impl_arith_ok _ 11 eg 0 _ ei)) ?_)
             rintro iU w ⟨rfl, hB⟩
             replace hm := hm.below' hB; clear hB
             refine tAk hm [0, 1, 2, 3, 4, 5] rfl fun hS => tP rfl (fun w => yM rfl) (tP rfl (fun w => yX rfl) (tP rfl (fun w => yX rfl) (gg fun iV ej bg => ?_)))
             obtain ⟨iW, iX, iY, he⟩ := idx_form (hm.ow_rep 5 rfl) bg
             obtain ⟨rfl, _, rfl⟩ := sl3 he
             refine tP rfl (fun w => yI st_26 ej (idx_lt bg) rfl) (tO (tf0 rfl rfl (fun a hf => e_setElem (x1 := cX.1) (j := 0) (vs := [(nV cX.1)]) 5 hf hm rfl bg rfl sizeOf3 rfl rfl rfl (one_cons rfl one_nil) rfl rfl) ?_))
             rintro _ w hm
             have iZ := List.getElem?_set_self (a := cX.1) (idx_lt bg)
             exact tAn rfl (tE (gze hm [0, 1, 2, 5] rfl))
            refine gcf rfl (gS (gWx (.p 0 (.p 2 (.p 4 (.q 1 (.e 3 (.e 5 (.e 6 (.p 7 (.p 8 (.p 9 (.p 10 (.p 11 .fin))))) .nil) .nil) .nil))))) [3, 5] [0, 2, 4, 7, 8, 9, 10, 11] hm [0, 1, 2, 3, 4, 5] [blk bp0 (v1p :: (nV aA.steps) :: (nV aA.used) :: aJ :: q16 aA.cells [aI]) 80, ow [aJ] aA.said, ow [aI] aA.trace, blk aD [(.slice aG regs.length aC)] 26, blk aF [(nV x_.op), (nV x_.to), v1, (nV x_.n_)] 75, ow [(.slice aG regs.length aC)] regs] rfl mxo (by kernel_rfl) (fun _ _ _ _ e h => ⟨e.symm.trans h.1, h.2⟩) fun w hm hS => tP rfl (fun w => yF fo_75_0 rfl) (tP rfl (fun w => yM rfl) (tP rfl (fun w => yM rfl) (tQ rfl hS (fun w hm => yL hm 4 isAgg3 rfl) (tO (gb fun ek em => tf rfl rfl (fun a hf => e_callv hf rfl rfl rfl ⟨78, [(pV aD), (pV aF)], rfl, call78, pimpl_running__doIns_1_ok _ 0 regs (.slice aG regs.length aC) (rep_later (hm.ow_rep 5 rfl) (Below.refl _ _)) aD (hm.blk_later 3 rfl (Below.refl _ _)) x_ v1 (rep_later (hm.now h1) (Below.refl _ _)) aF (hm.blk_later 4 rfl (Below.refl _ _)) _ em⟩) ?_)))))))
            rintro i4 w ⟨rfl, hB⟩
            replace hm := hm.below' hB; clear hB
            refine tAk hm [0, 1, 2, 3, 4, 5] rfl fun hS => tO (gb fun en ep => tf rfl rfl (fun a hf => e_callv hf rfl rfl rfl ⟨78, [(pV aD), (pV aF)], rfl, call78, pimpl_running__doIns_1_ok _ 1 regs (.slice aG regs.length aC) (rep_later (hm.ow_rep 5 rfl) (Below.refl _ _)) aD (hm.blk_later 3 rfl (Below.refl _ _)) x_ v1 (rep_later (hm.now h1) (Below.refl _ _)) aF (hm.blk_later 4 rfl (Below.refl _ _)) _ ep⟩) ?_)
            rintro i5 w ⟨rfl, hB⟩
            replace hm := hm.below' hB; clear hB
            refine tAk hm [0, 1, 2, 3, 4, 5] rfl fun hS => tO (gb fun bh et => tf rfl rfl (fun a hf => e_call hf rfl call80 rfl (impl_arith_ok _ x_.op ek en _ et)) ?_)
            rintro i6 w ⟨rfl, hB⟩
            replace hm := hm.below' hB; clear hB
            refine tAn rfl (tP rfl (fun w => yM rfl) (tP rfl (fun w => yX rfl) (tP rfl (fun w => yX rfl) (tP rfl (fun w => yA rfl) (tP rfl (fun w => yA rfl) (tE (gS (gS (gR (gM rfl (gN rfl (gE (gJe hm (fun ct => [(4, (pV aF)), (5, (pV aD)), (9, (nV bh.1))]) (fun ct => [blk aF [(nV x_.op), (nV x_.to), v1, (nV x_.n_)] 75, blk aD [(.slice aG regs.length aC)] 26, ow [(.slice aG regs.length aC)] regs, blk bp0 (v1p :: (nV aA.steps) :: (nV aA.used) :: aJ :: q16 aA.cells [aI]) 80, ow [aJ] aA.said, ow [aI] aA.trace]) (fun i7 eu => ?_) ?_)))))))))))))
            ·
             refine gsn 27 rfl (fun ew => ?_) fun ew => ?_
             ·
              refine gct rfl (gR (gb fun i8 ey => gfx rfl (fun a hf => e_callx hf rfl call81 rfl (impl_stop_ok _ 1 _ ey)) ?_ ?_))
              ·
               rintro c w ⟨i9, rfl, cY⟩
               obtain ⟨rfl, hB⟩ := cY
               replace hm := hm.below' hB; clear hB
               exact gr (gEr eu (gEr ee (gEr eZ (gEr co (gEr cn (gEr cK (gEr bZ (gEr bY (gEr aa (gth ⟨_, rfl, aJ, aI, rfl, hm.pk [0, 1, 2, 5] rfl rfl⟩))))))))))
              rintro ib w ⟨ic, rfl, cY⟩
              obtain ⟨rfl, hB⟩ := cY
              replace hm := hm.below' hB; clear hB
              exact gl (gE (gze hm [4, 3, 5, 0, 1, 2] rfl))
             exact gcf rfl (gSk (gze hm [4, 3, 5, 0, 1, 2] rfl))
            repeat clear hm
            intro ct w hm
            refine gR (gL hm 1 isAgg26 rfl (gF fo_75_1 rfl (gL hm 0 isAgg3 rfl (gM rfl (gg fun ie ez bi => ?_)))))
            obtain ⟨ig, ii, ij, he⟩ := idx_form (hm.ow_rep 2 rfl) bi
            obtain ⟨rfl, _, rfl⟩ := sl3 he
            refine gI st_26 ez (idx_lt bi) rfl (gf0 rfl (fun a hf => e_setElem (x1 := bh.1) (j := 0) (vs := [(nV bh.1)]) 2 hf hm rfl bi rfl sizeOf3 rfl rfl rfl (one_cons rfl one_nil) rfl rfl) ?_)
            rintro _ w hm
            have ik := List.getElem?_set_self (a := bh.1) (idx_lt bi)
            exact gE (gze hm [3, 4, 5, 2] rfl)
           repeat clear hm
           intro cW w hm
           exact gze hm [0, 1, 2, 3] rfl
          repeat clear hm
          intro cU w hm
          exact gZe fun a hf => ⟨aJ, aI, hf.sb rfl, hm.pk [0, 1, 2, 3] rfl rfl⟩
         repeat clear hm
         rintro am a w ⟨b9, ba, hf, hm⟩
         exact gv hf (gZe fun a hf => ⟨b9, ba, hf.sb rfl, hm.pk [0, 1, 2, 3] rfl rfl⟩)
        repeat clear hm
        rintro al a w ⟨b7, b8, hf, hm⟩
        exact gv hf (gZe fun a hf => ⟨b7, b8, hf.sb rfl, hm.pk [0, 1, 2, 3] rfl rfl⟩)
       repeat clear hm
       rintro ak a w ⟨b5, b6, hf, hm⟩
       exact gv hf (gZe fun a hf => ⟨b5, b6, hf.sb rfl, hm.pk [0, 1, 2, 3] rfl rfl⟩)
      repeat clear hm
      rintro aW a w ⟨an, aq, hf, hm⟩
      exact gv hf (gZe fun a hf => ⟨an, aq, hf.sb rfl, hm.pk [0, 1, 2, 3] rfl rfl⟩)
     repeat clear hm
     rintro aO a w ⟨aS, aZ, hf, hm⟩
     exact gv hf (gZe fun a hf => ⟨aS, aZ, hf.sb rfl, hm.pk [0, 1, 2, 3] rfl rfl⟩)
    repeat clear hm
    rintro aj a w ⟨bW, bX, hf, hm⟩
    exact gv hf (gxn (gre results56 ⟨_, rfl, ⟨bW, bX, rfl, hm.pk [0, 1, 2, 3] rfl rfl⟩⟩))
theorem pimpl_running__code_ok (w0 : World) (hz : Heap) (m : running) (bp0 : Nat) (v1p : Value) (h1p : GT.rep hz [v1p] m.u.codes) (v2p : Value) (v3p : Value) (k_ : Int) (in_ : List Int) (v1 : Value) (h1 : GT.rep hz [v1] in_) (main : Bool) (hm0 : Mem w0 hz w0 [blk bp0 (v1p :: (nV m.steps) :: (nV m.used) :: v2p :: q16 m.cells [v3p]) 80, ow [v2p] m.said, ow [v3p] m.trace]) (r : (Int × running) ⊕ (Int × running)) (hq : pimpl_running__code m k_ in_ main = some r) : ConX Try.prog 35 [(pV bp0), (nV k_), v1, (.bool (main))] w0 (fun v w' => ∃ q, r = .inl q ∧ (∃ (x2 : Value) (x3 : Value), v = (nV q.1) ∧ Mem w0 hz w' [blk bp0 (v1p :: (nV q.2.steps) :: (nV q.2.used) :: x2 :: q16 q.2.cells [x3]) 80, ow [x2] q.2.said, ow [x3] q.2.trace])) (fun c w' => ∃ q, r = .inr q ∧ (∃ (x2 : Value) (x3 : Value), c = pch 97 q.1 ∧ Mem w0 hz w' [blk bp0 (v1p :: (nV q.2.steps) :: (nV q.2.used) :: x2 :: q16 q.2.cells [x3]) 80, ow [x2] q.2.said, ow [x3] q.2.trace])) := pimpl_running__code_all.1 m k_ in_ main r hq w0 hz bp0 v1p h1p v2p v3p v1 h1 hm0
theorem impl_runUnit_1_ok (w0 : World) (hz : Heap) (c0_ : running) (bpc0 : Nat) (bpd0 : Nat) (v1p : Value) (h1p : GT.rep hz [v1p] c0_.u.codes) (v2p : Value) (v3p : Value) (hbbpc0 : hz bpc0 = some (.cells ([(pV bpd0)] : List Value).toArray 45 (0, 0))) (c1_ : Unit_) (bpc1 : Nat) (v4p : Value) (h4p : GT.rep hz [v4p] c1_.codes) (hbbpc1 : hz bpc1 = some (.cells ([v4p] : List Value).toArray 25 (0, 0))) (c2_ : List Int) (bpc2 : Nat) (v5p : Value) (h5p : GT.rep hz [v5p] c2_) (hbbpc2 : hz bpc2 = some (.cells ([v5p] : List Value).toArray 26 (0, 0))) (c3_ : Outcome_) (bpc3 : Nat) (v6p : Value) (v7p : Value) (hm0 : Mem w0 hz w0 [blk bpd0 (v1p :: (nV c0_.steps) :: (nV c0_.used) :: v2p :: q16 c0_.cells [v3p]) 80, ow [v2p] c0_.said, ow [v3p] c0_.trace, blk bpc3 [v6p, (nV c3_.end_), (nV c3_.value), v7p] 30, ow [v6p] c3_.said, ow [v7p] c3_.cells]) :
    ConXM Try.prog 34 [(pV bpc0), (pV bpc1), (pV bpc2), (pV bpc3)] w0 (impl_runUnit_1 c0_ c1_ c2_ c3_) (fun r v w' => ∃ q, r = .inl q ∧ (∃ (x2 : Value) (x3 : Value) (x4 : Value) (x5 : Value), v = (.tuple #[]) ∧ Mem w0 hz w' [blk bpd0 (v1p :: (nV q.1.steps) :: (nV q.1.used) :: x2 :: q16 q.1.cells [x3]) 80, blk bpc3 [x4, (nV q.2.end_), (nV q.2.value), x5] 30, ow [x2] q.1.said, ow [x3] q.1.trace, ow [x4] q.2.said, ow [x5] q.2.cells])) fun r c w' => ∃ q, r = .inr q ∧ (∃ (x2 : Value) (x3 : Value) (x4 : Value) (x5 : Value), c = pch 97 q.1 ∧ Mem w0 hz w' [blk bpd0 (v1p :: (nV q.2.1.steps) :: (nV q.2.1.used) :: x2 :: q16 q.2.1.cells [x3]) 80, blk bpc3 [x4, (nV q.2.2.end_), (nV q.2.2.value), x5] 30, ow [x2] q.2.1.said, ow [x3] q.2.1.trace, ow [x4] q.2.2.said, ow [x5] q.2.2.cells]) := by
  unfold impl_runUnit_1
  refine gconx func34 rfl fun r => ?_
  have hm := hm0
  refine gR (gY (yl isAgg45 (hm.hz_cell hbbpc0 rfl) rfl) (gF fo_25_0 rfl (gY (yl isAgg23 (hm.hz_cell hbbpc1 rfl) rfl) ?_)))
  obtain ⟨aI, aJ, rfl, aK⟩ := ro_slice h4p
  refine gY (yV st_23 rfl) (gY (yS (by omega) (by omega) rfl) (gY (yl isAgg26 (hm.hz_cell hbbpc2 rfl) rfl) ?_))
  obtain ⟨aC, hle, hm1, hsub, aB⟩ := hm.take2 (L1 := [blk bpd0 (v1p :: (nV c0_.steps) :: (nV c0_.used) :: v2p :: q16 c0_.cells [v3p]) 80, ow [v2p] c0_.said, ow [v3p] c0_.trace]) (L2 := [blk bpc3 [v6p, (nV c3_.end_), (nV c3_.value), v7p] 30, ow [v6p] c3_.said, ow [v7p] c3_.cells]) [0, 1, 2] [3, 4, 5] (by decide) rfl rfl
  refine gb fun aL aD => gfx rfl (fun a hf => e_callx hf rfl call35 rfl (pimpl_running__code_ok _ aC c0_ bpd0 v1p (GT.mono hle h1p) v2p v3p (((c1_.codes.length : Int)) - 1) c2_ v5p (GT.mono hle h5p) true hm1  _ aD)) ?_ ?_
  ·
   rintro c w ⟨aM, rfl, aA⟩
   obtain ⟨aE, aF, rfl, hB⟩ := aA
   replace hm := aB _ _ hB; clear hB
   exact gr (gth ⟨_, rfl, aE, aF, v6p, v7p, rfl, hm.pk [0, 3, 1, 2, 4, 5] rfl rfl⟩)
  rintro aN w ⟨aO, rfl, aA⟩
  obtain ⟨aG, aH, rfl, hB⟩ := aA
  replace hm := aB _ _ hB; clear hB
  exact gl (gF fo_30_2 rfl (gS1 hm 3 sizeOf3 rfl rfl fun w hm => gE (gxn (gre results34 ⟨_, rfl, ⟨aG, aH, v6p, v7p, rfl, hm.pk [0, 3, 1, 2, 4, 5] rfl rfl⟩⟩))))
theorem slices_Clone_S_int_int_ok (w0 : World) (s_ : List Int) (v1 : Value) (h1 : GT.rep (hp w0) [v1] s_) :
    ConM Try.prog 36 [v1] w0 (slices_Clone_S_int_int s_) fun r v w' => ∃ (x1 : Value), v = x1 ∧ Mem w0 (hp w0) w' [ow [x1] r] := by
  unfold slices_Clone_S_int_int
  refine gcon func36 rfl fun r => ?_
  have hm := Mem.start w0
  refine gS (gR (gA rfl (gE (gS (gS (gR (gM rfl ?_)))))))
  rcases nil_or h1 with ⟨he, aA⟩ | ⟨aF, aG, he⟩
  ·
   subst he; subst aA
   refine gcg (m' := some ([] : List Int)) (by simp [appM]) (gY (yG rfl (y_eqnil_t st_26.und rfl rfl rfl)) (gE (gct rfl (gS (gR (gA rfl (gE (gRt ?_))))))))
   replace hm := hm.nilow (α := Int)
   exact gr1 results36 rfl ⟨(.slice none 0 0), rfl, hm.pk [0] rfl rfl⟩
  subst he
  refine gY (yG rfl (y_eqnil_f st_26.und rfl rfl rfl)) (gE (gcf rfl (gSk (gS (gR (gf rfl (fun a hf => e_build0 (α := Int) et_26 hm rfl) ?_))))))
  rintro aH w hm
  refine gM rfl (gb fun aI aB => ?_)
  obtain ⟨aC, aD⟩ := appM_some.1 aB
  refine gf rfl (fun a hf => e_append 0 et_26 hf hm rfl (hm.now h1) rfl rfl rfl aC) ?_
  rintro aE w hm
  rw [aD] at hm
  exact gA rfl (gE (gRt (gr1 results36 rfl ⟨aE, rfl, hm.pk [0] rfl rfl⟩)))
theorem run_endOf (e : Int) (w : World) : (Instr.typeAssert (.iface 97 (.int .i64 e)) 20 97 true).run Try.prog w = .ok (.tuple #[.int .i64 e, .bool true]) w := by kernel_rfl
theorem catch_panicking (p : Addr) (x e : Int) (older : List PanicEntry) (w : World) (hc : w.cell? p = some (.int .i64 x)) (hz : w.frozen? p = false) :
    CallsD Try.prog 51 #[.pointer (some p)] (.panicking ({ v := .iface 97 (.int .i64 e), recovered := false } :: older)) w fun r u' w' =>
      r = .returned (.tuple #[]) ∧ u' = .panicking ({ v := .iface 97 (.int .i64 e), recovered := true } :: older) ∧ w' = w.setCell p (.int .i64 e) := by
  refine callsD_of_wpS func51 rfl fun c₀ cs hu => ?_
  apply wpS_seq
  apply wpS_region
  simp [wpOpsS, go_sem, recoverD, hu, ntmps51, Exit.thenS]
  apply wpS_seq
  apply wpS_region
  simp [wpOpsS, go_sem, recoverD, hu, ntmps51, Exit.thenS]
  refine wpS_cond (t := true) (by simp [Act.eval, Array.replicate]) ?_
  simp only [if_true]
  apply wpS_seq
  apply wpS_region
  simp [wpOpsS, go_sem, Exit.thenS, run_endOf]
  apply wpS_seq
  apply wpS_seq
  apply wpS_region
  simp [wpOpsS, go_sem, Exit.thenS]
  refine wpS_cond (t := false) (by simp [Act.eval, Array.replicate]) ?_
  simp only [Bool.false_eq_true, if_false]
  refine wpS_of_wp (wp_skip ?_)
  simp only [Exit.thenS]
  apply wpS_region
  simp [wpOpsS, go_sem, hc, hz, bodyPostS, results, results51]
theorem catch_idle (p : Addr) (w : World) :
    CallsD Try.prog 51 #[.pointer (some p)] .returning w fun e u' w' => e = .returned (.tuple #[]) ∧ u' = .returning ∧ w' = w := by
  refine callsD_of_wpS func51 rfl fun c₀ cs hu => ?_
  apply wpS_seq
  apply wpS_region
  simp [wpOpsS, go_sem, recoverD, hu, ntmps51, Exit.thenS]
  apply wpS_seq
  apply wpS_region
  simp [wpOpsS, go_sem, recoverD, hu, ntmps51, Exit.thenS]
  refine wpS_cond (t := false) (by simp [Act.eval, Array.replicate]) ?_
  simp only [Bool.false_eq_true, if_false]
  refine wpS_of_wp (wp_skip ?_)
  cases c₀
  simp_all [bodyPostS, results, results51]
theorem caught_ok (w0 : World) (hz : Heap) (L : List Ch) (fid : Nat) (cs : List Value) (PR : List Ch → Prop) (PX : Int → List Ch → Prop)
    (hm0 : Mem w0 hz w0 L) (hcall : ∀ us w, (callFunc fid us).run Try.prog w = .ok (.enter fid us) w)
    (hrun : ∀ w1 hz1, Heap.le hz hz1 → Mem w1 hz1 w1 L → ConX Try.prog fid cs w1 (fun v w' => ∃ M, PR M ∧ Mem w1 hz1 w' M) (fun c w' => ∃ e M, PX e M ∧ c = pch 97 e ∧ Mem w1 hz1 w' M)) :
    Con Try.prog 33 [.func (.func fid) #[] cs.toArray] w0 (fun v w' => (∃ M, PR M ∧ v = .int .i64 0 ∧ Mem w0 hz w' M) ∨ (∃ e M, PX e M ∧ v = .int .i64 e ∧ Mem w0 hz w' M)) := by
  have hmf : ∀ (fn : Fn) (first cap : Array Value) (w : World), (Instr.makeFunc fn first cap).run Try.prog w = .ok (.func fn first cap) w := fun _ _ _ _ => rfl
  unfold Con
  go_enter_defers func33, ntmps33
  go_wp2
  have hm := hm0.alloc [.int .i64 0] 3
  obtain ⟨hz', hle, hm1, hk⟩ := hm.lent1
  refine Calls.mono (hrun _ hz' hle hm1) ?_
  intro e w' he
  cases e with
  | returned v =>
    obtain ⟨M, hP, hM⟩ := he
    have hm2 := hk _ _ hM
    have hkk : (M ++ [blk w0.heap.size [.int .i64 0] 3])[M.length]? = some (blk w0.heap.size [.int .i64 0] 3) := by simp
    have hb := (hm2.blk_cells M.length hkk).1
    have hc : w'.cell? ⟨w0.heap.size, 0, none⟩ = some (.int .i64 0) := by simp [World.cell?, hb]
    have hf : w'.frozen? ⟨w0.heap.size, 0, none⟩ = false := by simp [World.frozen?, hb]
    go_wp2
    have hc2 : (w'.setCell ⟨w0.heap.size, 0, none⟩ (.int .i64 0)).cell? ⟨w0.heap.size, 0, none⟩ = some (.int .i64 0) := World.cell?_setCell_same _ _ _ hc
    have hm3 : Mem w0 hz (w'.setCell ⟨w0.heap.size, 0, none⟩ (.int .i64 0)) M := by
      have h3 := hm2.blk_set (i := 0) (v := .int .i64 0) M.length hkk
      refine h3.pick (List.range M.length) List.nodup_range ?_
      apply List.ext_getElem?
      intro i
      by_cases hi : i < M.length
      · rw [List.getElem?_map, List.getElem?_range hi, List.getElem?_map, Option.map_some, List.getElem?_set_ne (by omega), List.getElem?_append_left hi, List.getElem?_eq_getElem hi]; rfl
      · simp [List.getElem?_map, List.getElem?_eq_none (show M.length ≤ i by omega), List.getElem?_eq_none (show (List.range M.length).length ≤ i by simp; omega)]
    refine leaves_cons (f := 51) (args := #[.pointer (some ⟨w0.heap.size, 0, none⟩)]) (by simp) (by simp [go_sem]) ?_
    refine (catch_idle ⟨w0.heap.size, 0, none⟩ _).mono ?_
    rintro e' u' w'' ⟨rfl, rfl, rfl⟩
    simp [Leaves, settle, results, results33, go_sem, hc2]
    exact .inl ⟨M, hP, rfl, hm3⟩
  | panicked c =>
    obtain ⟨e, M, hP, rfl, hM⟩ := he
    have hm2 := hk _ _ hM
    have hkk : (M ++ [blk w0.heap.size [.int .i64 0] 3])[M.length]? = some (blk w0.heap.size [.int .i64 0] 3) := by simp
    have hb := (hm2.blk_cells M.length hkk).1
    have hc : w'.cell? ⟨w0.heap.size, 0, none⟩ = some (.int .i64 0) := by simp [World.cell?, hb]
    have hf : w'.frozen? ⟨w0.heap.size, 0, none⟩ = false := by simp [World.frozen?, hb]
    refine leaves_cons (f := 51) (args := #[.pointer (some ⟨w0.heap.size, 0, none⟩)]) (by simp) (by simp [go_sem]) ?_
    refine (catch_panicking ⟨w0.heap.size, 0, none⟩ 0 e [] _ hc hf).mono ?_
    rintro e' u' w'' ⟨rfl, rfl, rfl⟩
    have hc2 : (w'.setCell ⟨w0.heap.size, 0, none⟩ (.int .i64 e)).cell? ⟨w0.heap.size, 0, none⟩ = some (.int .i64 e) := World.cell?_setCell_same _ _ _ hc
    have hm3 : Mem w0 hz (w'.setCell ⟨w0.heap.size, 0, none⟩ (.int .i64 e)) M := by
      have h3 := hm2.blk_set (i := 0) (v := .int .i64 e) M.length hkk
      refine h3.pick (List.range M.length) List.nodup_range ?_
      apply List.ext_getElem?
      intro i
      by_cases hi : i < M.length
      · rw [List.getElem?_map, List.getElem?_range hi, List.getElem?_map, Option.map_some, List.getElem?_set_ne (by omega), List.getElem?_append_left hi, List.getElem?_eq_getElem hi]; rfl
      · simp [List.getElem?_map, List.getElem?_eq_none (show M.length ≤ i by omega), List.getElem?_eq_none (show (List.range M.length).length ≤ i by simp; omega)]
    simp [Leaves, settle, results, results33, go_sem, hc2]
    exact .inr ⟨e, M, hP, rfl, hm3⟩
  | outgrown => exact he.elim
theorem caught_ok2 {w0 : World} (hz : Heap) (L : List Ch) (fid : Nat) (cs : List Value) (PR : List Ch → Prop) (PX : Int → List Ch → Prop) (post : World → Value → World → Prop)
    (hm0 : Mem w0 hz w0 L) (hcall : ∀ us w, (callFunc fid us).run Try.prog w = .ok (.enter fid us) w)
    (hrun : ∀ w1 hz1, Heap.le hz hz1 → Mem w1 hz1 w1 L → ConX Try.prog fid cs w1 (fun v w' => ∃ M, PR M ∧ Mem w1 hz1 w' M) (fun c w' => ∃ e M, PX e M ∧ c = pch 97 e ∧ Mem w1 hz1 w' M))
    (hp : ∀ w v w', ((∃ M, PR M ∧ v = .int .i64 0 ∧ Mem w hz w' M) ∨ (∃ e M, PX e M ∧ v = .int .i64 e ∧ Mem w hz w' M)) → post w v w') :
    Con Try.prog 33 [.func (.func fid) #[] cs.toArray] w0 (post w0) := Con.weak (caught_ok w0 hz L fid cs PR PX hm0 hcall hrun) (hp w0)
theorem impl_runUnit_ok (w0 : World) (hz : Heap) (hle0 : Heap.le hz (hp w0)) (u : Unit_) (v1 : Value) (h1 : GT.rep hz [v1] u.codes) (in_ : List Int) (v2 : Value) (h2 : GT.rep hz [v2] in_) (steps : Int) :
    ConM Try.prog 18 [(.agg #[v1]), v2, (nV steps)] w0 (impl_runUnit u in_ steps) fun r v w' => ∃ (x1 : Value) (x2 : Value) (b3 : Nat) (x4 : Value) (x6 : Value) (hz2 : Heap), v = (.tuple #[(.agg #[x1, (nV r.1.end_), (nV r.1.value), x2]), (pV b3)]) ∧ Heap.le hz hz2 ∧ GT.rep hz2 [x4] r.2.u.codes ∧ Mem w0 hz2 w' [junk w0 hz, blk b3 (x4 :: (nV r.2.steps) :: (nV r.2.used) :: x1 :: q16 r.2.cells [x6]) 80, ow [x1] r.1.said, ow [x2] r.1.cells, ow [x6] r.2.trace] := by
  unfold impl_runUnit
  refine gcon func18 rfl fun r => ?_
  have hm := Mem.startA hle0
  refine gS (gR (gBx hm rfl fun aH w hm => ?_))
  obtain ⟨aK, aL, rfl, aW⟩ := ro_slice h2
  refine gBx hm rfl fun aI w hm => gAl hm zeroValue30 rfl fun aP w hm => gA rfl (gE (gS (gR (gY (yn (hm.blk_at 2 rfl) isAgg25 sizeOf25 rfl) (gM rfl ?_)))))
  obtain ⟨aB, aC, rfl, aX⟩ := ro_slice h1
  refine gY (yG rfl (y_build (vs := [(0, (.agg #[(.slice aB u.codes.length aC)])), (1, (nV steps))]) (cs := #[(.slice aB u.codes.length aC), (nV steps), (nV 0), (.slice none 0 0), (nV 0), (nV 0), (nV 0), (nV 0), (nV 0), (nV 0), (nV 0), (nV 0), (nV 0), (nV 0), (nV 0), (nV 0), (nV 0), (nV 0), (nV 0), (nV 0), (.slice none 0 0)]) rfl rfl (by kernel_rfl))) (gBx hm rfl fun aD w hm => gAl hm zeroValue45 rfl fun aJ w hm => gS1 hm 0 sizeOf45 rfl rfl fun w hm => gE (gS (gR (gAl hm zeroValue30 rfl fun aE w hm => gE (gS (gR (gY (yU rfl) ?_)))))))
  replace hm := hm.nilow (α := Int)
  replace hm := hm.nilow (α := Int)
  replace hm := hm.nilow (α := Int)
  replace hm := hm.nilow (α := Int)
  refine gb fun aA aR => ?_
  obtain ⟨aQ, hle, hm1, hsub, aS⟩ := hm.take2 (L1 := [blk aD [(.slice aB u.codes.length aC), (nV steps), (nV 0), (.slice none 0 0), (nV 0), (nV 0), (nV 0), (nV 0), (nV 0), (nV 0), (nV 0), (nV 0), (nV 0), (nV 0), (nV 0), (nV 0), (nV 0), (nV 0), (nV 0), (nV 0), (.slice none 0 0)] 80, ow [(.slice none 0 0)] ([] : List Int), ow [(.slice none 0 0)] ([] : List Int), blk aE [(.slice none 0 0), (nV 0), (nV 0), (.slice none 0 0)] 30, ow [(.slice none 0 0)] ([] : List Int), ow [(.slice none 0 0)] ([] : List Int)]) (L2 := [blk aJ [(pV aD)] 45, blk aP [(.slice none 0 0), (nV 0), (nV 0), (.slice none 0 0)] 30, blk aI [(.slice aK in_.length aL)] 26, blk aH [(.slice aB u.codes.length aC)] 25, junk w0 hz]) [6, 3, 2, 4, 1, 0] [5, 7, 8, 9, 10] (by decide) rfl rfl
  have aT := caught_ok2 aQ [blk aD [(.slice aB u.codes.length aC), (nV steps), (nV 0), (.slice none 0 0), (nV 0), (nV 0), (nV 0), (nV 0), (nV 0), (nV 0), (nV 0), (nV 0), (nV 0), (nV 0), (nV 0), (nV 0), (nV 0), (nV 0), (nV 0), (nV 0), (.slice none 0 0)] 80, ow [(.slice none 0 0)] ([] : List Int), ow [(.slice none 0 0)] ([] : List Int), blk aE [(.slice none 0 0), (nV 0), (nV 0), (.slice none 0 0)] 30, ow [(.slice none 0 0)] ([] : List Int), ow [(.slice none 0 0)] ([] : List Int)] 34 [(pV aJ), (pV aH), (pV aI), (pV aE)] (fun M => ∃ q, aA = .inl q ∧ ∃ (x2 : Value) (x3 : Value) (x4 : Value) (x5 : Value), M = [blk aD ((.slice aB u.codes.length aC) :: (nV q.1.steps) :: (nV q.1.used) :: x2 :: q16 q.1.cells [x3]) 80, blk aE [x4, (nV q.2.end_), (nV q.2.value), x5] 30, ow [x2] q.1.said, ow [x3] q.1.trace, ow [x4] q.2.said, ow [x5] q.2.cells]) (fun e M => ∃ q, aA = .inr q ∧ ∃ (x2 : Value) (x3 : Value) (x4 : Value) (x5 : Value), e = q.1 ∧ M = [blk aD ((.slice aB u.codes.length aC) :: (nV q.2.1.steps) :: (nV q.2.1.used) :: x2 :: q16 q.2.1.cells [x3]) 80, blk aE [x4, (nV q.2.2.end_), (nV q.2.2.value), x5] 30, ow [x2] q.2.1.said, ow [x3] q.2.1.trace, ow [x4] q.2.2.said, ow [x5] q.2.2.cells]) (fun w v w' => ∃ (x2 : Value) (x3 : Value) (x4 : Value) (x5 : Value), v = (nV ((caughtM aA).1)) ∧ Mem w aQ w' [blk aD ((.slice aB u.codes.length aC) :: (nV ((caughtM aA).2.1.steps)) :: (nV ((caughtM aA).2.1.used)) :: x2 :: q16 (((caughtM aA).2.1.cells)) [x3]) 80, blk aE [x4, (nV ((caughtM aA).2.2.end_)), (nV ((caughtM aA).2.2.value)), x5] 30, ow [x2] ((caughtM aA).2.1.said), ow [x3] ((caughtM aA).2.1.trace), ow [x4] ((caughtM aA).2.2.said), ow [x5] ((caughtM aA).2.2.cells)]) hm1 call34 (fun w1 hz1 hle1 hm2 => ConX.mono (impl_runUnit_1_ok w1 hz1 (⟨u, steps, 0, ([] : List Int), (List.replicate 16 0), ([] : List Int)⟩ : running) aJ aD (.slice aB u.codes.length aC) (GT.mono hle1 (GT.mono hle h1)) (.slice none 0 0) (.slice none 0 0) (hle1 _ _ (fz_blk (hsub 0 _ rfl))) u aH (.slice aB u.codes.length aC) (GT.mono hle1 (GT.mono hle h1)) (hle1 _ _ (fz_blk (hsub 3 _ rfl))) in_ aI (.slice aK in_.length aL) (GT.mono hle1 (GT.mono hle h2)) (hle1 _ _ (fz_blk (hsub 2 _ rfl))) (⟨([] : List Int), 0, 0, ([] : List Int)⟩ : Outcome_) aE (.slice none 0 0) (.slice none 0 0) hm2  aA aR) (by rintro v w' ⟨q, hr, x2, x3, x4, x5, rfl, hB⟩; exact ⟨_, ⟨q, hr, x2, x3, x4, x5, rfl⟩, hB⟩) (by rintro c w' ⟨q, hr, x2, x3, x4, x5, rfl, hB⟩; exact ⟨_, _, ⟨q, hr, x2, x3, x4, x5, rfl, rfl⟩, rfl, hB⟩)) (by rintro w v w' (⟨M, ⟨q, rfl, x2, x3, x4, x5, rfl⟩, rfl, hB⟩ | ⟨e, M, ⟨q, rfl, x2, x3, x4, x5, rfl, rfl⟩, rfl, hB⟩) <;> exact ⟨x2, x3, x4, x5, rfl, hB⟩)
  refine gf rfl (fun a hf => e_call hf rfl call33 rfl aT) ?_
  rintro aY w ⟨aF, aG, aM, aN, rfl, hB⟩
  replace hm := aS _ _ hB; clear hB
  refine gF fo_30_1 rfl (gS1 hm 1 sizeOf3 rfl rfl fun w hm => gE (gS (gW (.q 0 (.p 1 (.p 2 (.q 3 (.p 9 (.e 4 (.p 5 (.p 6 (.p 7 (.e 8 (.e 10 (.p 11 (.e 12 .fin .nil)) .nil) .nil)))) .nil)))))) [4, 8] [1, 2, 5, 6, 7, 9, 11] hm [0, 1, 2, 3, 4, 5, 6, 7, 8, 9, 10] [blk aD ((.slice aB u.codes.length aC) :: (nV ((caughtM aA).2.1.steps)) :: (nV ((caughtM aA).2.1.used)) :: aF :: q16 (((caughtM aA).2.1.cells)) [aG]) 80, blk aE [aM, (nV ((caughtM aA).1)), (nV ((caughtM aA).2.2.value)), aN] 30, ow [aF] ((caughtM aA).2.1.said), ow [aG] ((caughtM aA).2.1.trace), ow [aM] ((caughtM aA).2.2.said), ow [aN] ((caughtM aA).2.2.cells), blk aJ [(pV aD)] 45, blk aP [(.slice none 0 0), (nV 0), (nV 0), (.slice none 0 0)] 30, blk aI [(.slice aK in_.length aL)] 26, blk aH [(.slice aB u.codes.length aC)] 25, junk w0 hz] rfl mxo (by kernel_rfl) (fun _ _ _ h => h.2) fun w hm hS => tQ rfl hS (fun w hm => yL hm 6 isAgg45 rfl) (tP rfl (fun w => yG rfl (y_nilptr rfl rfl)) (tP rfl (fun w => yF fo_80_3 rfl) (tQ rfl hS (fun w hm => yL hm 0 isAgg26 rfl) (tP rfl (fun w => yF fo_30_0 rfl) (tO (tY rfl (yL hm 6 isAgg45 rfl) (tAs hS (tP rfl (fun w => yG rfl (y_nilptr rfl rfl)) (tP rfl (fun w => yF fo_80_4 rfl) (tP rfl (fun w => yG rfl (y_slcArr (n := 16) underlying78 rfl rfl sizeOf3)) (tO (gb fun aU aV => ?_)))))))))))))))
  refine tf rfl rfl (fun a hf => e_call hf rfl call36 rfl (slices_Clone_S_int_int_ok _ (normA 16 ((caughtM aA).2.1.cells)) (sV aD 4 16 16) (hm.arr_rep (pre := [(.slice aB u.codes.length aC), (nV ((caughtM aA).2.1.steps)), (nV ((caughtM aA).2.1.used)), aF]) (post := [aG]) (arr := ((caughtM aA).2.1.cells)) (n := 16) 0 rfl (by decide)) _ aV)) ?_
  rintro aO w ⟨_, rfl, hB⟩
  replace hm := hm.give hB; clear hB
  refine tAk hm [1, 2, 3, 4, 5, 6, 7, 8, 9, 10, 11] rfl fun hS => tO (tf0 rfl rfl (fun a hf => e_store1 2 hf hm rfl sizeOf26 rfl rfl rfl (rep_one (hm.ow_rep 3 rfl)) rfl) ?_)
  rintro _ w hm
  refine tAn rfl (tP rfl (fun w => yF fo_30_3 rfl) (tO (tf0 rfl rfl (fun a hf => e_store1 2 hf hm rfl sizeOf26 rfl rfl rfl (rep_one (hm.ow_rep 0 rfl)) rfl) ?_)))
  rintro _ w hm
  refine tAn rfl (tE (gS (gW (.q 0 (.q 1 (.e 2 (.p 3 .fin) .nil))) [0, 1, 2] [3] hm [0, 1, 2, 3, 4, 5, 6, 7, 9, 10, 11] [ow [aO] aU, blk aD ((.slice aB u.codes.length aC) :: (nV ((caughtM aA).2.1.steps)) :: (nV ((caughtM aA).2.1.used)) :: aF :: q16 (((caughtM aA).2.1.cells)) [aG]) 80, blk aE [aF, (nV ((caughtM aA).1)), (nV ((caughtM aA).2.2.value)), aO] 30, ow [aF] ((caughtM aA).2.1.said), ow [aG] ((caughtM aA).2.1.trace), ow [aM] ((caughtM aA).2.2.said), ow [aN] ((caughtM aA).2.2.cells), blk aJ [(pV aD)] 45, blk aI [(.slice aK in_.length aL)] 26, blk aH [(.slice aB u.codes.length aC)] 25, junk w0 hz] rfl mxo (by kernel_rfl) (fun _ _ _ h => h.2) fun w hm hS => tQ rfl hS (fun w hm => yn (hm.blk_at 2 rfl) isAgg30 sizeOf30 rfl) (tQ rfl hS (fun w hm => yL hm 7 isAgg45 rfl) (tO (tf0 rfl rfl (fun a hf => e_storeN 8 hf hm rfl sizeOf30 rfl rfl rfl (one_cons (rep_one (hm.ow_rep 3 rfl)) (one_cons rfl (one_cons rfl (one_cons (rep_one (hm.ow_rep 0 rfl)) one_nil)))) rfl rfl) ?_))))))
  rintro _ w hm
  exact tAk hm [0, 1, 2, 3, 4, 5, 6, 7, 9, 10, 11] rfl fun hS => tP rfl (fun w => yA rfl) (tE (gRt (grct 8 results18 hm rfl isAgg30 sizeOf30 ⟨aF, aO, aD, (.slice aB u.codes.length aC), aG, hz, rfl, (Heap.le_refl _), h1, hm.pk [11, 1, 3, 0, 4] rfl rfl⟩)))
theorem impl_RunUnit_ok (w0 : World) (u : Unit_) (v1 : Value) (h1 : GT.rep (hp w0) [v1] u.codes) (in_ : List Int) (v2 : Value) (h2 : GT.rep (hp w0) [v2] in_) (steps : Int) :
    ConM Try.prog 5 [(.agg #[v1]), v2, (nV steps)] w0 (impl_RunUnit u in_ steps) fun r v w' => ∃ (x1 : Value) (x2 : Value), v = (.tuple #[(.agg #[x1, (nV r.1.end_), (nV r.1.value), x2]), (.bool (r.2))]) ∧ Mem w0 (hp w0) w' [ow [x1] r.1.said, ow [x2] r.1.cells] := by
  unfold impl_RunUnit
  refine gcon func5 rfl fun r => ?_
  have hm := Mem.start w0
  refine gS (gR (gBx hm rfl fun aE w hm => gAl hm zeroValue30 rfl fun aF w hm => gA rfl (gE (gS (gS (gR (gY (yn (hm.blk_at 1 rfl) isAgg25 sizeOf25 rfl) (gM rfl (gM rfl (gC hm rfl call17 (impl_unitRuns_ok _ u v1 (hm.now h1) in_ v2 (hm.now h2) steps) fun aG aH w hm => gN rfl (gE (gsn 14 rfl (fun aB => ?_) fun aB => ?_))))))))))))
  ·
   refine gct rfl (gS (gR (gY (yG rfl (y_build (vs := []) (cs := #[(.slice none 0 0), (nV 0), (nV 0), (.slice none 0 0)]) rfl rfl (by kernel_rfl))) (gSN hm 0 sizeOf30 (one_cons rfl (one_cons rfl (one_cons rfl (one_cons rfl one_nil)))) rfl fun w hm => gA rfl (gE (gRt ?_))))))
   replace hm := hm.nilow (α := Int)
   replace hm := hm.nilow (α := Int)
   exact grct 2 results5 hm rfl isAgg30 sizeOf30 ⟨(.slice none 0 0), (.slice none 0 0), rfl, hm.pk [1, 0] rfl rfl⟩
  refine gcf rfl (gSk (gS (gR (gY (yn (hm.blk_at 1 rfl) isAgg25 sizeOf25 rfl) (gM rfl (gM rfl (gCg rfl call18 (impl_runUnit_ok _ _ hm.lez u v1 h1 in_ v2 h2 steps ) ?_)))))))
  rintro aI aJ aK w ⟨aC, aD, aL, aM, aN, aO, rfl, aA, aP, hB⟩
  replace hm := Mem.giveA hm aA hB; clear hB
  refine gM rfl (gX rfl (gX rfl (gAl hm zeroValue30 rfl fun aQ w hm => gSN hm 0 sizeOf30 (one_cons (rep_one (hm.ow_rep 2 rfl)) (one_cons rfl (one_cons rfl (one_cons (rep_one (hm.ow_rep 3 rfl)) one_nil)))) rfl fun w hm => gA rfl (gE (gS (gR (gY (yn (hm.blk_at 0 rfl) isAgg30 sizeOf30 rfl) (gSN hm 5 sizeOf30 (one_cons (rep_one (hm.ow_rep 2 rfl)) (one_cons rfl (one_cons rfl (one_cons (rep_one (hm.ow_rep 3 rfl)) one_nil)))) rfl fun w hm => gA rfl (gE (gRt ?_))))))))))
  replace hm := hm.thaw aA
  exact grct 5 results5 hm rfl isAgg30 sizeOf30 ⟨aC, aD, rfl, hm.pk [2, 3] rfl rfl⟩
theorem spec_l7Regs_ok (w0 : World) (c_ : Code_) (v1 : Value) (h1 : GT.rep (hp w0) [v1] c_.blocks) (list : List Int) (v2 : Value) (h2 : GT.rep (hp w0) [v2] list) :
    ConM Try.prog 83 [(.agg #[(nV c_.params), (nV c_.regs), v1]), v2] w0 (spec_l7Regs c_ list) fun r v w' => v = (.bool (r)) ∧ Below w0.heap.size w0 w' := by
  unfold spec_l7Regs
  refine gcon func83 rfl fun r => ?_
  have hm := Mem.start w0
  refine gS (gR (gBx hm rfl fun aA w hm => gA rfl (gE (gS (gS (gR (gA rfl (gE (gBk (gNf hm (fun aB aD => [(1, v2), (2, (pV aA)), (5, (nV aB))]) (fun aB aD => [blk aA [(nV c_.params), (nV c_.regs), v1] 59]) [0] rfl ?_ ?_))))))))))
  ·
   repeat clear hm
   intro aK aF aB aD w hm aL aM aN aG
   refine gS (gS (gR (gM rfl (gM rfl ?_))))
   obtain ⟨aO, aP, rfl, aQ⟩ := ro_slice h2
   refine gY (yV st_26 rfl) (gB rfl (gE (go _ 9 rfl (decide_eq_true (by omega)) (gct rfl (gSk (gS (gBk (gS (gW (.p 0 (.p 1 (.p 2 (.p 4 (.q 3 (.e 5 (.p 6 (.e 7 (.p 8 .fin) .nil)) .nil)))))) [5] [0, 1, 2, 4, 6, 8] hm [0] [blk aA [(nV c_.params), (nV c_.regs), v1] 59] rfl mxo (by kernel_rfl) (fun _ _ _ h => h.2) fun w hm hS => tP rfl (fun w => yM rfl) (tP rfl (fun w => yM rfl) (gg fun aE aH aC => ?_)))))))))))
   obtain ⟨aR, aS, aT, he⟩ := idx_form h2 aC
   obtain ⟨rfl, _, rfl⟩ := sl3 he
   refine tP rfl (fun w => yI st_26 aH (idx_lt aC) rfl) (tP rfl (fun w => yF fo_59_1 rfl) (tQ rfl hS (fun w hm => yl isAgg3 ((flat_cells (cs := [(nV aE)]) (hm.now h2) aC rfl).cell (j := 0) rfl) rfl) (tO (tY rfl (yL hm 0 isAgg3 rfl) (tAs hS (tP rfl (fun w => yB rfl) (tO (gb fun aU aI => tf rfl rfl (fun a hf => e_call hf rfl call20 rfl (spec_l1In_ok _ aE 0 (w64 (c_.regs - 1)) _ aI)) ?_))))))))
   rintro aV w ⟨rfl, hB⟩
   replace hm := hm.below' hB; clear hB
   refine tAn rfl (tP rfl (fun w => yN rfl) (tE (gsn 20 rfl (fun aJ => ?_) fun aJ => ?_)))
   ·
    exact gct rfl (gS (gR (gA rfl (gE (gRt (gLr aG aF (gr1 results83 rfl ⟨rfl, hm.below⟩)))))))
   exact gcf rfl (gSk (gR (gM rfl (gP (by omega) (by omega) rfl (gA rfl (gE (gze hm [0] rfl)))))))
  repeat clear hm
  intro aW aX w hm aY aZ
  refine gS (gS (gR (gM rfl (gM rfl ?_))))
  obtain ⟨aa, ab, rfl, ac⟩ := ro_slice h2
  exact gY (yV st_26 rfl) (gB rfl (gE (go _ 9 rfl (decide_eq_false (by omega)) (gcf rfl (gXt (gHh (gS (gR (gA rfl (gE (gRt (gr1 results83 rfl ⟨rfl, hm.below⟩))))))))))))
theorem spec_l7Ins_ok (w0 : World) (u : Unit_) (v1 : Value) (h1 : GT.rep (hp w0) [v1] u.codes) (k_ : Int) (x_ : Ins_) (v2 : Value) (h2 : GT.rep (hp w0) [v2] x_.args) :
    ConM Try.prog 82 [(.agg #[v1]), (nV k_), (.agg #[(nV x_.op), (nV x_.to), v2, (nV x_.n_)])] w0 (spec_l7Ins u k_ x_) fun r v w' => v = (.bool (r)) ∧ Below w0.heap.size w0 w' := by
  unfold spec_l7Ins
  refine gcon func82 rfl fun r => ?_
  have hm := Mem.start w0
  refine gS (gR (gBx hm rfl fun aA w hm => gBx hm rfl fun aB w hm => gA rfl (gE (gS (gR (gF fo_25_0 rfl (gL hm 1 isAgg23 rfl (gM rfl (gg fun aC aP aK => ?_)))))))))
  obtain ⟨aD, aE, aF, he⟩ := idx_form' h1 aK
  subst he
  obtain ⟨aL, aQ, aN⟩ := rk_Code_ h1 aK
  refine gI st_23 aP (idx_lt aK) rfl (gY (yn (aQ.mono hm.lez) isAgg59 sizeOf59 rfl) (gAl hm zeroValue59 rfl fun aM w hm => gSN hm 0 sizeOf59 (one_cons rfl (one_cons rfl (one_cons (rep_one aN) one_nil))) rfl fun w hm => gE (gS (gS (gJ hm (fun aG => [(1, (nV k_)), (3, (pV aA)), (5, (pV aB)), (7, (pV aM)), (23, (.bool (aG)))]) (fun aG => [blk aA [(sV aD aE u.codes.length aF)] 25, blk aB [(nV x_.op), (nV x_.to), v2, (nV x_.n_)] 75, blk aM [(nV aC.params), (nV aC.regs), aL] 59]) (fun aG => ?_) ?_)))))
  ·
   refine gR (gF fo_75_0 rfl (gL hm 1 isAgg3 rfl (gC hm rfl call20 (spec_l1In_ok _ x_.op 1 14) fun ak al w hm => gN rfl (gM rfl (gsn 17 rfl (fun aR => ?_) fun aR => ?_)))))
   ·
    exact gO rfl (gO rfl (gO rfl (gO rfl (gO rfl (gKt rfl (gE (gz hm [2, 1, 0] rfl)))))))
   exact gY (yn (hm.blk_at 0 rfl) isAgg59 sizeOf59 rfl) (gF fo_75_2 rfl (gL hm 1 isAgg26 rfl (gC hm rfl call83 (spec_l7Regs_ok _ aC aL (hm.now aN) x_.args v2 (hm.now h2)) fun am an w hm => gN rfl (gKf rfl (gE (gz hm [2, 1, 0] rfl))))))
  repeat clear hm
  intro aG w hm
  refine gs 23 rfl (fun aS => ?_) fun aS => ?_
  ·
   exact gct rfl (gS (gR (gA rfl (gE (gRt (gr1 results82 rfl ⟨rfl, hm.below⟩))))))
  refine gcf rfl (gSk (gS (gS (gJ hm (fun aH => [(1, (nV k_)), (3, (pV aA)), (5, (pV aB)), (44, (.bool (aH)))]) (fun aH => [blk aA [(sV aD aE u.codes.length aF)] 25, blk aB [(nV x_.op), (nV x_.to), v2, (nV x_.n_)] 75]) (fun aH => ?_) ?_))))
  ·
   refine gW (.p 0 (.p 3 (.p 5 (.q 1 (.q 4 (.q 6 (.p 7 (.e 2 (.e 8 (.p 9 (.p 10 (.p 11 (.e 12 (.e 13 (.p 14 (.p 15 (.p 16 (.e 17 (.p 18 (.p 19 (.p 20 .fin))) .nil)))) .nil) .nil)))) .nil) .nil)))))))) [1, 2, 4, 6] [0, 3, 5, 7, 9, 10, 11, 14, 15, 16, 18, 19, 20] hm [0, 1, 2] [blk aA [(sV aD aE u.codes.length aF)] 25, blk aB [(nV x_.op), (nV x_.to), v2, (nV x_.n_)] 75, blk aM [(nV aC.params), (nV aC.regs), aL] 59] rfl mxo (by kernel_rfl) (fun _ _ _ h => h.2) fun w hm hS => tP rfl (fun w => yF fo_75_0 rfl) (tP rfl (fun w => yF fo_75_1 rfl) (tP rfl (fun w => yF fo_59_1 rfl) (tQ rfl hS (fun w hm => yL hm 1 isAgg3 rfl) (tQ rfl hS (fun w hm => yL hm 1 isAgg3 rfl) (tQ rfl hS (fun w hm => yL hm 2 isAgg3 rfl) (tP rfl (fun w => yB rfl) (tO (gb fun ao aT => tf rfl rfl (fun a hf => e_call hf rfl call74 rfl (spec_l7Makes_ok _ x_.op _ aT)) ?_))))))))
   rintro aq w ⟨rfl, hB⟩
   replace hm := hm.below' hB; clear hB
   refine tAk hm [0, 1, 2] rfl fun hS => tO (gb fun ar aU => tf rfl rfl (fun a hf => e_call hf rfl call20 rfl (spec_l1In_ok _ x_.to 0 (w64 (aC.regs - 1)) _ aU)) ?_)
   rintro au w ⟨rfl, hB⟩
   replace hm := hm.below' hB; clear hB
   refine tAn rfl (tP rfl (fun w => yG rfl (y_neqb underlying4 rfl rfl rfl)) (tP rfl (fun w => yM rfl) (gsd 34 rfl (fun aV => ?_) fun aV => ?_)))
   ·
    exact tPo rfl rfl (tO (tEo rfl rfl (tAn rfl (tO (tEo rfl rfl (tAn rfl (tPo rfl rfl (tPo rfl rfl (tPo rfl rfl (tO (tEo rfl rfl (tAn rfl (tPo rfl rfl (tPo rfl rfl (tP rfl (fun w => yKt rfl) (tE (gz hm [0, 1] rfl)))))))))))))))))
   refine tP rfl (fun w => yF fo_75_0 rfl) (tO (tY rfl (yL hm 1 isAgg3 rfl) (tAn rfl (tO (gb fun av aW => tf rfl rfl (fun a hf => e_call hf rfl call74 rfl (spec_l7Makes_ok _ x_.op _ aW)) ?_)))))
   rintro aw w ⟨rfl, hB⟩
   replace hm := hm.below' hB; clear hB
   refine tAn rfl (tP rfl (fun w => yN rfl) (tP rfl (fun w => yM rfl) (gsn 39 rfl (fun aX => ?_) fun aX => ?_)))
   ·
    exact tP rfl (fun w => yF fo_75_1 rfl) (tO (tY rfl (yL hm 1 isAgg3 rfl) (tAn rfl (tP rfl (fun w => yB rfl) (tP rfl (fun w => yKt rfl) (tP rfl (fun w => yKf rfl) (tE (gz hm [0, 1] rfl))))))))
   exact tPo rfl rfl (tO (tEo rfl rfl (tAn rfl (tPo rfl rfl (tP rfl (fun w => yKf rfl) (tP rfl (fun w => yKf rfl) (tE (gz hm [0, 1] rfl))))))))
  repeat clear hm
  intro aH w hm
  refine gs 44 rfl (fun aY => ?_) fun aY => ?_
  ·
   exact gct rfl (gS (gR (gA rfl (gE (gRt (gr1 results82 rfl ⟨rfl, hm.below⟩))))))
  refine gcf rfl (gSk (gS (gS (gR (gF fo_75_0 rfl (gL hm 1 isAgg3 rfl (gB rfl (gE (gsd 47 rfl (fun aZ => ?_) fun aZ => ?_)))))))))
  ·
   refine gct rfl (gS (gJ hm (fun aI => [(6, (.bool (aI)))]) (fun aI => []) (fun aI => ?_) ?_))
   ·
    refine gW (.p 0 (.p 2 (.p 3 (.e 1 (.e 4 (.p 5 (.p 6 (.p 9 (.p 11 (.q 7 (.p 8 (.q 10 (.e 12 (.p 13 (.p 14 (.e 15 (.p 16 (.p 17 (.p 18 .fin))) .nil))) .nil)))))))) .nil) .nil)))) [7, 10, 12, 15] [0, 2, 3, 5, 6, 8, 9, 11, 13, 14, 16, 17, 18] hm [0, 1] [blk aA [(sV aD aE u.codes.length aF)] 25, blk aB [(nV x_.op), (nV x_.to), v2, (nV x_.n_)] 75] rfl mxo (by kernel_rfl) (fun _ _ _ h => h.2) fun w hm hS => tP rfl (fun w => yF fo_75_3 rfl) (tP rfl (fun w => yM rfl) (tP rfl (fun w => yB rfl) (tO (tY rfl (yL hm 1 isAgg3 rfl) (tAn rfl (tO (gb fun ax aa => tf rfl rfl (fun a hf => e_call hf rfl call20 rfl (spec_l1In_ok _ x_.n_ 0 (w64 (k_ - 1)) _ aa)) ?_)))))))
    rintro ay w ⟨rfl, hB⟩
    replace hm := hm.below' hB; clear hB
    refine tAk hm [0, 1] rfl fun hS => tP rfl (fun w => yM rfl) (gs 53 rfl (fun ab => ?_) fun ab => ?_)
    ·
     refine tP rfl (fun w => yF fo_75_2 rfl) (tP rfl (fun w => yF fo_25_0 rfl) (tP rfl (fun w => yF fo_75_3 rfl) (tQ rfl hS (fun w hm => yL hm 1 isAgg26 rfl) ?_)))
     obtain ⟨az, bA, rfl, bB⟩ := ro_slice h2
     refine tP rfl (fun w => yV st_26 rfl) (tQ rfl hS (fun w hm => yL hm 0 isAgg23 rfl) (tO (tY rfl (yL hm 1 isAgg3 rfl) (tAs hS (gg fun bC ac aO => ?_)))))
     obtain ⟨bD, ae, bE⟩ := rk_Code_ h1 aO
     exact tP rfl (fun w => yI st_23 ac (idx_lt aO) rfl) (tP rfl (fun w => yF fo_59_0 rfl) (tO (tY rfl (yl isAgg3 ((ae.mono hm.lez).cell (j := 0) rfl) rfl) (tAs hS (tP rfl (fun w => yB rfl) (tP rfl (fun w => yKt rfl) (tP rfl (fun w => yA rfl) (tE (gz hm [] rfl)))))))))
    exact tPo rfl rfl (tPo rfl rfl (tPo rfl rfl (tQo rfl hS rfl (tPo rfl rfl (tQo rfl hS rfl (tO (tEo rfl rfl (tAs hS (tPo rfl rfl (tPo rfl rfl (tO (tEo rfl rfl (tAs hS (tPo rfl rfl (tP rfl (fun w => yKf rfl) (tP rfl (fun w => yA rfl) (tE (gz hm [] rfl))))))))))))))))))
   repeat clear hm
   intro aI w hm
   exact gRt (gr1 results82 rfl ⟨rfl, hm.below⟩)
  refine gcf rfl (gSk (gS (gJ hm (fun aJ => [(6, (.bool (aJ)))]) (fun aJ => []) (fun aJ => ?_) ?_)))
  ·
   refine gW (.p 0 (.p 3 (.q 1 (.p 2 (.e 4 (.e 5 (.p 6 (.p 7 (.p 8 (.e 9 (.e 10 (.p 11 (.p 12 (.p 13 (.e 14 (.p 15 (.p 16 (.p 17 (.e 18 (.p 19 (.p 20 (.p 21 (.p 22 .fin)))) .nil)))) .nil)))) .nil) .nil)))) .nil) .nil))))) [4, 5] [0, 2, 3, 6, 7, 8, 11, 12, 13, 15, 16, 17, 19, 20, 21, 22] hm [0, 1] [blk aA [(sV aD aE u.codes.length aF)] 25, blk aB [(nV x_.op), (nV x_.to), v2, (nV x_.n_)] 75] rfl mxo (by kernel_rfl) (fun _ _ _ h => h.2) fun w hm hS => tP rfl (fun w => yF fo_75_2 rfl) (tP rfl (fun w => yF fo_75_0 rfl) (tQ rfl hS (fun w hm => yL hm 1 isAgg26 rfl) ?_))
   obtain ⟨bF, bG, rfl, bH⟩ := ro_slice h2
   refine tP rfl (fun w => yV st_26 rfl) (tO (tY rfl (yL hm 1 isAgg3 rfl) (tAs hS (tO (gb fun bJ af => tf rfl rfl (fun a hf => e_call hf rfl call73 rfl (spec_l7Args_ok _ x_.op _ af)) ?_)))))
   rintro bK w ⟨rfl, hB⟩
   replace hm := hm.below' hB; clear hB
   refine tAk hm [0, 1] rfl fun hS => tP rfl (fun w => yB rfl) (tP rfl (fun w => yM rfl) (gsd 73 rfl (fun ag => ?_) fun ag => ?_))
   ·
    refine tP rfl (fun w => yF fo_75_3 rfl) (tO (tY rfl (yL hm 1 isAgg3 rfl) (tAn rfl (tO (gb fun bL ah => tf rfl rfl (fun a hf => e_call hf rfl call20 rfl (spec_l1In_ok _ x_.n_ 0 255 _ ah)) ?_)))))
    rintro bM w ⟨rfl, hB⟩
    replace hm := hm.below' hB; clear hB
    refine tAn rfl (tP rfl (fun w => yKt rfl) (tP rfl (fun w => yM rfl) (gs 78 rfl (fun ai => ?_) fun ai => ?_)))
    ·
     refine tP rfl (fun w => yF fo_75_3 rfl) (tO (tY rfl (yL hm 1 isAgg3 rfl) (tAn rfl (tP rfl (fun w => yB rfl) (tP rfl (fun w => yM rfl) (gsd 82 rfl (fun aj => ?_) fun aj => ?_))))))
     ·
      exact tPo rfl rfl (tO (tEo rfl rfl (tAn rfl (tPo rfl rfl (tP rfl (fun w => yKt rfl) (tP rfl (fun w => yKt rfl) (tP rfl (fun w => yA rfl) (tE (gz hm [] rfl)))))))))
     exact tP rfl (fun w => yF fo_75_0 rfl) (tO (tY rfl (yL hm 1 isAgg3 rfl) (tAn rfl (tP rfl (fun w => yB rfl) (tP rfl (fun w => yKf rfl) (tP rfl (fun w => yKt rfl) (tP rfl (fun w => yA rfl) (tE (gz hm [] rfl)))))))))
    exact tPo rfl rfl (tO (tEo rfl rfl (tAn rfl (tPo rfl rfl (tPo rfl rfl (tPo rfl rfl (tO (tEo rfl rfl (tAn rfl (tPo rfl rfl (tPo rfl rfl (tP rfl (fun w => yKf rfl) (tP rfl (fun w => yA rfl) (tE (gz hm [] rfl)))))))))))))))
   exact tPo rfl rfl (tO (tEo rfl rfl (tAn rfl (tO (tEo rfl rfl (tAn rfl (tP rfl (fun w => yKf rfl) (tP rfl (fun w => yM rfl) (tPo rfl rfl (tO (tEo rfl rfl (tAn rfl (tPo rfl rfl (tPo rfl rfl (tPo rfl rfl (tO (tEo rfl rfl (tAn rfl (tPo rfl rfl (tPo rfl rfl (tP rfl (fun w => yKf rfl) (tP rfl (fun w => yA rfl) (tE (gz hm [] rfl))))))))))))))))))))))))
  repeat clear hm
  intro aJ w hm
  exact gRt (gr1 results82 rfl ⟨rfl, hm.below⟩)
theorem spec_l7Block_ok (w0 : World) (u : Unit_) (v1 : Value) (h1 : GT.rep (hp w0) [v1] u.codes) (k_ : Int) (b_ : Int) :
    ConM Try.prog 58 [(.agg #[v1]), (nV k_), (nV b_)] w0 (spec_l7Block u k_ b_) fun r v w' => v = (.bool (r)) ∧ Below w0.heap.size w0 w' := by
  unfold spec_l7Block
  refine gcon func58 rfl fun r => ?_
  have hm := Mem.start w0
  refine gS (gR (gBx hm rfl fun aE w hm => gA rfl (gE (gS (gR (gF fo_25_0 rfl (gL hm 0 isAgg23 rfl (gM rfl (gg fun aB bC ae => ?_)))))))))
  obtain ⟨aI, aJ, aK, he⟩ := idx_form' h1 ae
  subst he
  obtain ⟨bp, bD, aO⟩ := rk_Code_ h1 ae
  refine gI st_23 bC (idx_lt ae) rfl (gY (yn (bD.mono hm.lez) isAgg59 sizeOf59 rfl) (gAl hm zeroValue59 rfl fun aC w hm => gSN hm 0 sizeOf59 (one_cons rfl (one_cons rfl (one_cons (rep_one aO) one_nil))) rfl fun w hm => gE (gS (gR (gF fo_59_2 rfl (gL hm 0 isAgg57 rfl (gM rfl (gg fun aA bE af => ?_))))))))
  obtain ⟨aF, aG, aH, he⟩ := idx_form' aO af
  subst he
  obtain ⟨aL, aN, aQ, bF, aR, aS, aP⟩ := rk_Block_ aO af
  refine gI st_57 bE (idx_lt af) rfl (gY (yn (bF.mono hm.lez) isAgg71 sizeOf71 rfl) (gAl hm zeroValue71 rfl fun aD w hm => gSN hm 0 sizeOf71 (one_cons (rep_one aR) (one_cons (rep_one aS) (one_cons rfl (one_cons rfl (one_cons (rep_one aP) one_nil))))) rfl fun w hm => gE (gS (gR (gA rfl (gE (gS (gS (gR (gF fo_71_2 rfl (gL hm 0 isAgg3 rfl (gE (gJge (fun aY a w => 0 ≤ aA.jump ∧ aA.jump ≤ 3 ∧ 0 ≤ aY ∧ aY ≤ 2 ∧ St 136 [(1, (nV k_)), (2, (nV b_)), (3, (pV aE)), (7, (pV aC)), (8, (pV aD)), (9, (nV aY))] w0 (hp w0) [blk aE [(sV aI aJ u.codes.length aK)] 25, blk aC [(nV aB.params), (nV aB.regs), (sV aF aG aB.blocks.length aH)] 59, blk aD [aL, aN, (nV aA.jump), (nV aA.on), aQ] 71] a w) (fun bq ar => ?_) ?_)))))))))))))
  ·
   refine gBk (gS (gR (gB rfl (gA rfl (gE (gJge (fun aZ a w => 0 ≤ aA.jump ∧ aA.jump ≤ 3 ∧ 0 ≤ aZ ∧ aZ ≤ 2 ∧ St 136 [(1, (nV k_)), (2, (nV b_)), (3, (pV aE)), (7, (pV aC)), (8, (pV aD)), (9, (nV aZ))] w0 (hp w0) [blk aE [(sV aI aJ u.codes.length aK)] 25, blk aC [(nV aB.params), (nV aB.regs), (sV aF aG aB.blocks.length aH)] 59, blk aD [aL, aN, (nV aA.jump), (nV aA.on), aQ] 71] a w) (fun br au => ?_) ?_))))))
   ·
    refine gsd 26 rfl (fun bG => ?_) fun bG => ?_
    ·
     refine gct rfl (gS (gR (gF fo_71_3 rfl (gL hm 0 isAgg3 rfl (gB rfl (gE (gsd 30 rfl (fun bH => ?_) fun bH => ?_)))))))
     ·
      exact gct rfl (gS (gR (gA rfl (gE (gRt (gEr au (gEr ar (gr1 results58 rfl ⟨rfl, hm.below⟩))))))))
     exact gcf rfl (gSk (gZe fun a hf => ⟨(by first | omega | (dsimp only; omega)), (by first | omega | (dsimp only; omega)), (by first | omega | (dsimp only; omega)), (by first | omega | (dsimp only; omega)), hf.sb rfl, hm.pk [2, 1, 0] rfl rfl⟩))
    refine gcf rfl (gS (gR (gB rfl (gA rfl (gE (gJge (fun aa a w => 0 ≤ aA.jump ∧ aA.jump ≤ 3 ∧ 0 ≤ aa ∧ aa ≤ 2 ∧ St 136 [(1, (nV k_)), (2, (nV b_)), (3, (pV aE)), (7, (pV aC)), (8, (pV aD)), (9, (nV aa))] w0 (hp w0) [blk aE [(sV aI aJ u.codes.length aK)] 25, blk aC [(nV aB.params), (nV aB.regs), (sV aF aG aB.blocks.length aH)] 59, blk aD [aL, aN, (nV aA.jump), (nV aA.on), aQ] 71] a w) (fun bt bJ => ?_) ?_))))))
    ·
     refine gsd 31 rfl (fun bK => ?_) fun bK => ?_
     ·
      exact gct rfl (gR (gA rfl (gE (gZe fun a hf => ⟨(by first | omega | (dsimp only; omega)), (by first | omega | (dsimp only; omega)), (by first | omega | (dsimp only; omega)), (by first | omega | (dsimp only; omega)), hf.sb rfl, hm.pk [2, 1, 0] rfl rfl⟩))))
     refine gcf rfl (gS (gR (gB rfl (gA rfl (gE (gsd 33 rfl (fun bL => ?_) fun bL => ?_))))))
     ·
      exact gct rfl (gR (gA rfl (gE (gZe fun a hf => ⟨(by first | omega | (dsimp only; omega)), (by first | omega | (dsimp only; omega)), (by first | omega | (dsimp only; omega)), (by first | omega | (dsimp only; omega)), hf.sb rfl, hm.pk [2, 1, 0] rfl rfl⟩))))
     exact gcf rfl (gS (gR (gA rfl (gE (gRt (gEr bJ (gEr au (gEr ar (gr1 results58 rfl ⟨rfl, hm.below⟩)))))))))
    repeat clear hm
    rintro aa a w ⟨bu, bv, bw, bx, hf, hm⟩
    exact gv hf (gZe fun a hf => ⟨(by first | omega | (dsimp only; omega)), (by first | omega | (dsimp only; omega)), (by first | omega | (dsimp only; omega)), (by first | omega | (dsimp only; omega)), hf.sb rfl, hm.pk [0, 1, 2] rfl rfl⟩)
   repeat clear hm
   rintro aZ a w ⟨bz, cA, cB, cC, hf, hm⟩
   exact gv hf (gZe fun a hf => ⟨(by first | omega | (dsimp only; omega)), (by first | omega | (dsimp only; omega)), (by first | omega | (dsimp only; omega)), (by first | omega | (dsimp only; omega)), hf.sb rfl, hm.pk [0, 1, 2] rfl rfl⟩)
  repeat clear hm
  rintro aY a w ⟨cD, cE, cF, cG, hf, hm⟩
  refine gv hf (gS (gS (gJg (fun ag a w => 0 ≤ aA.jump ∧ aA.jump ≤ 3 ∧ St 136 [(1, (nV k_)), (2, (nV b_)), (3, (pV aE)), (7, (pV aC)), (8, (pV aD)), (53, (.bool (ag)))] w0 (hp w0) [blk aE [(sV aI aJ u.codes.length aK)] 25, blk aC [(nV aB.params), (nV aB.regs), (sV aF aG aB.blocks.length aH)] 59, blk aD [aL, aN, (nV aA.jump), (nV aA.on), aQ] 71] a w) (fun ag => ?_) ?_)))
  ·
   refine gR (gF fo_71_4 rfl (gL hm 2 isAgg26 rfl ?_))
   obtain ⟨cH, cI, rfl, cJ⟩ := ro_slice aP
   refine gY (yV st_26 rfl) (gM rfl (gB rfl (gM rfl (gsd 40 rfl (fun bM => ?_) fun bM => ?_))))
   ·
    exact gO rfl (gO rfl (gO rfl (gO rfl (gO rfl (gO rfl (gO rfl (gO rfl (gO rfl (gO rfl (gO rfl (gO rfl (gKt rfl (gE (gZ fun a hf => ⟨(by first | omega | (dsimp only; omega)), (by first | omega | (dsimp only; omega)), hf.sb rfl, hm.pk [0, 1, 2] rfl rfl⟩))))))))))))))
   refine gF fo_71_2 rfl (gL hm 2 isAgg3 rfl (gB rfl (gM rfl (gsd 44 rfl (fun bN => ?_) fun bN => ?_))))
   ·
    exact gF fo_71_3 rfl (gL hm 2 isAgg3 rfl (gF fo_59_1 rfl (gL hm 1 isAgg3 rfl (gB rfl (gC hm rfl call20 (spec_l1In_ok _ aA.on 0 (w64 (aB.regs - 1))) fun cK cL w hm => gN rfl (gKt rfl (gKf rfl (gE (gZ fun a hf => ⟨(by first | omega | (dsimp only; omega)), (by first | omega | (dsimp only; omega)), hf.sb rfl, hm.pk [0, 1, 2] rfl rfl⟩)))))))))
   exact gO rfl (gO rfl (gO rfl (gO rfl (gO rfl (gO rfl (gO rfl (gKf rfl (gKf rfl (gE (gZ fun a hf => ⟨(by first | omega | (dsimp only; omega)), (by first | omega | (dsimp only; omega)), hf.sb rfl, hm.pk [0, 1, 2] rfl rfl⟩))))))))))
  repeat clear hm
  rintro ag a w ⟨cM, cN, hf, hm⟩
  refine gv hf (gs 53 rfl (fun bO => ?_) fun bO => ?_)
  ·
   exact gct rfl (gS (gR (gA rfl (gE (gRt (gr1 results58 rfl ⟨rfl, hm.below⟩))))))
  refine gcf rfl (gSk (gS (gS (gR (gA rfl (gE (gBk (gNf hm (fun ah av => [(1, (nV k_)), (2, (nV b_)), (3, (pV aE)), (7, (pV aC)), (8, (pV aD)), (10, (nV ah))]) (fun ah av => [blk aE [(sV aI aJ u.codes.length aK)] 25, blk aC [(nV aB.params), (nV aB.regs), (sV aF aG aB.blocks.length aH)] 59, blk aD [aL, aN, (nV aA.jump), (nV aA.on), aQ] 71]) [0, 1, 2] rfl ?_ ?_))))))))
  ·
   repeat clear hm
   intro cO bP ah av w hm cP cQ cR bQ
   refine gS (gS (gR (gM rfl (gF fo_71_4 rfl (gL hm 2 isAgg26 rfl ?_)))))
   obtain ⟨bR, bS, rfl, cS⟩ := ro_slice aP
   refine gY (yV st_26 rfl) (gB rfl (gE (go _ 58 rfl (decide_eq_true (by omega)) (gct rfl (gSk (gS (gBk (gS (gW (.p 0 (.p 2 (.p 5 (.q 1 (.p 3 (.q 4 (.e 6 (.p 7 (.p 8 (.e 9 (.p 10 .fin) .nil))) .nil))))))) [6] [0, 2, 3, 5, 7, 8, 10] hm [0, 1, 2] [blk aE [(sV aI aJ u.codes.length aK)] 25, blk aC [(nV aB.params), (nV aB.regs), (sV aF aG aB.blocks.length aH)] 59, blk aD [aL, aN, (nV aA.jump), (nV aA.on), (.slice bR aA.next_.length bS)] 71] rfl mxo (by kernel_rfl) (fun _ _ _ h => h.2) fun w hm hS => tP rfl (fun w => yF fo_71_4 rfl) (tP rfl (fun w => yM rfl) (tP rfl (fun w => yF fo_59_2 rfl) (tQ rfl hS (fun w hm => yL hm 2 isAgg26 rfl) (gg fun aw bT ai => ?_)))))))))))))
   obtain ⟨cT, cU, cV, he⟩ := idx_form aP ai
   obtain ⟨rfl, _, rfl⟩ := sl3 he
   refine tP rfl (fun w => yI st_26 bT (idx_lt ai) rfl) (tQ rfl hS (fun w hm => yl isAgg3 ((flat_cells (cs := [(nV aw)]) (hm.now aP) ai rfl).cell (j := 0) rfl) rfl) (tO (tY rfl (yL hm 1 isAgg57 rfl) (tAs hS ?_))))
   have cW := rep_len aO
   refine tP rfl (fun w => yV st_57 rfl) (tP rfl (fun w => yS (by omega) (by omega) rfl) (tO (gb fun cX bU => tf rfl rfl (fun a hf => e_call hf rfl call20 rfl (spec_l1In_ok _ aw 1 (((aB.blocks.length : Int)) - 1) _ bU)) ?_)))
   rintro cY w ⟨rfl, hB⟩
   replace hm := hm.below' hB; clear hB
   refine tAn rfl (tP rfl (fun w => yN rfl) (tE (gsn 71 rfl (fun bV => ?_) fun bV => ?_)))
   ·
    exact gct rfl (gS (gR (gA rfl (gE (gRt (gLr bQ bP (gr1 results58 rfl ⟨rfl, hm.below⟩)))))))
   exact gcf rfl (gSk (gR (gM rfl (gP (by omega) (by omega) rfl (gA rfl (gE (gze hm [0, 1, 2] rfl)))))))
  repeat clear hm
  intro cZ c5 w hm c6 c7
  refine gS (gS (gR (gM rfl (gF fo_71_4 rfl (gL hm 2 isAgg26 rfl ?_)))))
  obtain ⟨aT, aU, rfl, c8⟩ := ro_slice aP
  refine gY (yV st_26 rfl) (gB rfl (gE (go _ 58 rfl (decide_eq_false (by omega)) (gcf rfl (gXt (gHh (gS (gS (gR (gA rfl (gE (gBk (gNf hm (fun aj ax => [(1, (nV k_)), (2, (nV b_)), (3, (pV aE)), (7, (pV aC)), (8, (pV aD)), (11, (nV aj))]) (fun aj ax => [blk aE [(sV aI aJ u.codes.length aK)] 25, blk aC [(nV aB.params), (nV aB.regs), (sV aF aG aB.blocks.length aH)] 59, blk aD [aL, aN, (nV aA.jump), (nV aA.on), (.slice aT aA.next_.length aU)] 71]) [0, 1, 2] rfl ?_ ?_)))))))))))))
  ·
   repeat clear hm
   intro c9 bW aj ax w hm ca cb cd bX
   refine gS (gS (gR (gM rfl (gF fo_71_1 rfl (gL hm 2 isAgg69 rfl ?_)))))
   obtain ⟨bY, bZ, rfl, ce⟩ := ro_slice aS
   refine gY (yV st_69 rfl) (gB rfl (gE (go _ 76 rfl (decide_eq_true (by omega)) (gct rfl (gSk (gS (gBk (gS (gW (.p 1 (.p 2 (.p 4 (.q 0 (.e 3 (.p 5 (.e 6 (.e 7 (.p 8 .fin) .nil) .nil)) .nil))))) [3, 6] [1, 2, 4, 5, 8] hm [0, 1, 2] [blk aE [(sV aI aJ u.codes.length aK)] 25, blk aC [(nV aB.params), (nV aB.regs), (sV aF aG aB.blocks.length aH)] 59, blk aD [aL, (.slice bY aA.ins.length bZ), (nV aA.jump), (nV aA.on), (.slice aT aA.next_.length aU)] 71] rfl mxo (by kernel_rfl) (fun _ _ _ h => h.2) fun w hm hS => tP rfl (fun w => yM rfl) (tP rfl (fun w => yF fo_71_1 rfl) (tP rfl (fun w => yM rfl) (tQ rfl hS (fun w hm => yn (hm.blk_at 0 rfl) isAgg25 sizeOf25 rfl) (tO (tY rfl (yL hm 2 isAgg69 rfl) (tAs hS (gg fun b5 b6 ak => ?_))))))))))))))))
   obtain ⟨cf, cg, ci, he⟩ := idx_form' aS ak
   obtain ⟨rfl, _, rfl⟩ := sl3 he
   obtain ⟨b7, b8, b9⟩ := rk_Ins_ aS ak
   refine tP rfl (fun w => yI st_69 b6 (idx_lt ak) rfl) (tO (tY rfl (yn (b8.mono hm.lez) isAgg75 sizeOf75 rfl) (tAs hS (tO (gb fun cj ba => tf rfl rfl (fun a hf => e_call hf rfl call82 rfl (spec_l7Ins_ok _ u (sV aI aJ u.codes.length aK) (hm.now h1) k_ b5 b7 (hm.now b9) _ ba)) ?_)))))
   rintro ck w ⟨rfl, hB⟩
   replace hm := hm.below' hB; clear hB
   refine tAn rfl (tP rfl (fun w => yN rfl) (tE (gsn 87 rfl (fun bc => ?_) fun bc => ?_)))
   ·
    exact gct rfl (gS (gR (gA rfl (gE (gRt (gLr bX bW (gr1 results58 rfl ⟨rfl, hm.below⟩)))))))
   exact gcf rfl (gSk (gR (gM rfl (gP (by omega) (by omega) rfl (gA rfl (gE (gze hm [0, 1, 2] rfl)))))))
  repeat clear hm
  intro cl cm w hm cn co
  refine gS (gS (gR (gM rfl (gF fo_71_1 rfl (gL hm 2 isAgg69 rfl ?_)))))
  obtain ⟨al, am, rfl, cq⟩ := ro_slice aS
  refine gY (yV st_69 rfl) (gB rfl (gE (go _ 76 rfl (decide_eq_false (by omega)) (gcf rfl (gXt (gHh (gS (gR (gY (yn (hm.blk_at 1 rfl) isAgg59 sizeOf59 rfl) (gM rfl (gCg rfl call28 (spec_l7Preds_ok _ aB (sV aF aG aB.blocks.length aH) (hm.now aO) b_) ?_)))))))))))
  rintro aM cr ct w ⟨_, rfl, hB⟩
  replace hm := hm.give hB; clear hB
  refine gA rfl (gE (gS (gS (gR (gA rfl (gE ?_))))))
  obtain ⟨aV, aW, rfl, cu⟩ := ro_slice (hm.ow_rep 0 rfl)
  refine gBk (gNf hm (fun ab ay => [(2, (nV b_)), (7, (pV aC)), (8, (pV aD)), (12, (.slice aV aM.length aW)), (13, (nV ab))]) (fun ab ay => [blk aC [(nV aB.params), (nV aB.regs), (sV aF aG aB.blocks.length aH)] 59, blk aD [aL, (.slice al aA.ins.length am), (nV aA.jump), (nV aA.on), (.slice aT aA.next_.length aU)] 71, ow [(.slice aV aM.length aW)] aM]) [2, 3, 0] rfl ?_ ?_)
  ·
   repeat clear hm
   intro cv bd ab ay w hm cw cx cy be
   refine gS (gS (gR (gM rfl (gF fo_71_0 rfl (gL hm 1 isAgg68 rfl ?_)))))
   obtain ⟨az, bA, rfl, cz⟩ := ro_slice aR
   refine gY (yV st_68 rfl) (gB rfl (gE (go _ 95 rfl (decide_eq_true (by omega)) (gct rfl (gSk (gS (gBk (gS (gJ hm (fun ac => [(2, (nV b_)), (7, (pV aC)), (8, (pV aD)), (12, (.slice aV aM.length aW)), (13, (nV ab)), (135, (.bool (ac)))]) (fun ac => [blk aC [(nV aB.params), (nV aB.regs), (sV aF aG aB.blocks.length aH)] 59, blk aD [(.slice az aA.phis.length bA), (.slice al aA.ins.length am), (nV aA.jump), (nV aA.on), (.slice aT aA.next_.length aU)] 71, ow [(.slice aV aM.length aW)] aM]) (fun ac => ?_) ?_)))))))))
   ·
    refine gW (.p 0 (.p 1 (.p 2 (.p 3 (.p 5 (.p 10 (.p 11 (.e 4 (.p 6 (.p 7 (.e 8 (.p 9 (.p 12 (.p 13 (.p 14 (.p 16 (.p 18 (.q 15 (.e 17 (.p 19 (.p 20 (.e 21 (.e 22 (.p 23 (.p 24 (.p 25 (.p 26 (.p 28 (.p 32 (.q 27 (.p 29 (.p 30 (.q 31 (.e 33 (.p 34 (.e 35 (.p 36 (.p 37 .fin)) .nil)) .nil))))))))))) .nil) .nil))) .nil)))))))) .nil))) .nil)))))))) [17, 21, 33] [0, 1, 2, 3, 5, 6, 7, 9, 10, 11, 12, 13, 14, 16, 18, 19, 20, 23, 24, 25, 26, 28, 29, 30, 32, 34, 36, 37] hm [0, 1, 2] [blk aC [(nV aB.params), (nV aB.regs), (sV aF aG aB.blocks.length aH)] 59, blk aD [(.slice az aA.phis.length bA), (.slice al aA.ins.length am), (nV aA.jump), (nV aA.on), (.slice aT aA.next_.length aU)] 71, ow [(.slice aV aM.length aW)] aM] rfl mxo (by kernel_rfl) (fun _ _ _ h => h.2) fun w hm hS => tP rfl (fun w => yM rfl) (tP rfl (fun w => yB rfl) (tP rfl (fun w => yM rfl) (gsd 100 rfl (fun bf => ?_) fun bf => ?_)))
    ·
     refine tPo rfl rfl (tPo rfl rfl (tPo rfl rfl (tPo rfl rfl (tO (tEo rfl rfl (tAn rfl (tPo rfl rfl (tPo rfl rfl (tO (tEo rfl rfl (tAn rfl (tPo rfl rfl (tPo rfl rfl (tP rfl (fun w => yKt rfl) (tP rfl (fun w => yM rfl) (tPo rfl rfl (tPo rfl rfl (tQo rfl hS rfl (tO (tEo rfl rfl (tAs hS (tPo rfl rfl (tPo rfl rfl (tO (tEo rfl rfl (tAs hS (tO (tEo rfl rfl (tAn rfl (tPo rfl rfl ?_))))))))))))))))))))))))))))))
     exact tP rfl (fun w => yKt rfl) (tP rfl (fun w => yM rfl) (tPo rfl rfl (tPo rfl rfl (tPo rfl rfl (tQo rfl hS rfl (tPo rfl rfl (tPo rfl rfl (tQo rfl hS rfl (tO (tEo rfl rfl (tAs hS (tPo rfl rfl (tO (tEo rfl rfl (tAn rfl (tPo rfl rfl (tP rfl (fun w => yKt rfl) (tE (gz hm [0, 1, 2] rfl)))))))))))))))))))
    refine tP rfl (fun w => yF fo_71_0 rfl) (tP rfl (fun w => yM rfl) (tP rfl (fun w => yM rfl) (tP rfl (fun w => yV st_26 rfl) (tO (tY rfl (yL hm 1 isAgg68 rfl) (tAn rfl (gg fun an ao aX => ?_)))))))
    obtain ⟨dA, dB, dC, he⟩ := idx_form' aR aX
    obtain ⟨rfl, _, rfl⟩ := sl3 he
    obtain ⟨dD, aq, bB⟩ := rk_Phi_ aR aX
    refine tP rfl (fun w => yI st_68 ao (idx_lt aX) rfl) (tP rfl (fun w => yF fo_66_1 rfl) (tO (tY rfl (yl isAgg26 ((aq.mono hm.lez).cell (j := 1) rfl) rfl) (tAn rfl ?_))))
    obtain ⟨bg, bh, rfl, dE⟩ := ro_slice bB
    refine tP rfl (fun w => yV st_26 rfl) (tP rfl (fun w => yB rfl) (tP rfl (fun w => yKf rfl) (tP rfl (fun w => yM rfl) (gsd 112 rfl (fun bi => ?_) fun bi => ?_))))
    ·
     refine tPo rfl rfl (tPo rfl rfl (tQo rfl hS rfl (tO (tEo rfl rfl (tAs hS (tPo rfl rfl (tPo rfl rfl (tO (tEo rfl rfl (tAs hS (tO (tEo rfl rfl (tAn rfl (tPo rfl rfl (tP rfl (fun w => yKt rfl) (tP rfl (fun w => yM rfl) (tPo rfl rfl (tPo rfl rfl (tPo rfl rfl (tQo rfl hS rfl (tPo rfl rfl (tPo rfl rfl (tQo rfl hS rfl (tO (tEo rfl rfl (tAs hS (tPo rfl rfl (tO (tEo rfl rfl (tAn rfl ?_))))))))))))))))))))))))))))))
     exact tPo rfl rfl (tP rfl (fun w => yKt rfl) (tE (gz hm [0, 1, 2] rfl)))
    refine tP rfl (fun w => yF fo_71_0 rfl) (tP rfl (fun w => yM rfl) (tQ rfl hS (fun w hm => yn (hm.blk_at 0 rfl) isAgg59 sizeOf59 rfl) (tO (tY rfl (yL hm 1 isAgg68 rfl) (tAs hS (tP rfl (fun w => yI st_68 ao (idx_lt aX) rfl) (tP rfl (fun w => yF fo_66_1 rfl) (tO (tY rfl (yl isAgg26 ((aq.mono hm.lez).cell (j := 1) rfl) rfl) (tAs hS (tO (gb fun dF bj => tf rfl rfl (fun a hf => e_call hf rfl call83 rfl (spec_l7Regs_ok _ aB (sV aF aG aB.blocks.length aH) (hm.now aO) an.args (.slice bg an.args.length bh) (hm.now bB) _ bj)) ?_))))))))))))
    rintro dG w ⟨rfl, hB⟩
    replace hm := hm.below' hB; clear hB
    refine tAk hm [0, 1, 2] rfl fun hS => tP rfl (fun w => yN rfl) (tP rfl (fun w => yKf rfl) (tP rfl (fun w => yM rfl) (gsn 123 rfl (fun bk => ?_) fun bk => ?_)))
    ·
     exact tPo rfl rfl (tPo rfl rfl (tPo rfl rfl (tQo rfl hS rfl (tPo rfl rfl (tPo rfl rfl (tQo rfl hS rfl (tO (tEo rfl rfl (tAs hS (tPo rfl rfl (tO (tEo rfl rfl (tAn rfl (tPo rfl rfl (tP rfl (fun w => yKt rfl) (tE (gz hm [0, 1, 2] rfl)))))))))))))))))
    refine tP rfl (fun w => yF fo_71_0 rfl) (tP rfl (fun w => yM rfl) (tP rfl (fun w => yF fo_59_1 rfl) (tQ rfl hS (fun w hm => yL hm 1 isAgg68 rfl) (tP rfl (fun w => yI st_68 ao (idx_lt aX) rfl) (tP rfl (fun w => yF fo_66_0 rfl) (tQ rfl hS (fun w hm => yl isAgg3 ((aq.mono hm.lez).cell (j := 0) rfl) rfl) (tO (tY rfl (yL hm 0 isAgg3 rfl) (tAs hS (tP rfl (fun w => yB rfl) (tO (gb fun dH bm => tf rfl rfl (fun a hf => e_call hf rfl call20 rfl (spec_l1In_ok _ an.to 0 (w64 (aB.regs - 1)) _ bm)) ?_))))))))))))
    rintro dI w ⟨rfl, hB⟩
    replace hm := hm.below' hB; clear hB
    exact tAn rfl (tP rfl (fun w => yN rfl) (tP rfl (fun w => yKf rfl) (tE (gz hm [0, 1, 2] rfl))))
   repeat clear hm
   intro ac w hm
   refine gs 135 rfl (fun bo => ?_) fun bo => ?_
   ·
    exact gct rfl (gS (gR (gA rfl (gE (gRt (gLr be bd (gr1 results58 rfl ⟨rfl, hm.below⟩)))))))
   exact gcf rfl (gSk (gR (gM rfl (gP (by omega) (by omega) rfl (gA rfl (gE (gze hm [0, 1, 2] rfl)))))))
  repeat clear hm
  intro dJ dK w hm dL dM
  refine gS (gS (gR (gM rfl (gF fo_71_0 rfl (gL hm 1 isAgg68 rfl ?_)))))
  obtain ⟨dN, dO, rfl, dP⟩ := ro_slice aR
  exact gY (yV st_68 rfl) (gB rfl (gE (go _ 95 rfl (decide_eq_false (by omega)) (gcf rfl (gXt (gHh (gS (gR (gA rfl (gE (gRt (gr1 results58 rfl ⟨rfl, hm.below⟩))))))))))))
theorem spec_UnitValid_ok (w0 : World) (u : Unit_) (v1 : Value) (h1 : GT.rep (hp w0) [v1] u.codes) :
    ConM Try.prog 37 [(.agg #[v1])] w0 (spec_UnitValid u) fun r v w' => v = (.bool (r)) ∧ Below w0.heap.size w0 w' := by
  unfold spec_UnitValid
  refine gcon func37 rfl fun r => ?_
  have hm := Mem.start w0
  refine gS (gR (gBx hm rfl fun aB w hm => gA rfl (gE (gS (gS (gR (gF fo_25_0 rfl (gL hm 0 isAgg23 rfl ?_))))))))
  obtain ⟨aW, aE, rfl, an⟩ := ro_slice h1
  refine gY (yV st_23 rfl) (gC hm rfl call20 (spec_l1In_ok _ (u.codes.length : Int) 1 4) fun ao aq w hm => gN rfl (gE (gsn 11 rfl (fun aX => ?_) fun aX => ?_)))
  ·
   exact gct rfl (gS (gR (gA rfl (gE (gRt (gr1 results37 rfl ⟨rfl, hm.below⟩))))))
  refine gcf rfl (gSk (gS (gR (gA rfl (gE (gS (gS (gR (gA rfl (gE (gBk (gNf hm (fun aC aJ => [(1, (pV aB)), (3, (nV aJ)), (4, (nV aC))]) (fun aC aJ => [blk aB [(.slice aW u.codes.length aE)] 25]) [0] rfl ?_ ?_))))))))))))
  ·
   repeat clear hm
   intro ar aP aC aJ w hm au av aw aQ
   refine gS (gS (gR (gM rfl (gF fo_25_0 rfl (gL hm 0 isAgg23 rfl (gY (yV st_23 rfl) (gB rfl (gE (go _ 16 rfl (decide_eq_true (by omega)) (gct rfl (gSk (gS (gBk (gS (gR (gF fo_25_0 rfl (gL hm 0 isAgg23 rfl (gM rfl (gg fun aA aY aO => ?_)))))))))))))))))))
   obtain ⟨aG, aH, ax, he⟩ := idx_form' h1 aO
   obtain ⟨rfl, _, rfl⟩ := sl3 he
   obtain ⟨aR, aZ, aF⟩ := rk_Code_ h1 aO
   refine gI st_23 aY (idx_lt aO) rfl (gY (yn (aZ.mono hm.lez) isAgg59 sizeOf59 rfl) (gAl hm zeroValue59 rfl fun aD w hm => gSN hm 0 sizeOf59 (one_cons rfl (one_cons rfl (one_cons (rep_one aF) one_nil))) rfl fun w hm => gE (gS (gS (gJ hm (fun aK => [(1, (pV aB)), (3, (nV aJ)), (4, (nV aC)), (5, (pV aD)), (42, (.bool (aK)))]) (fun aK => [blk aB [(sV aG aH u.codes.length aE)] 25, blk aD [(nV aA.params), (nV aA.regs), aR] 59]) (fun aK => ?_) ?_)))))
   ·
    refine gR (gF fo_59_0 rfl (gL hm 0 isAgg3 rfl (gC hm rfl call20 (spec_l1In_ok _ aA.params 0 3) fun ay az w hm => gN rfl (gM rfl (gsn 28 rfl (fun aa => ?_) fun aa => ?_)))))
    ·
     exact gO rfl (gO rfl (gO rfl (gO rfl (gO rfl (gO rfl (gKt rfl (gM rfl (gO rfl (gO rfl (gO rfl (gO rfl (gO rfl (gKt rfl (gE (gz hm [1, 0] rfl)))))))))))))))
    refine gF fo_59_1 rfl (gL hm 0 isAgg3 rfl (gF fo_59_0 rfl (gL hm 0 isAgg3 rfl (gC hm rfl call20 (spec_l1In_ok _ aA.regs aA.params 300) fun bA bB w hm => gN rfl (gKf rfl (gM rfl (gsn 36 rfl (fun ab => ?_) fun ab => ?_)))))))
    ·
     exact gO rfl (gO rfl (gO rfl (gO rfl (gO rfl (gKt rfl (gE (gz hm [1, 0] rfl)))))))
    refine gF fo_59_2 rfl (gL hm 0 isAgg57 rfl ?_)
    obtain ⟨bC, bD, rfl, bE⟩ := ro_slice aF
    exact gY (yV st_57 rfl) (gC hm rfl call20 (spec_l1In_ok _ (aA.blocks.length : Int) 1 160) fun bF bG w hm => gN rfl (gKf rfl (gE (gz hm [1, 0] rfl))))
   repeat clear hm
   intro aK w hm
   refine gs 42 rfl (fun ac => ?_) fun ac => ?_
   ·
    exact gct rfl (gS (gR (gA rfl (gE (gRt (gLr aQ aP (gr1 results37 rfl ⟨rfl, hm.below⟩)))))))
   refine gcf rfl (gSk (gS (gR (gA rfl (gE (gBk (gNf hm (fun aI aL => [(1, (pV aB)), (3, (nV aL)), (4, (nV aC)), (5, (pV aD)), (6, (nV aI))]) (fun aI aL => [blk aB [(sV aG aH u.codes.length aE)] 25, blk aD [(nV aA.params), (nV aA.regs), aR] 59]) [0, 1] rfl ?_ ?_)))))))
   ·
    repeat clear hm
    intro bH ae aI aL w hm bJ bK bL af
    refine gS (gS (gR (gM rfl (gF fo_59_2 rfl (gL hm 1 isAgg57 rfl ?_)))))
    obtain ⟨ag, aS, rfl, bM⟩ := ro_slice aF
    refine gY (yV st_57 rfl) (gB rfl (gE (go _ 47 rfl (decide_eq_true (by omega)) (gct rfl (gSk (gS (gBk (gS (gW (.p 0 (.p 1 (.p 3 (.p 9 (.p 11 (.q 2 (.p 4 (.p 5 (.q 6 (.p 7 (.p 8 (.e 10 (.p 12 (.p 13 (.e 14 (.p 15 (.p 16 (.p 17 .fin))) .nil))) .nil)))))))))))) [10, 14] [0, 1, 3, 4, 5, 7, 8, 9, 11, 12, 13, 15, 16, 17] hm [0, 1] [blk aB [(sV aG aH u.codes.length aE)] 25, blk aD [(nV aA.params), (nV aA.regs), (.slice ag aA.blocks.length aS)] 59] rfl mxo (by kernel_rfl) (fun _ _ _ h => h.2) fun w hm hS => tP rfl (fun w => yM rfl) (tP rfl (fun w => yF fo_59_2 rfl) (tP rfl (fun w => yM rfl) (tP rfl (fun w => yF fo_59_2 rfl) (tP rfl (fun w => yM rfl) (tQ rfl hS (fun w hm => yL hm 1 isAgg57 rfl) (gg fun aT aU aM => ?_)))))))))))))))
    obtain ⟨ah, ai, bN, he⟩ := idx_form' aF aM
    obtain ⟨rfl, _, rfl⟩ := sl3 he
    obtain ⟨bO, bP, bQ, aV, aj, ak, bR⟩ := rk_Block_ aF aM
    refine tP rfl (fun w => yI st_57 aU (idx_lt aM) rfl) (tP rfl (fun w => yF fo_71_1 rfl) (tQ rfl hS (fun w hm => yl isAgg69 ((aV.mono hm.lez).cell (j := 1) rfl) rfl) ?_))
    obtain ⟨bS, bT, rfl, bU⟩ := ro_slice ak
    refine tP rfl (fun w => yV st_69 rfl) (tP rfl (fun w => yB rfl) (tO (tY rfl (yL hm 1 isAgg57 rfl) (tAs hS (tP rfl (fun w => yI st_57 aU (idx_lt aM) rfl) (tP rfl (fun w => yF fo_71_0 rfl) (tO (tY rfl (yl isAgg68 ((aV.mono hm.lez).cell (j := 0) rfl) rfl) (tAs hS ?_)))))))))
    obtain ⟨bV, bW, rfl, bX⟩ := ro_slice aj
    refine tP rfl (fun w => yV st_68 rfl) (tP rfl (fun w => yB rfl) (tP rfl (fun w => yA rfl) (tE (gS (gJ hm (fun aN => [(1, (pV aB)), (3, (nV (w64 ((w64 (aL + ((aT.ins.length : Int)))) + ((aT.phis.length : Int)))))), (4, (nV aC)), (5, (pV aD)), (6, (nV aI)), (75, (.bool (aN)))]) (fun aN => [blk aB [(sV aG aH u.codes.length aE)] 25, blk aD [(nV aA.params), (nV aA.regs), (sV ah ai aA.blocks.length aS)] 59]) (fun aN => ?_) ?_)))))
    ·
     refine gR (gM rfl (gB rfl (gM rfl (gsd 69 rfl (fun al => ?_) fun al => ?_))))
     ·
      exact gO rfl (gO rfl (gO rfl (gO rfl (gO rfl (gKt rfl (gE (gz hm [0, 1] rfl)))))))
     exact gY (yn (hm.blk_at 0 rfl) isAgg25 sizeOf25 rfl) (gM rfl (gM rfl (gC hm rfl call58 (spec_l7Block_ok _ u (sV aG aH u.codes.length aE) (hm.now h1) aC aI) fun bY bZ w hm => gN rfl (gKf rfl (gE (gz hm [0, 1] rfl))))))
    repeat clear hm
    intro aN w hm
    refine gs 75 rfl (fun am => ?_) fun am => ?_
    ·
     exact gct rfl (gS (gR (gA rfl (gE (gRt (gLr af ae (gLr aQ aP (gr1 results37 rfl ⟨rfl, hm.below⟩))))))))
    exact gcf rfl (gSk (gR (gM rfl (gP (by omega) (by omega) rfl (gA rfl (gE (gze hm [0, 1] rfl)))))))
   repeat clear hm
   intro b5 b6 w hm b7 b8
   refine gS (gS (gR (gM rfl (gF fo_59_2 rfl (gL hm 1 isAgg57 rfl ?_)))))
   obtain ⟨b9, ba, rfl, bc⟩ := ro_slice aF
   exact gY (yV st_57 rfl) (gB rfl (gE (go _ 47 rfl (decide_eq_false (by omega)) (gcf rfl (gXt (gHh (gR (gM rfl (gP (by omega) (by omega) rfl (gA rfl (gE (gze hm [0] rfl))))))))))))
  repeat clear hm
  intro bd be w hm bf bg
  exact gS (gS (gR (gM rfl (gF fo_25_0 rfl (gL hm 0 isAgg23 rfl (gY (yV st_23 rfl) (gB rfl (gE (go _ 16 rfl (decide_eq_false (by omega)) (gcf rfl (gXt (gHh (gS (gR (gA rfl (gE (gRt (gr1 results37 rfl ⟨rfl, hm.below⟩))))))))))))))))))
theorem spec_l5Values_ok (w0 : World) (list : List Int) (v1 : Value) (h1 : GT.rep (hp w0) [v1] list) :
    ConM Try.prog 38 [v1] w0 (spec_l5Values list) fun r v w' => v = (.bool (r)) ∧ Below w0.heap.size w0 w' := by
  unfold spec_l5Values
  refine gcon func38 rfl fun r => ?_
  have hm := Mem.start w0
  refine gS (gR (gA rfl (gE (gS (gS (gR (gA rfl (gE (gBk (gNf hm (fun aA aC => [(0, v1), (3, (nV aA))]) (fun aA aC => []) [] rfl ?_ ?_))))))))))
  ·
   repeat clear hm
   intro aI aE aA aC w hm aJ aK aL aF
   refine gS (gS (gR (gM rfl (gM rfl ?_))))
   obtain ⟨aM, aN, rfl, aO⟩ := ro_slice h1
   refine gY (yV st_26 rfl) (gB rfl (gE (go _ 7 rfl (decide_eq_true (by omega)) (gct rfl (gSk (gS (gBk (gS (gR (gM rfl (gM rfl (gg fun aD aG aB => ?_))))))))))))
   obtain ⟨aP, aQ, aR, he⟩ := idx_form h1 aB
   obtain ⟨rfl, _, rfl⟩ := sl3 he
   refine gI st_26 aG (idx_lt aB) rfl (gY (yl isAgg3 ((flat_cells (cs := [(nV aD)]) (hm.now h1) aB rfl).cell (j := 0) rfl) rfl) (gC hm rfl call20 (spec_l1In_ok _ aD 0 255) fun aS aT w hm => gN rfl (gE (gsn 15 rfl (fun aH => ?_) fun aH => ?_))))
   ·
    exact gct rfl (gS (gR (gA rfl (gE (gRt (gLr aF aE (gr1 results38 rfl ⟨rfl, hm.below⟩)))))))
   exact gcf rfl (gSk (gR (gM rfl (gP (by omega) (by omega) rfl (gA rfl (gE (gze hm [] rfl)))))))
  repeat clear hm
  intro aU aV w hm aW aX
  refine gS (gS (gR (gM rfl (gM rfl ?_))))
  obtain ⟨aY, aZ, rfl, aa⟩ := ro_slice h1
  exact gY (yV st_26 rfl) (gB rfl (gE (go _ 7 rfl (decide_eq_false (by omega)) (gcf rfl (gXt (gHh (gS (gR (gA rfl (gE (gRt (gr1 results38 rfl ⟨rfl, hm.below⟩))))))))))))
theorem spec_l8Fits_ok (w0 : World) (u : Unit_) (v1 : Value) (h1 : GT.rep (hp w0) [v1] u.codes) (in_ : List Int) (v2 : Value) (h2 : GT.rep (hp w0) [v2] in_) :
    ConM Try.prog 19 [(.agg #[v1]), v2] w0 (spec_l8Fits u in_) fun r v w' => v = (.bool (r)) ∧ Below w0.heap.size w0 w' := by
  unfold spec_l8Fits
  refine gcon func19 rfl fun r => ?_
  have hm := Mem.start w0
  refine gS (gR (gBx hm rfl fun aG w hm => gA rfl (gE (gS (gJ hm (fun aA => [(4, (.bool (aA)))]) (fun aA => []) (fun aA => ?_) ?_)))))
  ·
   refine gR (gY (yn (hm.blk_at 0 rfl) isAgg25 sizeOf25 rfl) (gC hm rfl call37 (spec_UnitValid_ok _ u v1 (hm.now h1)) fun aH aI w hm => gM rfl (gs 7 rfl (fun aC => ?_) fun aC => ?_)))
   ·
    refine gM rfl (gC hm rfl call38 (spec_l5Values_ok _ in_ v2 (hm.now h2)) fun aJ aK w hm => gKt rfl (gM rfl (gs 11 rfl (fun aD => ?_) fun aD => ?_)))
    ·
     refine gM rfl ?_
     obtain ⟨aL, aM, rfl, aN⟩ := ro_slice h2
     refine gY (yV st_26 rfl) (gF fo_25_0 rfl (gL hm 0 isAgg23 rfl (gF fo_25_0 rfl (gL hm 0 isAgg23 rfl ?_))))
     obtain ⟨aO, aP, rfl, aQ⟩ := ro_slice h1
     refine gY (yV st_23 rfl) (gY (yS (by omega) (by omega) rfl) (gg fun aR aE aB => ?_))
     obtain ⟨aS, aT, aU, he⟩ := idx_form' h1 aB
     obtain ⟨rfl, _, rfl⟩ := sl3 he
     obtain ⟨aV, aF, aW⟩ := rk_Code_ h1 aB
     exact gI st_23 aE (idx_lt aB) rfl (gF fo_59_0 rfl (gY (yl isAgg3 ((aF.mono hm.lez).cell (j := 0) rfl) rfl) (gB rfl (gKt rfl (gA rfl (gE (gz hm [] rfl)))))))
    exact gO rfl (gO rfl (gO rfl (gO rfl (gO rfl (gO rfl (gO rfl (gO rfl (gO rfl (gO rfl (gO rfl (gO rfl (gKf rfl (gA rfl (gE (gz hm [] rfl)))))))))))))))
   exact gO rfl (gO rfl (gKf rfl (gM rfl (gO rfl (gO rfl (gO rfl (gO rfl (gO rfl (gO rfl (gO rfl (gO rfl (gO rfl (gO rfl (gO rfl (gO rfl (gKf rfl (gA rfl (gE (gz hm [] rfl)))))))))))))))))))
  repeat clear hm
  intro aA w hm
  exact gRt (gr1 results19 rfl ⟨rfl, hm.below⟩)
theorem pspec_l8Run__stop_ok (w0 : World) (hz : Heap) (r_ : l8Run) (bp0 : Nat) (v1p : Value) (h1p : GT.rep hz [v1p] r_.u.codes) (v2p : Value) (v3p : Value) (v4p : Value) (end_ : Int) (hm0 : Mem w0 hz w0 [blk bp0 [v1p, v2p, (nV r_.out.end_), (nV r_.out.value), v3p, (nV r_.steps), (.bool (r_.over)), v4p] 51, ow [v2p] r_.out.said, ow [v3p] r_.out.cells, ow [v4p] r_.trace]) :
    ConM Try.prog 84 [(pV bp0), (nV end_)] w0 (pspec_l8Run__stop r_ end_) fun r v w' => ∃ (x2 : Value) (x3 : Value) (x4 : Value), v = (.tuple #[]) ∧ Mem w0 hz w' [blk bp0 [v1p, x2, (nV r.out.end_), (nV r.out.value), x3, (nV r.steps), (.bool (r.over)), x4] 51, ow [x2] r.out.said, ow [x3] r.out.cells, ow [x4] r.trace] := by
  unfold pspec_l8Run__stop
  refine gcon func84 rfl fun r => ?_
  have hm := hm0
  refine gS (gR (gM rfl (gY (yG rfl (y_nilptr rfl rfl)) (gF fo_51_3 rfl (gL hm 0 isAgg4 rfl (gN rfl (gE (gJ hm (fun aA => []) (fun aA => [blk bp0 [v1p, v2p, (nV aA.1), (nV r_.out.value), v3p, (nV r_.steps), (.bool (aA.2)), v4p] 51, ow [v2p] r_.out.said, ow [v3p] r_.out.cells, ow [v4p] r_.trace]) (fun aA => ?_) ?_))))))))
  ·
   refine gsn 8 rfl (fun aB => ?_) fun aB => ?_
   ·
    exact gct rfl (gS (gR (gM rfl (gM rfl (gY (yG rfl (y_nilptr rfl rfl)) (gF fo_51_1 rfl (gF fo_30_1 rfl (gS1 hm 0 sizeOf3 rfl rfl fun w hm => gE (gR (gM rfl (gY (yG rfl (y_nilptr rfl rfl)) (gF fo_51_3 rfl (gS1 hm 0 sizeOf4 rfl rfl fun w hm => gE (gz hm [0, 1, 2, 3] rfl))))))))))))))
   exact gcf rfl (gSk (gz hm [0, 1, 2, 3] rfl))
  repeat clear hm
  intro aA w hm
  exact gre results84 ⟨v2p, v3p, v4p, rfl, hm.pk [0, 1, 2, 3] rfl rfl⟩
theorem pspec_l8Run__take_ok (w0 : World) (hz : Heap) (r_ : l8Run) (bp0 : Nat) (v1p : Value) (h1p : GT.rep hz [v1p] r_.u.codes) (v2p : Value) (v3p : Value) (v4p : Value) (hm0 : Mem w0 hz w0 [blk bp0 [v1p, v2p, (nV r_.out.end_), (nV r_.out.value), v3p, (nV r_.steps), (.bool (r_.over)), v4p] 51, ow [v2p] r_.out.said, ow [v3p] r_.out.cells, ow [v4p] r_.trace]) :
    ConM Try.prog 59 [(pV bp0)] w0 (pspec_l8Run__take r_) fun r v w' => ∃ (x2 : Value) (x3 : Value) (x4 : Value), v = (.bool (r.1)) ∧ Mem w0 hz w' [blk bp0 [v1p, x2, (nV r.2.out.end_), (nV r.2.out.value), x3, (nV r.2.steps), (.bool (r.2.over)), x4] 51, ow [x2] r.2.out.said, ow [x3] r.2.out.cells, ow [x4] r.2.trace] := by
  unfold pspec_l8Run__take
  refine gcon func59 rfl fun r => ?_
  have hm := hm0
  refine gS (gR (gA rfl (gE (gS (gS (gR (gM rfl (gY (yG rfl (y_nilptr rfl rfl)) (gF fo_51_2 rfl (gL hm 0 isAgg3 rfl (gB rfl (gE (gJg (fun aA a w => ∃ (aB aC aD : Value), St 22 [(0, (pV bp0))] w0 hz [blk bp0 [v1p, aB, (nV aA.2.1), (nV aA.2.2.1), aC, (nV aA.2.2.2.2.1), (.bool (aA.2.2.2.2.2.1)), aD] 51, ow [aB] aA.1, ow [aC] aA.2.2.2.1, ow [aD] aA.2.2.2.2.2.2] a w) (fun aA => ?_) ?_)))))))))))))
  ·
   refine gsd 7 rfl (fun aE => ?_) fun aE => ?_
   ·
    refine gct rfl (gR (gM rfl ?_))
    obtain ⟨aF, hle, hm1, hsub, aG⟩ := hm.take2 (L1 := [blk bp0 [v1p, v2p, (nV r_.out.end_), (nV r_.out.value), v3p, (nV r_.steps), (.bool (r_.over)), v4p] 51, ow [v2p] r_.out.said, ow [v3p] r_.out.cells, ow [v4p] r_.trace]) (L2 := []) [0, 1, 2, 3] [] (by decide) rfl rfl
    refine gCg rfl call84 (pspec_l8Run__stop_ok _ aF r_ bp0 v1p (GT.mono hle h1p) v2p v3p v4p 3 hm1 ) ?_
    rintro aL aM aN w ⟨aH, aI, aJ, rfl, hB⟩
    replace hm := aG _ _ hB; clear hB
    exact gE (gZ fun a hf => ⟨aH, aI, aJ, hf.sb rfl, hm.pk [0, 1, 2, 3] rfl rfl⟩)
   exact gcf rfl (gSk (gZ fun a hf => ⟨v2p, v3p, v4p, hf.sb rfl, hm.pk [0, 1, 2, 3] rfl rfl⟩))
  repeat clear hm
  rintro aA a w ⟨aB, aC, aD, hf, hm⟩
  refine gv hf (gS (gS (gR (gM rfl (gY (yG rfl (y_nilptr rfl rfl)) (gF fo_51_3 rfl (gL hm 0 isAgg4 rfl (gE (gs 13 rfl (fun aK => ?_) fun aK => ?_)))))))))
  ·
   exact gct rfl (gS (gR (gA rfl (gE (gRt (gr1 results59 rfl ⟨aB, aC, aD, rfl, hm.pk [0, 1, 2, 3] rfl rfl⟩))))))
  exact gcf rfl (gSk (gS (gR (gM rfl (gM rfl (gY (yG rfl (y_nilptr rfl rfl)) (gF fo_51_2 rfl (gL hm 0 isAgg3 rfl (gB rfl (gY (yG rfl (y_nilptr rfl rfl)) (gF fo_51_2 rfl (gS1 hm 0 sizeOf3 rfl rfl fun w hm => gE (gS (gR (gA rfl (gE (gRt (gr1 results59 rfl ⟨aB, aC, aD, rfl, hm.pk [0, 1, 2, 3] rfl rfl⟩))))))))))))))))))
theorem pspec_l8Run__phis_ok (w0 : World) (hz : Heap) (r_ : l8Run) (bp0 : Nat) (v1p : Value) (h1p : GT.rep hz [v1p] r_.u.codes) (v2p : Value) (h2p : GT.rep hz [v2p] r_.out.said) (v3p : Value) (h3p : GT.rep hz [v3p] r_.out.cells) (v4p : Value) (h4p : GT.rep hz [v4p] r_.trace) (hbbp0 : hz bp0 = some (.cells ([v1p, v2p, (nV r_.out.end_), (nV r_.out.value), v3p, (nV r_.steps), (.bool (r_.over)), v4p] : List Value).toArray 51 (0, 0))) (c_ : Code_) (v1 : Value) (h1 : GT.rep hz [v1] c_.blocks) (from_ : Int) (b_ : Int) (regs : List Int) (v2 : Value) (hm0 : Mem w0 hz w0 [ow [v2] regs]) :
    ConM Try.prog 61 [(pV bp0), (.agg #[(nV c_.params), (nV c_.regs), v1]), (nV from_), (nV b_), v2] w0 (pspec_l8Run__phis r_ c_ from_ b_ regs) fun r v w' => v = (.tuple #[]) ∧ Mem w0 hz w' [ow [v2] r] := by
  unfold pspec_l8Run__phis
  refine gcon func61 rfl fun r => ?_
  have hm := hm0
  refine gS (gR (gBx hm rfl fun aA w hm => gE (gS (gS (gR (gF fo_59_2 rfl (gL hm 0 isAgg57 rfl (gM rfl (gg fun bG aH aD => ?_)))))))))
  obtain ⟨aE, aF, aG, he⟩ := idx_form' h1 aD
  subst he
  obtain ⟨bH, bJ, bK, aI, aJ, bL, bM⟩ := rk_Block_ h1 aD
  refine gI st_57 aH (idx_lt aD) rfl (gF fo_71_0 rfl (gY (yl isAgg68 ((aI.mono hm.lez).cell (j := 0) rfl) rfl) ?_))
  obtain ⟨bN, bO, rfl, bP⟩ := ro_slice aJ
  refine gY (yV st_68 rfl) (gB rfl (gE (gsd 22 rfl (fun ai => ?_) fun ai => ?_)))
  ·
   exact gct rfl (gRt (gr0 results61 ⟨rfl, hm.pk [1] rfl rfl⟩))
  refine gcf rfl (gSk (gS (gR (gY (yn (hm.blk_at 0 rfl) isAgg59 sizeOf59 rfl) (gM rfl (gCg rfl call28 (spec_l7Preds_ok _ c_ (sV aE aF c_.blocks.length aG) (hm.now h1) b_) ?_))))))
  rintro aQ bQ bR w ⟨_, rfl, hB⟩
  replace hm := hm.give hB; clear hB
  refine gA rfl (gE (gS (gR (gA rfl (gE (gS ?_))))))
  obtain ⟨aB, aC, rfl, bS⟩ := ro_slice (hm.ow_rep 2 rfl)
  obtain ⟨ac, ae, rfl, bT⟩ := ro_slice (hm.ow_rep 0 rfl)
  refine gJ hm (fun aK => [(3, (nV b_)), (4, (.slice aB regs.length aC)), (6, (pV aA)), (11, (nV aK))]) (fun aK => [ow [(.slice aB regs.length aC)] regs, blk aA [(nV c_.params), (nV c_.regs), (sV aE aF c_.blocks.length aG)] 59]) (fun aK => ?_) ?_
  ·
   refine gBk (gMf hm (fun aR => [(2, (nV from_)), (3, (nV b_)), (4, (.slice aB regs.length aC)), (6, (pV aA)), (10, (.slice ac aQ.length ae)), (11, (nV aR))]) (fun aR => [ow [(.slice aB regs.length aC)] regs, blk aA [(nV c_.params), (nV c_.regs), (sV aE aF c_.blocks.length aG)] 59, ow [(.slice ac aQ.length ae)] aQ]) [2, 1, 0] rfl ?_)
   repeat clear hm
   intro bU aj aR w hm bV ak
   refine gS (gS (gR (gM rfl (gM rfl (gg fun al am aS => ?_)))))
   obtain ⟨bW, bX, bY, he⟩ := idx_form (hm.ow_rep 2 rfl) aS
   obtain ⟨rfl, _, rfl⟩ := sl3 he
   refine gI st_26 am (idx_lt aS) rfl (gY (yl isAgg3 ((flat_cells (cs := [(nV al)]) (hm.ow_rep 2 rfl) aS rfl).cell (j := 0) rfl) rfl) (gM rfl (gB rfl (gE (gsd 31 rfl (fun an => ?_) fun an => ?_)))))
   ·
    exact gct rfl (gSk (gBk (gR (gM rfl (gB rfl (gA rfl (gE (gze hm [0, 1, 2] rfl))))))))
   exact gcf rfl (gXt (gHh (gLp ak aj (gz hm [0, 1] rfl))))
  repeat clear hm
  intro aK w hm
  refine gS (gR (gf rfl (fun a hf => e_build0 (α := Int) et_26 hm rfl) ?_))
  rintro bZ w hm
  refine gA rfl (gE (gS (gS (gR (gA rfl (gE ?_))))))
  obtain ⟨ao, aq, rfl, b5⟩ := ro_slice (hm.ow_rep 0 rfl)
  refine gBk (gNg (fun af ag a w => ∃ (aT : Value), St 87 [(3, (nV b_)), (4, (.slice aB regs.length aC)), (6, (pV aA)), (11, (nV aK)), (12, aT), (13, (nV af))] w0 hz [ow [(.slice aB regs.length aC)] regs, blk aA [(nV c_.params), (nV c_.regs), (sV aE aF c_.blocks.length aG)] 59, ow [aT] ag] a w) (fun a hf => ⟨(.slice ao ([] : List Int).length aq), hf.sb rfl, hm.pk [1, 2, 0] rfl rfl⟩) ?_ ?_)
  ·
   repeat clear hm
   rintro _ _ af ag a w ⟨aT, hf, hm⟩ b6 b7 b8 _
   refine gv hf (gS (gS (gR (gM rfl (gF fo_59_2 rfl (gL hm 1 isAgg57 rfl (gM rfl (gI st_57 aH (idx_lt aD) rfl (gF fo_71_0 rfl (gY (yl isAgg68 ((aI.mono hm.lez).cell (j := 0) rfl) rfl) (gY (yV st_68 rfl) (gB rfl (gE (go _ 43 rfl (decide_eq_true (by omega)) (gct rfl (gSk (gS (gBk (gR (gM rfl (gM rfl (gF fo_59_2 rfl (gL hm 1 isAgg57 rfl (gM rfl (gI st_57 aH (idx_lt aD) rfl (gF fo_71_0 rfl (gY (yl isAgg68 ((aI.mono hm.lez).cell (j := 0) rfl) rfl) (gM rfl (gg fun b9 ar aU => ?_)))))))))))))))))))))))))))))
   obtain ⟨ba, bc, bd, he⟩ := idx_form' aJ aU
   obtain ⟨rfl, _, rfl⟩ := sl3 he
   obtain ⟨be, au, ah⟩ := rk_Phi_ aJ aU
   refine gI st_68 ar (idx_lt aU) rfl (gF fo_66_1 rfl (gY (yl isAgg26 ((au.mono hm.lez).cell (j := 1) rfl) rfl) (gM rfl (gg fun av aw aV => ?_))))
   obtain ⟨bf, bg, bh, he⟩ := idx_form ah aV
   subst he
   refine gI st_26 aw (idx_lt aV) rfl (gY (yl isAgg3 ((flat_cells (cs := [(nV av)]) (hm.now ah) aV rfl).cell (j := 0) rfl) rfl) (gg fun aM ax aW => ?_))
   obtain ⟨bi, bj, bk, he⟩ := idx_form (hm.ow_rep 0 rfl) aW
   obtain ⟨rfl, _, rfl⟩ := sl3 he
   refine gI st_26 ax (idx_lt aW) rfl (gY (yl isAgg3 ((flat_cells (cs := [(nV aM)]) (hm.ow_rep 0 rfl) aW rfl).cell (j := 0) rfl) rfl) (gf rfl (fun a hf => e_build (vs := #[(0, (nV aM))]) (cs := [(nV aM)]) et_26 hf hm rfl rfl (by kernel_rfl) rfl rfl) ?_))
   rintro _ w ⟨bm, rfl, hm⟩
   replace hm := hm.lit (xs := ([aM] : List Int)) 0 rfl rfl rfl rfl
   refine gb fun bo ay => ?_
   obtain ⟨az, bA⟩ := appM_some.1 ay
   refine gf rfl (fun a hf => e_append 3 et_26 hf hm rfl (hm.ow_rep 0 rfl) rfl rfl rfl az) ?_
   rintro bB w hm
   rw [bA] at hm
   exact gA rfl (gE (gR (gM rfl (gP (by omega) (by omega) rfl (gA rfl (gE (gZe fun a hf => ⟨bB, hf.sb rfl, hm.pk [1, 2, 3] rfl rfl⟩)))))))
  repeat clear hm
  rintro bp aL a w ⟨bq, hf, hm⟩ br bt
  refine gv hf (gS (gS (gR (gM rfl (gF fo_59_2 rfl (gL hm 1 isAgg57 rfl (gM rfl (gI st_57 aH (idx_lt aD) rfl (gF fo_71_0 rfl (gY (yl isAgg68 ((aI.mono hm.lez).cell (j := 0) rfl) rfl) (gY (yV st_68 rfl) (gB rfl (gE (go _ 43 rfl (decide_eq_false (by omega)) (gcf rfl (gXt (gHh (gS (gR (gA rfl (gE ?_)))))))))))))))))))))
  obtain ⟨aX, aY, rfl, bu⟩ := ro_slice (hm.ow_rep 2 rfl)
  refine gBk (gNf hm (fun aZ aN => [(3, (nV b_)), (4, (.slice aB regs.length aC)), (6, (pV aA)), (12, (.slice aX aL.length aY)), (14, (nV aZ))]) (fun aZ aN => [ow [(.slice aB regs.length aC)] aN, blk aA [(nV c_.params), (nV c_.regs), (sV aE aF c_.blocks.length aG)] 59, ow [(.slice aX aL.length aY)] aL]) [0, 1, 2] rfl ?_ ?_)
  ·
   repeat clear hm
   intro _ _ aZ aN w hm bv bw bx _
   refine gS (gS (gR (gM rfl (gM rfl (gY (yV st_26 rfl) (gB rfl (gE (go _ 68 rfl (decide_eq_true (by omega)) (gct rfl (gSk (gS (gBk (gW (.p 0 (.p 1 (.p 3 (.p 7 (.p 11 (.p 12 (.p 13 (.q 2 (.p 4 (.p 5 (.q 6 (.p 8 (.p 9 (.q 10 (.e 14 (.p 15 (.e 16 .fin .nil)) .nil))))))))))))))) [14] [0, 1, 3, 4, 5, 7, 8, 9, 11, 12, 13, 15] hm [0, 1, 2] [ow [(.slice aB regs.length aC)] aN, blk aA [(nV c_.params), (nV c_.regs), (sV aE aF c_.blocks.length aG)] 59, ow [(.slice aX aL.length aY)] aL] rfl mxo (by kernel_rfl) (fun _ _ _ h => h.2) fun w hm hS => tP rfl (fun w => yM rfl) (tP rfl (fun w => yF fo_59_2 rfl) (tP rfl (fun w => yM rfl) (tP rfl (fun w => yM rfl) (tP rfl (fun w => yM rfl) (tP rfl (fun w => yM rfl) (gg fun aO bC aa => ?_)))))))))))))))))))
   obtain ⟨bz, cA, cB, he⟩ := idx_form (hm.ow_rep 2 rfl) aa
   obtain ⟨rfl, _, rfl⟩ := sl3 he
   refine tP rfl (fun w => yI st_26 bC (idx_lt aa) rfl) (tQ rfl hS (fun w hm => yL hm 1 isAgg57 rfl) (tP rfl (fun w => yI st_57 aH (idx_lt aD) rfl) (tP rfl (fun w => yF fo_71_0 rfl) (tQ rfl hS (fun w hm => yl isAgg68 ((aI.mono hm.lez).cell (j := 0) rfl) rfl) (gg fun cC bD ab => ?_)))))
   obtain ⟨cD, cE, cF, he⟩ := idx_form' aJ ab
   obtain ⟨rfl, _, rfl⟩ := sl3 he
   obtain ⟨cG, bE, cH⟩ := rk_Phi_ aJ ab
   refine tP rfl (fun w => yI st_68 bD (idx_lt ab) rfl) (tP rfl (fun w => yF fo_66_0 rfl) (tQ rfl hS (fun w hm => yl isAgg3 ((bE.mono hm.lez).cell (j := 0) rfl) rfl) (tO (tY rfl (yl isAgg3 ((flat_cells (cs := [(nV aO)]) (hm.ow_rep 2 rfl) aa rfl).cell (j := 0) rfl) rfl) (tAs hS (gg fun cI bF aP => ?_))))))
   obtain ⟨cJ, cK, cL, he⟩ := idx_form (hm.ow_rep 0 rfl) aP
   obtain ⟨rfl, _, rfl⟩ := sl3 he
   have hL1_1 := rep_slice_len (hm.ow_rep 0 rfl)
   refine tP rfl (fun w => yI st_26 bF (idx_lt2 aP hL1_1) rfl) (tO (tf0 rfl rfl (fun a hf => e_setElem (x1 := aO) (j := 0) (vs := [(nV aO)]) 0 hf hm rfl aP rfl sizeOf3 rfl rfl rfl (one_cons rfl one_nil) rfl rfl) ?_))
   rintro _ w hm
   have cM := List.getElem?_set_self (a := aO) (idx_lt aP)
   exact tAn rfl (tE (gR (gM rfl (gP (by omega) (by omega) rfl (gA rfl (gE (gze hm [0, 1, 2] rfl)))))))
  repeat clear hm
  intro cN cO w hm cP cQ
  exact gS (gS (gR (gM rfl (gM rfl (gY (yV st_26 rfl) (gB rfl (gE (go _ 68 rfl (decide_eq_false (by omega)) (gcf rfl (gXt (gHh (gre results61 ⟨rfl, hm.pk [0] rfl rfl⟩))))))))))))
theorem spec_l8Pure_ok (w0 : World) (op : Int) :
    ConM Try.prog 85 [(nV op)] w0 (spec_l8Pure op) fun r v w' => v = (.bool (r)) ∧ Below w0.heap.size w0 w' := by
  unfold spec_l8Pure
  refine gcon func85 rfl fun r => ?_
  have hm := Mem.start w0
  exact gS (gR (gA rfl (gE (gS (gR (gM rfl (gC hm rfl call20 (spec_l1In_ok _ op 1 10) fun aA aB w hm => gA rfl (gE (gRt (gr1 results85 rfl ⟨rfl, hm.below⟩))))))))))
theorem spec_l5Truth_ok (w0 : World) (is : Bool) :
    ConM Try.prog 97 [(.bool (is))] w0 (spec_l5Truth is) fun r v w' => v = (nV r) ∧ Below w0.heap.size w0 w' := by
  unfold spec_l5Truth
  refine gcon func97 rfl fun r => ?_
  have hm := Mem.start w0
  refine gS (gR (gA rfl (gE (gS (gS (gR (gM rfl (gE (gs 3 rfl (fun aA => ?_) fun aA => ?_)))))))))
  ·
   exact gct rfl (gS (gR (gA rfl (gE (gRt (gr1 results97 rfl ⟨rfl, hm.below⟩))))))
  exact gcf rfl (gSk (gS (gR (gA rfl (gE (gRt (gr1 results97 rfl ⟨rfl, hm.below⟩)))))))
theorem spec_l5Two_ok (w0 : World) (op : Int) (a_ : Int) (b_ : Int) :
    ConM Try.prog 98 [(nV op), (nV a_), (nV b_)] w0 (spec_l5Two op a_ b_) fun r v w' => v = (.tuple #[(nV r.1), (nV r.2)]) ∧ Below w0.heap.size w0 w' := by
  unfold spec_l5Two
  refine gcon func98 rfl fun r => ?_
  have hm := Mem.start w0
  refine gS (gR (gA rfl (gA rfl (gE (gS (gS (gR (gM rfl (gE (gBk (gS (gR (gB rfl (gA rfl (gE (gsd 9 rfl (fun aA => ?_) fun aA => ?_))))))))))))))))
  ·
   exact gct rfl (gS (gR (gM rfl (gM rfl (gB rfl (gY (yG rfl (y_rem rfl rfl rfl (by decide))) (gA rfl (gA rfl (gE (gRt (gr2 results98 rfl ⟨rfl, hm.below⟩)))))))))))
  refine gcf rfl (gS (gR (gB rfl (gA rfl (gE (gsd 15 rfl (fun aB => ?_) fun aB => ?_))))))
  ·
   exact gct rfl (gS (gR (gM rfl (gM rfl (gB rfl (gB rfl (gY (yG rfl (y_rem rfl rfl rfl (by decide))) (gA rfl (gA rfl (gE (gRt (gr2 results98 rfl ⟨rfl, hm.below⟩))))))))))))
  refine gcf rfl (gS (gR (gB rfl (gA rfl (gE (gsd 22 rfl (fun aC => ?_) fun aC => ?_))))))
  ·
   exact gct rfl (gS (gR (gM rfl (gM rfl (gB rfl (gY (yG rfl (y_rem rfl rfl rfl (by decide))) (gA rfl (gA rfl (gE (gRt (gr2 results98 rfl ⟨rfl, hm.below⟩)))))))))))
  refine gcf rfl (gS (gR (gB rfl (gA rfl (gE (gsd 28 rfl (fun aD => ?_) fun aD => ?_))))))
  ·
   exact gct rfl (gS (gR (gM rfl (gM rfl (gB rfl (gC hm rfl call97 (spec_l5Truth_ok _ (decide (a_ < b_))) fun aL aM w hm => gA rfl (gA rfl (gE (gRt (gr2 results98 rfl ⟨rfl, hm.below⟩))))))))))
  refine gcf rfl (gS (gR (gB rfl (gA rfl (gE (gsd 34 rfl (fun aE => ?_) fun aE => ?_))))))
  ·
   exact gct rfl (gS (gR (gM rfl (gM rfl (gB rfl (gC hm rfl call97 (spec_l5Truth_ok _ (decide (a_ = b_))) fun aN aO w hm => gA rfl (gA rfl (gE (gRt (gr2 results98 rfl ⟨rfl, hm.below⟩))))))))))
  refine gcf rfl (gSk (gS (gS (gR (gM rfl (gB rfl (gE (gsd 41 rfl (fun aF => ?_) fun aF => ?_))))))))
  ·
   exact gct rfl (gS (gR (gA rfl (gA rfl (gE (gRt (gr2 results98 rfl ⟨rfl, hm.below⟩)))))))
  refine gcf rfl (gSk (gS (gS (gR (gM rfl (gB rfl (gE (gsd 43 rfl (fun aG => ?_) fun aG => ?_))))))))
  ·
   refine gct rfl (gS (gR (gM rfl (gM rfl (gb fun aP aH => ?_)))))
   obtain ⟨aI, rfl⟩ := quoM_some.1 aH
   exact gY (yG rfl (y_quo rfl rfl rfl aI)) (gA rfl (gA rfl (gE (gRt (gr2 results98 rfl ⟨rfl, hm.below⟩)))))
  refine gcf rfl (gSk (gS (gR (gM rfl (gM rfl (gb fun aQ aJ => ?_))))))
  obtain ⟨aK, rfl⟩ := remM_some.1 aJ
  exact gY (yG rfl (y_rem rfl rfl rfl aK)) (gA rfl (gA rfl (gE (gRt (gr2 results98 rfl ⟨rfl, hm.below⟩)))))
theorem spec_l8Do_ok (w0 : World) (op : Int) (a_ : Int) (b_ : Int) :
    ConM Try.prog 86 [(nV op), (nV a_), (nV b_)] w0 (spec_l8Do op a_ b_) fun r v w' => v = (.tuple #[(nV r.1), (nV r.2)]) ∧ Below w0.heap.size w0 w' := by
  unfold spec_l8Do
  refine gcon func86 rfl fun r => ?_
  have hm := Mem.start w0
  refine gS (gR (gA rfl (gA rfl (gE (gS (gS (gR (gM rfl (gE (gBk (gS (gS (gR (gB rfl (gA rfl (gE (gJ hm (fun aA => [(0, (nV op)), (1, (nV a_)), (2, (nV b_)), (8, (nV op)), (9, (.bool (aA)))]) (fun aA => []) (fun aA => ?_) ?_)))))))))))))))))
  ·
   refine gsd 9 rfl (fun aB => ?_) fun aB => ?_
   ·
    exact gct rfl (gSk (gz hm [] rfl))
   exact gcf rfl (gR (gB rfl (gA rfl (gE (gz hm [] rfl)))))
  repeat clear hm
  intro aA w hm
  refine gs 9 rfl (fun aC => ?_) fun aC => ?_
  ·
   exact gct rfl (gS (gR (gM rfl (gA rfl (gA rfl (gE (gRt (gr2 results86 rfl ⟨rfl, hm.below⟩))))))))
  refine gcf rfl (gS (gR (gB rfl (gA rfl (gE (gsd 13 rfl (fun aD => ?_) fun aD => ?_))))))
  ·
   exact gct rfl (gS (gR (gM rfl (gB rfl (gC hm rfl call97 (spec_l5Truth_ok _ (decide (a_ = 0))) fun aE aF w hm => gA rfl (gA rfl (gE (gRt (gr2 results86 rfl ⟨rfl, hm.below⟩)))))))))
  exact gcf rfl (gSk (gS (gR (gM rfl (gM rfl (gM rfl (gC hm rfl call98 (spec_l5Two_ok _ op a_ b_) fun aG aH w hm => gX rfl (gX rfl (gA rfl (gA rfl (gE (gRt (gr2 results86 rfl ⟨rfl, hm.below⟩)))))))))))))
theorem pspec_l8Run__code_all : (∀ (r_ : l8Run) (k_ : Int) (in_ : List Int) (r : Int × l8Run), pspec_l8Run__code r_ k_ in_ = some r → ∀ (w0 : World) (hz : Heap) (bp0 : Nat) (v1p : Value) (h1p : GT.rep hz [v1p] r_.u.codes) (v2p : Value) (v3p : Value) (v4p : Value) (v1 : Value) (h1 : GT.rep hz [v1] in_) (hm0 : Mem w0 hz w0 [blk bp0 [v1p, v2p, (nV r_.out.end_), (nV r_.out.value), v3p, (nV r_.steps), (.bool (r_.over)), v4p] 51, ow [v2p] r_.out.said, ow [v3p] r_.out.cells, ow [v4p] r_.trace]), Con Try.prog 39 [(pV bp0), (nV k_), v1] w0 (fun v w' => ∃ (x2 : Value) (x3 : Value) (x4 : Value), v = (nV r.1) ∧ Mem w0 hz w' [blk bp0 [v1p, x2, (nV r.2.out.end_), (nV r.2.out.value), x3, (nV r.2.steps), (.bool (r.2.over)), x4] 51, ow [x2] r.2.out.said, ow [x3] r.2.out.cells, ow [x4] r.2.trace])) ∧
    (∀ (r_ : l8Run) (x_ : Ins_) (regs : List Int) (r : l8Run × (List Int)), pspec_l8Run__ins r_ x_ regs = some r → ∀ (w0 : World) (hz : Heap) (bp0 : Nat) (v1p : Value) (h1p : GT.rep hz [v1p] r_.u.codes) (v2p : Value) (v3p : Value) (v4p : Value) (v1 : Value) (h1 : GT.rep hz [v1] x_.args) (v2 : Value) (hm0 : Mem w0 hz w0 [blk bp0 [v1p, v2p, (nV r_.out.end_), (nV r_.out.value), v3p, (nV r_.steps), (.bool (r_.over)), v4p] 51, ow [v2p] r_.out.said, ow [v3p] r_.out.cells, ow [v4p] r_.trace, ow [v2] regs]), Con Try.prog 60 [(pV bp0), (.agg #[(nV x_.op), (nV x_.to), v1, (nV x_.n_)]), v2] w0 (fun v w' => ∃ (x2 : Value) (x3 : Value) (x4 : Value), v = (.tuple #[]) ∧ Mem w0 hz w' [blk bp0 [v1p, x2, (nV r.1.out.end_), (nV r.1.out.value), x3, (nV r.1.steps), (.bool (r.1.over)), x4] 51, ow [x2] r.1.out.said, ow [x3] r.1.out.cells, ow [x4] r.1.trace, ow [v2] r.2])) := by
  refine pspec_l8Run__code.mutual_partial_correctness (motive_1 := fun r_ k_ in_ r => ∀ (w0 : World) (hz : Heap) (bp0 : Nat) (v1p : Value) (h1p : GT.rep hz [v1p] r_.u.codes) (v2p : Value) (v3p : Value) (v4p : Value) (v1 : Value) (h1 : GT.rep hz [v1] in_) (hm0 : Mem w0 hz w0 [blk bp0 [v1p, v2p, (nV r_.out.end_), (nV r_.out.value), v3p, (nV r_.steps), (.bool (r_.over)), v4p] 51, ow [v2p] r_.out.said, ow [v3p] r_.out.cells, ow [v4p] r_.trace]), Con Try.prog 39 [(pV bp0), (nV k_), v1] w0 (fun v w' => ∃ (x2 : Value) (x3 : Value) (x4 : Value), v = (nV r.1) ∧ Mem w0 hz w' [blk bp0 [v1p, x2, (nV r.2.out.end_), (nV r.2.out.value), x3, (nV r.2.steps), (.bool (r.2.over)), x4] 51, ow [x2] r.2.out.said, ow [x3] r.2.out.cells, ow [x4] r.2.trace])) (motive_2 := fun r_ x_ regs r => ∀ (w0 : World) (hz : Heap) (bp0 : Nat) (v1p : Value) (h1p : GT.rep hz [v1p] r_.u.codes) (v2p : Value) (v3p : Value) (v4p : Value) (v1 : Value) (h1 : GT.rep hz [v1] x_.args) (v2 : Value) (hm0 : Mem w0 hz w0 [blk bp0 [v1p, v2p, (nV r_.out.end_), (nV r_.out.value), v3p, (nV r_.steps), (.bool (r_.over)), v4p] 51, ow [v2p] r_.out.said, ow [v3p] r_.out.cells, ow [v4p] r_.trace, ow [v2] regs]), Con Try.prog 60 [(pV bp0), (.agg #[(nV x_.op), (nV x_.to), v1, (nV x_.n_)]), v2] w0 (fun v w' => ∃ (x2 : Value) (x3 : Value) (x4 : Value), v = (.tuple #[]) ∧ Mem w0 hz w' [blk bp0 [v1p, x2, (nV r.1.out.end_), (nV r.1.out.value), x3, (nV r.1.steps), (.bool (r.1.over)), x4] 51, ow [x2] r.1.out.said, ow [x3] r.1.out.cells, ow [x4] r.1.trace, ow [v2] r.2])) ?_ ?_
  · intro rec_ ih_ r_ k_ in_ r hq w0 hz bp0 v1p h1p v2p v3p v4p v1 h1 hm0
    have pspec_l8Run__ins_rec : ∀ (w0 : World) (hz : Heap) (r_ : l8Run) (bp0 : Nat) (v1p : Value) (h1p : GT.rep hz [v1p] r_.u.codes) (v2p : Value) (v3p : Value) (v4p : Value) (x_ : Ins_) (v1 : Value) (h1 : GT.rep hz [v1] x_.args) (regs : List Int) (v2 : Value) (hm0 : Mem w0 hz w0 [blk bp0 [v1p, v2p, (nV r_.out.end_), (nV r_.out.value), v3p, (nV r_.steps), (.bool (r_.over)), v4p] 51, ow [v2p] r_.out.said, ow [v3p] r_.out.cells, ow [v4p] r_.trace, ow [v2] regs]) (r : l8Run × (List Int)) (hq : rec_ r_ x_ regs = some r), Con Try.prog 60 [(pV bp0), (.agg #[(nV x_.op), (nV x_.to), v1, (nV x_.n_)]), v2] w0 (fun v w' => ∃ (x2 : Value) (x3 : Value) (x4 : Value), v = (.tuple #[]) ∧ Mem w0 hz w' [blk bp0 [v1p, x2, (nV r.1.out.end_), (nV r.1.out.value), x3, (nV r.1.steps), (.bool (r.1.over)), x4] 51, ow [x2] r.1.out.said, ow [x3] r.1.out.cells, ow [x4] r.1.trace, ow [v2] r.2]) := fun w0 hz r_ bp0 v1p h1p v2p v3p v4p x_ v1 h1 regs v2 hm0 r hq => ih_ r_ x_ regs r hq w0 hz bp0 v1p h1p v2p v3p v4p v1 h1 v2 hm0
    refine gconr (ρ := Int × l8Run) (R := fun r v w' => ∃ (x2 : Value) (x3 : Value) (x4 : Value), v = (nV r.1) ∧ Mem w0 hz w' [blk bp0 [v1p, x2, (nV r.2.out.end_), (nV r.2.out.value), x3, (nV r.2.steps), (.bool (r.2.over)), x4] 51, ow [x2] r.2.out.said, ow [x3] r.2.out.cells, ow [x4] r.2.trace]) func39 rfl hq ?_
    have hm := hm0
    refine gS (gR (gA rfl (gE (gS (gR (gM rfl (gY (yG rfl (y_nilptr rfl rfl)) (gF fo_51_0 rfl (gF fo_25_0 rfl (gL hm 0 isAgg23 rfl (gM rfl (gg fun aB cY b6 => ?_))))))))))))
    obtain ⟨aE, aO, aG, he⟩ := idx_form' h1p b6
    subst he
    obtain ⟨av, cZ, bM⟩ := rk_Code_ h1p b6
    refine gI st_23 cY (idx_lt b6) rfl (gY (yn (cZ.mono hm.lez) isAgg59 sizeOf59 rfl) (gAl hm zeroValue59 rfl fun aM w hm => gSN hm 0 sizeOf59 (one_cons rfl (one_cons rfl (one_cons (rep_one bM) one_nil))) rfl fun w hm => gE (gS (gR (gF fo_59_1 rfl (gL hm 0 isAgg3 rfl (gb fun aA c5 => ?_)))))))
    obtain ⟨⟨c6, c7⟩, cI⟩ := makeM_some.1 c5
    refine gf rfl (fun a hf => e_make (x0 := (0 : Int)) et_26 (fun _ => (Flat.own_iff.2 rfl)) hf hm rfl rfl rfl c6 (Int.le_refl _) c7) ?_
    rintro ay w hm
    rw [cI] at hm
    have h0_3l : (aA.length : Int) = aB.regs := by rw [← cI]; simp only [List.length_replicate]; omega
    refine gA rfl (gE (gS (gR (gM rfl (gM rfl (gf rfl (fun a hf => e_copy (α := Int) (xs := aA) (ys := in_) (lo := 0) (hi := aA.length) 0 st_26 (show 0 < 1 from by decide) hf hm rfl (hm.now h1) rfl (by rw [hm.subV_whole (α := Int) 0 rfl]; rfl) rfl (Nat.zero_le _) (Nat.le_refl _)) ?_))))))
    rintro _ w ⟨rfl, hm⟩
    refine gE (gS (gR (gA rfl (gE ?_))))
    obtain ⟨ab, cJ, rfl, c8⟩ := ro_slice (hm.ow_rep 3 rfl)
    obtain ⟨c9, ca, rfl, dr⟩ := ro_slice (hm.ow_rep 4 rfl)
    obtain ⟨cb, cd, rfl, dt⟩ := ro_slice (hm.ow_rep 5 rfl)
    obtain ⟨aJ, aK, rfl, du⟩ := ro_slice (hm.ow_rep 0 rfl)
    refine gBk (gMg (fun aD a w => ∃ (az aY ac : Value), St 111 [(0, (pV bp0)), (1, (nV k_)), (7, (pV aM)), (8, (.slice aJ (copyL aA in_ 0 aA.length).length aK)), (9, (nV aD.2.2.2.2.2.2.2.2))] w0 hz [blk bp0 [(sV aE aO r_.u.codes.length aG), az, (nV aD.2.1), (nV aD.2.2.1), aY, (nV aD.2.2.2.2.1), (.bool (aD.2.2.2.2.2.1)), ac] 51, ow [az] aD.1, ow [aY] aD.2.2.2.1, ow [ac] aD.2.2.2.2.2.2.1, blk aM [(nV aB.params), (nV aB.regs), av] 59, ow [(.slice aJ (copyL aA in_ 0 aA.length).length aK)] aD.2.2.2.2.2.2.2.1] a w) (fun a hf => ⟨(.slice ab r_.out.said.length cJ), (.slice c9 r_.out.cells.length ca), (.slice cb r_.trace.length cd), hf.sb rfl, hm.pk [2, 3, 4, 5, 1, 0] rfl rfl⟩) ?_)
    repeat clear hm
    rintro dv b7 aD a w ⟨az, aY, ac, hf, hm⟩ dw b8
    refine gv hf (gBk (gS (gR (gF fo_59_2 rfl (gL hm 4 isAgg57 rfl (gM rfl (gg fun aH b9 an => ?_)))))))
    obtain ⟨aQ, aR, aS, he⟩ := idx_form' bM an
    subst he
    obtain ⟨aT, cK, ao, ce, ba, aq, ar⟩ := rk_Block_ bM an
    refine gI st_57 b9 (idx_lt an) rfl (gY (yn (ce.mono hm.lez) isAgg71 sizeOf71 rfl) (gAl hm zeroValue71 rfl fun aU w hm => gSN hm 0 sizeOf71 (one_cons (rep_one ba) (one_cons (rep_one aq) (one_cons rfl (one_cons rfl (one_cons (rep_one ar) one_nil))))) rfl fun w hm => gE (gS (gS (gR (gM rfl (gM rfl (gY (yG rfl (y_nilptr rfl rfl)) (gF fo_51_0 rfl (gF fo_25_0 rfl (gL hm 1 isAgg23 rfl ?_)))))))))))
    have dx := rep_len h1p
    refine gY (yV st_23 rfl) (gY (yS (by omega) (by omega) rfl) (gB rfl (gE (gJg (fun aP a w => ∃ (bc : Value), St 111 [(0, (pV bp0)), (1, (nV k_)), (7, (pV aM)), (8, (.slice aJ (copyL aA in_ 0 aA.length).length aK)), (9, (nV aD.2.2.2.2.2.2.2.2)), (10, (pV aU))] w0 hz [blk bp0 [(sV aE aO r_.u.codes.length aG), az, (nV aD.2.1), (nV aD.2.2.1), aY, (nV aD.2.2.2.2.1), (.bool (aD.2.2.2.2.2.1)), bc] 51, ow [az] aD.1, ow [aY] aD.2.2.2.1, ow [bc] aP, blk aM [(nV aB.params), (nV aB.regs), (sV aQ aR aB.blocks.length aS)] 59, ow [(.slice aJ (copyL aA in_ 0 aA.length).length aK)] aD.2.2.2.2.2.2.2.1, blk aU [aT, cK, (nV aH.jump), (nV aH.on), ao] 71] a w) (fun aP => ?_) ?_))))
    ·
     refine gsd 40 rfl (fun bd => ?_) fun bd => ?_
     ·
      refine gct rfl (gR (gM rfl (gM rfl (gY (yG rfl (y_nilptr rfl rfl)) (gF fo_51_4 rfl (gL hm 1 isAgg26 rfl (gM rfl (gf rfl (fun a hf => e_build (vs := #[(0, (nV aD.2.2.2.2.2.2.2.2))]) (cs := [(nV aD.2.2.2.2.2.2.2.2)]) et_26 hf hm rfl rfl (by kernel_rfl) rfl rfl) ?_))))))))
      rintro _ w ⟨cf, rfl, hm⟩
      replace hm := hm.lit (xs := ([aD.2.2.2.2.2.2.2.2] : List Int)) 0 rfl rfl rfl rfl
      refine gb fun dy cL => ?_
      obtain ⟨be, cg⟩ := appM_some.1 cL
      refine gf rfl (fun a hf => e_append 5 et_26 hf hm rfl (hm.ow_rep 0 rfl) rfl rfl rfl be) ?_
      rintro ci w hm
      rw [cg] at hm
      exact gY (yG rfl (y_nilptr rfl rfl)) (gF fo_51_4 rfl (gS1 hm 2 sizeOf26 (rep_one (hm.ow_rep 5 rfl)) rfl fun w hm => gE (gZ fun a hf => ⟨ci, hf.sb rfl, hm.pk [2, 3, 4, 5, 6, 7, 1] rfl rfl⟩)))
     exact gcf rfl (gSk (gZ fun a hf => ⟨ac, hf.sb rfl, hm.pk [1, 2, 3, 4, 5, 6, 0] rfl rfl⟩))
    repeat clear hm
    rintro aP a w ⟨bc, hf, hm⟩
    refine gv hf (gS (gS (gR (gA rfl (gE ?_)))))
    obtain ⟨cj, cM, rfl, dz⟩ := ro_slice (hm.ow_rep 1 rfl)
    obtain ⟨ck, cN, rfl, eA⟩ := ro_slice (hm.ow_rep 2 rfl)
    obtain ⟨cl, cO, rfl, eB⟩ := ro_slice (hm.ow_rep 3 rfl)
    refine gBk (gNg (fun bf aF a w => ∃ (au aj ak : Value), St 111 [(0, (pV bp0)), (1, (nV k_)), (7, (pV aM)), (8, (.slice aJ (copyL aA in_ 0 aA.length).length aK)), (9, (nV aD.2.2.2.2.2.2.2.2)), (10, (pV aU)), (11, (nV bf))] w0 hz [blk bp0 [(sV aE aO r_.u.codes.length aG), au, (nV aF.2.1), (nV aF.2.2.1), aj, (nV aF.2.2.2.2.1), (.bool (aF.2.2.2.2.2.1)), ak] 51, ow [au] aF.1, ow [aj] aF.2.2.2.1, ow [ak] aF.2.2.2.2.2.2.1, blk aM [(nV aB.params), (nV aB.regs), (sV aQ aR aB.blocks.length aS)] 59, ow [(.slice aJ (copyL aA in_ 0 aA.length).length aK)] aF.2.2.2.2.2.2.2, blk aU [aT, cK, (nV aH.jump), (nV aH.on), ao] 71] a w) (fun a hf => ⟨(.slice cj aD.1.length cM), (.slice ck aD.2.2.2.1.length cN), (.slice cl aP.length cO), hf.sb rfl, hm.pk [0, 1, 2, 3, 4, 5, 6] rfl rfl⟩) ?_ ?_)
    ·
     repeat clear hm
     rintro cm cn bf aF a w ⟨au, aj, ak, hf, hm⟩ eC eD eE co
     refine gv hf (gS (gS (gR (gM rfl (gF fo_71_1 rfl (gL hm 6 isAgg69 rfl ?_))))))
     obtain ⟨cP, bN, rfl, eF⟩ := ro_slice aq
     refine gY (yV st_69 rfl) (gB rfl (gE (go _ 55 rfl (decide_eq_true (by omega)) (gct rfl (gSk (gS (gBk (gS (gS (gR (gM rfl ?_)))))))))))
     obtain ⟨bg, hle, hm1, hsub, bh⟩ := hm.take2 (L1 := [blk bp0 [(sV aE aO r_.u.codes.length aG), au, (nV aF.2.1), (nV aF.2.2.1), aj, (nV aF.2.2.2.2.1), (.bool (aF.2.2.2.2.2.1)), ak] 51, ow [au] aF.1, ow [aj] aF.2.2.2.1, ow [ak] aF.2.2.2.2.2.2.1]) (L2 := [blk aM [(nV aB.params), (nV aB.regs), (sV aQ aR aB.blocks.length aS)] 59, ow [(.slice aJ (copyL aA in_ 0 aA.length).length aK)] aF.2.2.2.2.2.2.2, blk aU [aT, (.slice cP aH.ins.length bN), (nV aH.jump), (nV aH.on), ao] 71]) [0, 1, 2, 3] [4, 5, 6] (by decide) rfl rfl
     refine gCg rfl call59 (pspec_l8Run__take_ok _ bg (⟨r_.u, (⟨aF.1, aF.2.1, aF.2.2.1, aF.2.2.2.1⟩ : Outcome_), aF.2.2.2.2.1, aF.2.2.2.2.2.1, aF.2.2.2.2.2.2.1⟩ : l8Run) bp0 (sV aE aO r_.u.codes.length aG) (GT.mono hle h1p) au aj ak hm1 ) ?_
     rintro aN cq cQ w ⟨ae, af, ag, rfl, hB⟩
     replace hm := bh _ _ hB; clear hB
     refine gE (gJg (fun aI a w => ∃ (bA bB bC : Value), St 111 [(0, (pV bp0)), (1, (nV k_)), (7, (pV aM)), (8, (.slice aJ (copyL aA in_ 0 aA.length).length aK)), (9, (nV aD.2.2.2.2.2.2.2.2)), (10, (pV aU)), (11, (nV bf))] w0 hz [blk bp0 [(sV aE aO r_.u.codes.length aG), bA, (nV aI.2.1), (nV aI.2.2.1), bB, (nV aI.2.2.2.2.1), (.bool (aI.2.2.2.2.2.1)), bC] 51, ow [bA] aI.1, ow [bB] aI.2.2.2.1, ow [bC] aI.2.2.2.2.2.2.1, blk aM [(nV aB.params), (nV aB.regs), (sV aQ aR aB.blocks.length aS)] 59, ow [(.slice aJ (copyL aA in_ 0 aA.length).length aK)] aI.2.2.2.2.2.2.2, blk aU [aT, (.slice cP aH.ins.length bN), (nV aH.jump), (nV aH.on), ao] 71] a w) (fun aI => ?_) ?_)
     ·
      refine gs 59 rfl (fun bi => ?_) fun bi => ?_
      ·
       refine gct rfl (gR (gM rfl (gF fo_71_1 rfl (gL hm 6 isAgg69 rfl (gM rfl (gg fun cr bj bk => ?_))))))
       obtain ⟨cR, ct, eG, he⟩ := idx_form' aq bk
       obtain ⟨rfl, _, rfl⟩ := sl3 he
       obtain ⟨bm, cu, cv⟩ := rk_Ins_ aq bk
       refine gI st_69 bj (idx_lt bk) rfl (gY (yn (cu.mono hm.lez) isAgg75 sizeOf75 rfl) (gM rfl ?_))
       obtain ⟨cw, hle, hm1, hsub, cx⟩ := hm.take2 (L1 := [blk bp0 [(sV aE aO r_.u.codes.length aG), ae, (nV aN.2.out.end_), (nV aN.2.out.value), af, (nV aN.2.steps), (.bool (aN.2.over)), ag] 51, ow [ae] aN.2.out.said, ow [af] aN.2.out.cells, ow [ag] aN.2.trace, ow [(.slice aJ (copyL aA in_ 0 aA.length).length aK)] aF.2.2.2.2.2.2.2]) (L2 := [blk aM [(nV aB.params), (nV aB.regs), (sV aQ aR aB.blocks.length aS)] 59, blk aU [aT, (sV cR ct aH.ins.length bN), (nV aH.jump), (nV aH.on), ao] 71]) [0, 1, 2, 3, 5] [4, 6] (by decide) rfl rfl
       refine gCg rfl call60 (pspec_l8Run__ins_rec _ cw (⟨r_.u, aN.2.out, aN.2.steps, aN.2.over, aN.2.trace⟩ : l8Run) bp0 (sV aE aO r_.u.codes.length aG) (GT.mono hle h1p) ae af ag cr bm (GT.mono hle cv) aF.2.2.2.2.2.2.2 (.slice aJ (copyL aA in_ 0 aA.length).length aK) hm1 ) ?_
       rintro eH eI bD w ⟨aw, ax, cy, rfl, hB⟩
       replace hm := cx _ _ hB; clear hB
       exact gE (gZ fun a hf => ⟨aw, ax, cy, hf.sb rfl, hm.pk [0, 1, 2, 3, 5, 4, 6] rfl rfl⟩)
      exact gcf rfl (gSk (gZ fun a hf => ⟨ae, af, ag, hf.sb rfl, hm.pk [0, 1, 2, 3, 4, 5, 6] rfl rfl⟩))
     repeat clear hm
     rintro aI a w ⟨bA, bB, bC, hf, hm⟩
     refine gv hf (gS (gR (gM rfl (gY (yG rfl (y_nilptr rfl rfl)) (gF fo_51_3 rfl (gL hm 0 isAgg4 rfl (gE (gs 71 rfl (fun bo => ?_) fun bo => ?_))))))))
     ·
      exact gct rfl (gS (gR (gA rfl (gE (gRt (gLr co cn (gLp b8 b7 (gr1 results39 rfl ⟨bA, bB, bC, rfl, hm.pk [0, 1, 2, 3] rfl rfl⟩))))))))
     exact gcf rfl (gSk (gR (gM rfl (gP (by omega) (by omega) rfl (gA rfl (gE (gZe fun a hf => ⟨bA, bB, bC, hf.sb rfl, hm.pk [0, 1, 2, 3, 4, 5, 6] rfl rfl⟩)))))))
    repeat clear hm
    rintro eJ aL a w ⟨bp, bq, br, hf, hm⟩ eK eL
    refine gv hf (gS (gS (gR (gM rfl (gF fo_71_1 rfl (gL hm 6 isAgg69 rfl ?_))))))
    obtain ⟨cS, bt, rfl, eM⟩ := ro_slice aq
    refine gY (yV st_69 rfl) (gB rfl (gE (go _ 55 rfl (decide_eq_false (by omega)) (gcf rfl (gXt (gHh (gS (gS (gR (gM rfl ?_))))))))))
    obtain ⟨cz, hle, hm1, hsub, dA⟩ := hm.take2 (L1 := [blk bp0 [(sV aE aO r_.u.codes.length aG), bp, (nV aL.2.1), (nV aL.2.2.1), bq, (nV aL.2.2.2.2.1), (.bool (aL.2.2.2.2.2.1)), br] 51, ow [bp] aL.1, ow [bq] aL.2.2.2.1, ow [br] aL.2.2.2.2.2.2.1]) (L2 := [blk aM [(nV aB.params), (nV aB.regs), (sV aQ aR aB.blocks.length aS)] 59, ow [(.slice aJ (copyL aA in_ 0 aA.length).length aK)] aL.2.2.2.2.2.2.2, blk aU [aT, (.slice cS aH.ins.length bt), (nV aH.jump), (nV aH.on), ao] 71]) [0, 1, 2, 3] [4, 5, 6] (by decide) rfl rfl
    refine gCg rfl call59 (pspec_l8Run__take_ok _ cz (⟨r_.u, (⟨aL.1, aL.2.1, aL.2.2.1, aL.2.2.2.1⟩ : Outcome_), aL.2.2.2.2.1, aL.2.2.2.2.2.1, aL.2.2.2.2.2.2.1⟩ : l8Run) bp0 (sV aE aO r_.u.codes.length aG) (GT.mono hle h1p) bp bq br hm1 ) ?_
    rintro aC eN eO w ⟨aV, aW, aX, rfl, hB⟩
    replace hm := dA _ _ hB; clear hB
    refine gN rfl (gE (gsn 74 rfl (fun bu => ?_) fun bu => ?_))
    ·
     exact gct rfl (gS (gR (gA rfl (gE (gRt (gLp b8 b7 (gr1 results39 rfl ⟨aV, aW, aX, rfl, hm.pk [0, 1, 2, 3] rfl rfl⟩)))))))
    refine gcf rfl (gSk (gS (gR (gA rfl (gE (gS (gJe hm (fun bO => [(0, (pV bp0)), (1, (nV k_)), (7, (pV aM)), (8, (.slice aJ (copyL aA in_ 0 aA.length).length aK)), (9, (nV aD.2.2.2.2.2.2.2.2)), (12, (nV bO))]) (fun bO => [blk bp0 [(sV aE aO r_.u.codes.length aG), aV, (nV aC.2.out.end_), (nV aC.2.out.value), aW, (nV aC.2.steps), (.bool (aC.2.over)), aX] 51, ow [aV] aC.2.out.said, ow [aW] aC.2.out.cells, ow [aX] aC.2.trace, blk aM [(nV aB.params), (nV aB.regs), (sV aQ aR aB.blocks.length aS)] 59, ow [(.slice aJ (copyL aA in_ 0 aA.length).length aK)] aL.2.2.2.2.2.2.2]) (fun eP dB => ?_) ?_)))))))
    ·
     refine gBk (gS (gR (gF fo_71_2 rfl (gL hm 6 isAgg3 rfl (gB rfl (gA rfl (gE (gsd 79 rfl (fun dC => ?_) fun dC => ?_))))))))
     ·
      refine gct rfl (gS (gR (gM rfl (gF fo_71_3 rfl (gL hm 6 isAgg3 rfl (gg fun cT dD al => ?_))))))
      obtain ⟨eQ, dE, eR, he⟩ := idx_form (hm.ow_rep 5 rfl) al
      obtain ⟨rfl, _, rfl⟩ := sl3 he
      have hL2_1 := rep_slice_len (hm.ow_rep 5 rfl)
      exact gI st_26 dD (idx_lt2 al hL2_1) rfl (gY (yl isAgg3 ((flat_cells (cs := [(nV cT)]) (hm.ow_rep 5 rfl) al rfl).cell (j := 0) rfl) rfl) (gA rfl (gE (gRt (gEr dB (gLp b8 b7 (gr1 results39 rfl ⟨aV, aW, aX, rfl, hm.pk [0, 1, 2, 3] rfl rfl⟩)))))))
     refine gcf rfl (gS (gJ hm (fun bP => [(0, (pV bp0)), (1, (nV k_)), (7, (pV aM)), (8, (.slice aJ (copyL aA in_ 0 aA.length).length aK)), (9, (nV aD.2.2.2.2.2.2.2.2)), (10, (pV aU)), (88, (.bool (bP)))]) (fun bP => [blk bp0 [(sV aE aO r_.u.codes.length aG), aV, (nV aC.2.out.end_), (nV aC.2.out.value), aW, (nV aC.2.steps), (.bool (aC.2.over)), aX] 51, ow [aV] aC.2.out.said, ow [aW] aC.2.out.cells, ow [aX] aC.2.trace, blk aM [(nV aB.params), (nV aB.regs), (sV aQ aR aB.blocks.length aS)] 59, ow [(.slice aJ (copyL aA in_ 0 aA.length).length aK)] aL.2.2.2.2.2.2.2, blk aU [aT, (.slice cS aH.ins.length bt), (nV aH.jump), (nV aH.on), ao] 71]) (fun bP => ?_) ?_))
     ·
      refine gR (gF fo_71_2 rfl (gL hm 6 isAgg3 rfl (gB rfl (gM rfl (gsd 92 rfl (fun dF => ?_) fun dF => ?_)))))
      ·
       exact gO rfl (gO rfl (gO rfl (gO rfl (gO rfl (gO rfl (gKt rfl (gA rfl (gE (gz hm [0, 1, 2, 3, 4, 5, 6] rfl)))))))))
      refine gM rfl (gF fo_71_3 rfl (gL hm 6 isAgg3 rfl (gg fun dG dH bv => ?_)))
      obtain ⟨eS, eT, eU, he⟩ := idx_form (hm.ow_rep 5 rfl) bv
      obtain ⟨rfl, _, rfl⟩ := sl3 he
      have hL3_1 := rep_slice_len (hm.ow_rep 5 rfl)
      exact gI st_26 dH (idx_lt2 bv hL3_1) rfl (gY (yl isAgg3 ((flat_cells (cs := [(nV dG)]) (hm.ow_rep 5 rfl) bv rfl).cell (j := 0) rfl) rfl) (gB rfl (gKf rfl (gA rfl (gE (gz hm [0, 1, 2, 3, 4, 5, 6] rfl))))))
     repeat clear hm
     intro bP w hm
     refine gJ hm (fun bQ => [(0, (pV bp0)), (1, (nV k_)), (7, (pV aM)), (8, (.slice aJ (copyL aA in_ 0 aA.length).length aK)), (9, (nV aD.2.2.2.2.2.2.2.2)), (12, (nV bQ))]) (fun bQ => [blk bp0 [(sV aE aO r_.u.codes.length aG), aV, (nV aC.2.out.end_), (nV aC.2.out.value), aW, (nV aC.2.steps), (.bool (aC.2.over)), aX] 51, ow [aV] aC.2.out.said, ow [aW] aC.2.out.cells, ow [aX] aC.2.trace, blk aM [(nV aB.params), (nV aB.regs), (sV aQ aR aB.blocks.length aS)] 59, ow [(.slice aJ (copyL aA in_ 0 aA.length).length aK)] aL.2.2.2.2.2.2.2]) (fun bQ => ?_) ?_
     ·
      refine gs 88 rfl (fun dI => ?_) fun dI => ?_
      ·
       refine gct rfl (gR (gF fo_71_4 rfl (gL hm 6 isAgg26 rfl (gg fun dJ dK bw => ?_))))
       obtain ⟨eV, eW, eX, he⟩ := idx_form ar bw
       subst he
       exact gI st_26 dK (idx_lt bw) rfl (gY (yl isAgg3 ((flat_cells (cs := [(nV dJ)]) (hm.now ar) bw rfl).cell (j := 0) rfl) rfl) (gA rfl (gE (gz hm [0, 1, 2, 3, 4, 5] rfl))))
      refine gcf rfl (gR (gF fo_71_4 rfl (gL hm 6 isAgg26 rfl (gg fun dL dM bx => ?_))))
      obtain ⟨eY, eZ, ea, he⟩ := idx_form ar bx
      subst he
      exact gI st_26 dM (idx_lt bx) rfl (gY (yl isAgg3 ((flat_cells (cs := [(nV dL)]) (hm.now ar) bx rfl).cell (j := 0) rfl) rfl) (gA rfl (gE (gz hm [0, 1, 2, 3, 4, 5] rfl))))
     repeat clear hm
     intro bQ w hm
     exact gze hm [0, 1, 2, 3, 4, 5] rfl
    repeat clear hm
    intro bO w hm
    refine gS (gR (gM rfl (gY (yn (hm.blk_at 4 rfl) isAgg59 sizeOf59 rfl) (gM rfl (gM rfl (gM rfl ?_))))))
    obtain ⟨dN, hle, hm1, hsub, dO⟩ := hm.take2 (L1 := [ow [(.slice aJ (copyL aA in_ 0 aA.length).length aK)] aL.2.2.2.2.2.2.2]) (L2 := [blk bp0 [(sV aE aO r_.u.codes.length aG), aV, (nV aC.2.out.end_), (nV aC.2.out.value), aW, (nV aC.2.steps), (.bool (aC.2.over)), aX] 51, ow [aV] aC.2.out.said, ow [aW] aC.2.out.cells, ow [aX] aC.2.trace, blk aM [(nV aB.params), (nV aB.regs), (sV aQ aR aB.blocks.length aS)] 59]) [5] [0, 1, 2, 3, 4] (by decide) rfl rfl
    refine gCg rfl call61 (pspec_l8Run__phis_ok _ dN (⟨r_.u, aC.2.out, aC.2.steps, aC.2.over, aC.2.trace⟩ : l8Run) bp0 (sV aE aO r_.u.codes.length aG) (GT.mono hle h1p) aV (fz_ow (hsub 1 _ rfl)) aW (fz_ow (hsub 2 _ rfl)) aX (fz_ow (hsub 3 _ rfl)) (fz_blk (hsub 0 _ rfl)) aB (sV aQ aR aB.blocks.length aS) (GT.mono hle bM) aD.2.2.2.2.2.2.2.2 bO aL.2.2.2.2.2.2.2 (.slice aJ (copyL aA in_ 0 aA.length).length aK) hm1 ) ?_
    rintro ec bR ed w ⟨rfl, hB⟩
    replace hm := dO _ _ hB; clear hB
    exact gE (gR (gM rfl (gA rfl (gE (gZe fun a hf => ⟨aV, aW, aX, hf.sb rfl, hm.pk [1, 2, 3, 4, 5, 0] rfl rfl⟩)))))
  · intro rec_ ih_ r_ x_ regs r hq w0 hz bp0 v1p h1p v2p v3p v4p v1 h1 v2 hm0
    have pspec_l8Run__code_rec : ∀ (w0 : World) (hz : Heap) (r_ : l8Run) (bp0 : Nat) (v1p : Value) (h1p : GT.rep hz [v1p] r_.u.codes) (v2p : Value) (v3p : Value) (v4p : Value) (k_ : Int) (in_ : List Int) (v1 : Value) (h1 : GT.rep hz [v1] in_) (hm0 : Mem w0 hz w0 [blk bp0 [v1p, v2p, (nV r_.out.end_), (nV r_.out.value), v3p, (nV r_.steps), (.bool (r_.over)), v4p] 51, ow [v2p] r_.out.said, ow [v3p] r_.out.cells, ow [v4p] r_.trace]) (r : Int × l8Run) (hq : rec_ r_ k_ in_ = some r), Con Try.prog 39 [(pV bp0), (nV k_), v1] w0 (fun v w' => ∃ (x2 : Value) (x3 : Value) (x4 : Value), v = (nV r.1) ∧ Mem w0 hz w' [blk bp0 [v1p, x2, (nV r.2.out.end_), (nV r.2.out.value), x3, (nV r.2.steps), (.bool (r.2.over)), x4] 51, ow [x2] r.2.out.said, ow [x3] r.2.out.cells, ow [x4] r.2.trace]) := fun w0 hz r_ bp0 v1p h1p v2p v3p v4p k_ in_ v1 h1 hm0 r hq => ih_ r_ k_ in_ r hq w0 hz bp0 v1p h1p v2p v3p v4p v1 h1 hm0
    refine gconr (ρ := l8Run × (List Int)) (R := fun r v w' => ∃ (x2 : Value) (x3 : Value) (x4 : Value), v = (.tuple #[]) ∧ Mem w0 hz w' [blk bp0 [v1p, x2, (nV r.1.out.end_), (nV r.1.out.value), x3, (nV r.1.steps), (.bool (r.1.over)), x4] 51, ow [x2] r.1.out.said, ow [x3] r.1.out.cells, ow [x4] r.1.trace, ow [v2] r.2]) func60 rfl hq ?_
    have hm := hm0
    refine gS (gR (gBx hm rfl fun aE w hm => gE (gS (gR (gF fo_75_3 rfl (gL hm 0 isAgg3 rfl (gA rfl (gE (gS (gR (gA rfl (gE (gS (gS (gR (gF fo_75_2 rfl (gL hm 0 isAgg26 rfl ?_)))))))))))))))))
    obtain ⟨ab, aG, rfl, c8⟩ := ro_slice h1
    refine gY (yV st_26 rfl) (gB rfl (gE (gJ hm (fun ah => [(0, (pV bp0)), (2, v2), (4, (pV aE)), (6, (nV ah)), (7, (nV 0))]) (fun ah => [blk bp0 [v1p, v2p, (nV r_.out.end_), (nV r_.out.value), v3p, (nV r_.steps), (.bool (r_.over)), v4p] 51, ow [v2p] r_.out.said, ow [v3p] r_.out.cells, ow [v4p] r_.trace, ow [v2] regs, blk aE [(nV x_.op), (nV x_.to), (.slice ab x_.args.length aG), (nV x_.n_)] 75]) (fun ah => ?_) ?_)))
    ·
     refine gsd 18 rfl (fun b9 => ?_) fun b9 => ?_
     ·
      refine gct rfl (gR (gM rfl (gF fo_75_2 rfl (gL hm 0 isAgg26 rfl (gg fun aH ba an => ?_)))))
      obtain ⟨aQ, aR, aS, he⟩ := idx_form h1 an
      obtain ⟨rfl, _, rfl⟩ := sl3 he
      refine gI st_26 ba (idx_lt an) rfl (gY (yl isAgg3 ((flat_cells (cs := [(nV aH)]) (hm.now h1) an rfl).cell (j := 0) rfl) rfl) (gg fun dP aq bR => ?_))
      obtain ⟨aU, ee, cM, he⟩ := idx_form (hm.ow_rep 5 rfl) bR
      subst he
      exact gI st_26 aq (idx_lt bR) rfl (gY (yl isAgg3 ((flat_cells (cs := [(nV dP)]) (hm.ow_rep 5 rfl) bR rfl).cell (j := 0) rfl) rfl) (gA rfl (gE (gz hm [1, 2, 3, 4, 5, 0] rfl))))
     exact gcf rfl (gSk (gz hm [1, 2, 3, 4, 5, 0] rfl))
    repeat clear hm
    intro ah w hm
    refine gS (gS (gR (gF fo_75_2 rfl (gL hm 5 isAgg26 rfl (gY (yV st_26 rfl) (gB rfl (gE (gJ hm (fun am => [(0, (pV bp0)), (2, v2), (4, (pV aE)), (6, (nV ah)), (7, (nV am))]) (fun am => [blk bp0 [v1p, v2p, (nV r_.out.end_), (nV r_.out.value), v3p, (nV r_.steps), (.bool (r_.over)), v4p] 51, ow [v2p] r_.out.said, ow [v3p] r_.out.cells, ow [v4p] r_.trace, ow [v2] regs, blk aE [(nV x_.op), (nV x_.to), (.slice ab x_.args.length aG), (nV x_.n_)] 75]) (fun am => ?_) ?_))))))))
    ·
     refine gsd 29 rfl (fun ar => ?_) fun ar => ?_
     ·
      refine gct rfl (gR (gM rfl (gF fo_75_2 rfl (gL hm 5 isAgg26 rfl (gg fun dQ bu bz => ?_)))))
      obtain ⟨ef, eg, cN, he⟩ := idx_form h1 bz
      obtain ⟨rfl, _, rfl⟩ := sl3 he
      refine gI st_26 bu (idx_lt bz) rfl (gY (yl isAgg3 ((flat_cells (cs := [(nV dQ)]) (hm.now h1) bz rfl).cell (j := 0) rfl) rfl) (gg fun dR dS cA => ?_))
      obtain ⟨eh, ei, cO, he⟩ := idx_form (hm.ow_rep 4 rfl) cA
      subst he
      exact gI st_26 dS (idx_lt cA) rfl (gY (yl isAgg3 ((flat_cells (cs := [(nV dR)]) (hm.ow_rep 4 rfl) cA rfl).cell (j := 0) rfl) rfl) (gA rfl (gE (gz hm [0, 1, 2, 3, 4, 5] rfl))))
     exact gcf rfl (gSk (gz hm [0, 1, 2, 3, 4, 5] rfl))
    repeat clear hm
    intro am w hm
    refine gJge (fun ai a w => ∃ (av ay bS : Value), St 137 [] w0 hz [blk bp0 [v1p, av, (nV ai.2.1), (nV ai.2.2.1), ay, (nV ai.2.2.2.2.1), (.bool (ai.2.2.2.2.2.1)), bS] 51, ow [av] ai.1, ow [ay] ai.2.2.2.1, ow [bS] ai.2.2.2.2.2.2.1, ow [v2] ai.2.2.2.2.2.2.2] a w) (fun cJ dT => ?_) ?_
    ·
     refine gBk (gS (gR (gF fo_75_0 rfl (gL hm 5 isAgg3 rfl (gC hm rfl call85 (spec_l8Pure_ok _ x_.op) fun cm ej w hm => gA rfl (gE (gJge (fun aP a w => ∃ (aY ac aT : Value), St 137 [] w0 hz [blk bp0 [v1p, aY, (nV aP.2.1), (nV aP.2.2.1), ac, (nV aP.2.2.2.2.1), (.bool (aP.2.2.2.2.2.1)), aT] 51, ow [aY] aP.1, ow [ac] aP.2.2.2.1, ow [aT] aP.2.2.2.2.2.2.1, ow [v2] aP.2.2.2.2.2.2.2] a w) (fun bt dU => ?_) ?_)))))))
     ·
      refine gs 45 rfl (fun bd => ?_) fun bd => ?_
      ·
       refine gct rfl (gS (gR (gF fo_75_0 rfl (gL hm 5 isAgg3 rfl (gM rfl (gM rfl (gC hm rfl call86 (spec_l8Do_ok _ x_.op ah am) fun aN cL w hm => gM rfl (gX rfl (gX rfl (gA rfl (gA rfl (gE (gS (gS (gR (gM rfl (gB rfl (gE (gsd 58 rfl (fun be => ?_) fun be => ?_)))))))))))))))))))
       ·
        refine gct rfl (gS (gR (gM rfl (gM rfl ?_))))
        obtain ⟨bg, hle, hm1, hsub, bh⟩ := hm.take2 (L1 := [blk bp0 [v1p, v2p, (nV r_.out.end_), (nV r_.out.value), v3p, (nV r_.steps), (.bool (r_.over)), v4p] 51, ow [v2p] r_.out.said, ow [v3p] r_.out.cells, ow [v4p] r_.trace]) (L2 := [ow [v2] regs, blk aE [(nV x_.op), (nV x_.to), (.slice ab x_.args.length aG), (nV x_.n_)] 75]) [0, 1, 2, 3] [4, 5] (by decide) rfl rfl
        refine gCg rfl call84 (pspec_l8Run__stop_ok _ bg r_ bp0 v1p (GT.mono hle h1p) v2p v3p v4p aN.2 hm1 ) ?_
        rintro ek cq au w ⟨aj, ak, cQ, rfl, hB⟩
        replace hm := bh _ _ hB; clear hB
        exact gE (gRt (gEr dU (gEr dT (gr0 results60 ⟨aj, ak, cQ, rfl, hm.pk [0, 1, 2, 3, 4] rfl rfl⟩))))
       refine gcf rfl (gSk (gR (gM rfl (gF fo_75_1 rfl (gL hm 5 isAgg3 rfl (gM rfl (gg fun cT bo al => ?_)))))))
       obtain ⟨cf, dE, bN, he⟩ := idx_form (hm.ow_rep 4 rfl) al
       subst he
       refine gI st_26 bo (idx_lt al) rfl (gf0 rfl (fun a hf => e_setElem (x1 := aN.1) (j := 0) (vs := [(nV aN.1)]) 4 hf hm rfl al rfl sizeOf3 rfl rfl rfl (one_cons rfl one_nil) rfl rfl) ?_)
       rintro _ w hm
       have em := List.getElem?_set_self (a := aN.1) (idx_lt al)
       exact gE (gZe fun a hf => ⟨v2p, v3p, v4p, hf.sb rfl, hm.pk [0, 1, 2, 3, 4] rfl rfl⟩)
      refine gcf rfl (gS (gR (gF fo_75_0 rfl (gL hm 5 isAgg3 rfl (gB rfl (gA rfl (gE (gJg (fun aI a w => ∃ (ae af ag : Value), St 137 [] w0 hz [blk bp0 [v1p, ae, (nV aI.2.1), (nV aI.2.2.1), af, (nV aI.2.2.2.2.1), (.bool (aI.2.2.2.2.2.1)), ag] 51, ow [ae] aI.1, ow [af] aI.2.2.2.1, ow [ag] aI.2.2.2.2.2.2.1, ow [v2] aI.2.2.2.2.2.2.2] a w) (fun aI => ?_) ?_))))))))
      ·
       refine gsd 67 rfl (fun bi => ?_) fun bi => ?_
       ·
        refine gct rfl (gR (gM rfl (gM rfl (gY (yG rfl (y_nilptr rfl rfl)) (gF fo_51_1 rfl (gF fo_30_0 rfl (gL hm 0 isAgg26 rfl (gM rfl (gf rfl (fun a hf => e_build (vs := #[(0, (nV ah))]) (cs := [(nV ah)]) et_26 hf hm rfl rfl (by kernel_rfl) rfl rfl) ?_)))))))))
        rintro _ w ⟨cR, rfl, hm⟩
        replace hm := hm.lit (xs := ([ah] : List Int)) 0 rfl rfl rfl rfl
        refine gb fun en dV => ?_
        obtain ⟨bj, dW⟩ := appM_some.1 dV
        refine gf rfl (fun a hf => e_append 2 et_26 hf hm rfl (hm.ow_rep 0 rfl) rfl rfl rfl bj) ?_
        rintro bm w hm
        rw [dW] at hm
        exact gY (yG rfl (y_nilptr rfl rfl)) (gF fo_51_1 rfl (gF fo_30_0 rfl (gS1 hm 1 sizeOf26 (rep_one (hm.ow_rep 2 rfl)) rfl fun w hm => gE (gZ fun a hf => ⟨bm, v3p, v4p, hf.sb rfl, hm.pk [1, 2, 3, 4, 5] rfl rfl⟩))))
       refine gcf rfl (gS (gR (gF fo_75_0 rfl (gL hm 5 isAgg3 rfl (gB rfl (gA rfl (gE (gJg (fun aZ a w => ∃ (bD aw ax : Value), St 137 [] w0 hz [blk bp0 [v1p, bD, (nV aZ.2.1), (nV aZ.2.2.1), aw, (nV aZ.2.2.2.2.1), (.bool (aZ.2.2.2.2.2.1)), ax] 51, ow [bD] aZ.1, ow [aw] aZ.2.2.2.1, ow [ax] aZ.2.2.2.2.2.2.1, ow [v2] aZ.2.2.2.2.2.2.2] a w) (fun aZ => ?_) ?_))))))))
       ·
        refine gsd 83 rfl (fun dX => ?_) fun dX => ?_
        ·
         refine gct rfl (gS (gR (gf rfl (fun a hf => e_build0 (α := Int) et_26 hm rfl) ?_)))
         rintro ep w hm
         refine gA rfl (gE (gS (gS (gR (gA rfl (gE ?_))))))
         obtain ⟨bE, bF, rfl, et⟩ := ro_slice (hm.ow_rep 2 rfl)
         obtain ⟨bG, bH, rfl, eu⟩ := ro_slice (hm.ow_rep 3 rfl)
         obtain ⟨bJ, bK, rfl, ew⟩ := ro_slice (hm.ow_rep 4 rfl)
         obtain ⟨cB, cC, rfl, ey⟩ := ro_slice (hm.ow_rep 5 rfl)
         obtain ⟨dY, dZ, rfl, ez⟩ := ro_slice (hm.ow_rep 0 rfl)
         refine gBk (gNg (fun cU cV a w => ∃ (cD : Value), St 137 [(0, (pV bp0)), (2, (.slice cB regs.length cC)), (4, (pV aE)), (10, cD), (11, (nV cU))] w0 hz [blk bp0 [v1p, (.slice bE r_.out.said.length bF), (nV r_.out.end_), (nV r_.out.value), (.slice bG r_.out.cells.length bH), (nV r_.steps), (.bool (r_.over)), (.slice bJ r_.trace.length bK)] 51, ow [(.slice bE r_.out.said.length bF)] r_.out.said, ow [(.slice bG r_.out.cells.length bH)] r_.out.cells, ow [(.slice bJ r_.trace.length bK)] r_.trace, ow [(.slice cB regs.length cC)] regs, blk aE [(nV x_.op), (nV x_.to), (.slice ab x_.args.length aG), (nV x_.n_)] 75, ow [cD] cV] a w) (fun a hf => ⟨(.slice dY ([] : List Int).length dZ), hf.sb rfl, hm.pk [1, 2, 3, 4, 5, 6, 0] rfl rfl⟩) ?_ ?_)
         ·
          repeat clear hm
          rintro _ _ cU cV a w ⟨cD, hf, hm⟩ fA fB fC _
          refine gv hf (gS (gS (gR (gM rfl (gF fo_75_2 rfl (gL hm 5 isAgg26 rfl (gY (yV st_26 rfl) (gB rfl (gE (go _ 92 rfl (decide_eq_true (by omega)) (gct rfl (gSk (gS (gBk (gR (gM rfl (gM rfl (gF fo_75_2 rfl (gL hm 5 isAgg26 rfl (gM rfl (gg fun d1 d2 cE => ?_)))))))))))))))))))))
          obtain ⟨fD, fE, fF, he⟩ := idx_form h1 cE
          obtain ⟨rfl, _, rfl⟩ := sl3 he
          refine gI st_26 d2 (idx_lt cE) rfl (gY (yl isAgg3 ((flat_cells (cs := [(nV d1)]) (hm.now h1) cE rfl).cell (j := 0) rfl) rfl) (gg fun bT d3 cF => ?_))
          obtain ⟨fG, fH, fI, he⟩ := idx_form (hm.ow_rep 4 rfl) cF
          obtain ⟨rfl, _, rfl⟩ := sl3 he
          refine gI st_26 d3 (idx_lt cF) rfl (gY (yl isAgg3 ((flat_cells (cs := [(nV bT)]) (hm.ow_rep 4 rfl) cF rfl).cell (j := 0) rfl) rfl) (gf rfl (fun a hf => e_build (vs := #[(0, (nV bT))]) (cs := [(nV bT)]) et_26 hf hm rfl rfl (by kernel_rfl) rfl rfl) ?_))
          rintro _ w ⟨fJ, rfl, hm⟩
          replace hm := hm.lit (xs := ([bT] : List Int)) 0 rfl rfl rfl rfl
          refine gb fun fK d4 => ?_
          obtain ⟨d5, d6⟩ := appM_some.1 d4
          refine gf rfl (fun a hf => e_append 7 et_26 hf hm rfl (hm.ow_rep 0 rfl) rfl rfl rfl d5) ?_
          rintro d7 w hm
          rw [d6] at hm
          exact gA rfl (gE (gR (gM rfl (gP (by omega) (by omega) rfl (gA rfl (gE (gZe fun a hf => ⟨d7, hf.sb rfl, hm.pk [1, 2, 3, 4, 5, 6, 7] rfl rfl⟩)))))))
         repeat clear hm
         rintro fL cW a w ⟨cX, hf, hm⟩ fM fN
         refine gv hf (gS (gS (gR (gM rfl (gF fo_75_2 rfl (gL hm 5 isAgg26 rfl (gY (yV st_26 rfl) (gB rfl (gE (go _ 92 rfl (decide_eq_false (by omega)) (gcf rfl (gXt (gHh (gS (gR (gM rfl (gF fo_75_3 rfl (gL hm 5 isAgg3 rfl (gM rfl ?_)))))))))))))))))))
         obtain ⟨d8, hle, hm1, hsub, d9⟩ := hm.take2 (L1 := [blk bp0 [v1p, (.slice bE r_.out.said.length bF), (nV r_.out.end_), (nV r_.out.value), (.slice bG r_.out.cells.length bH), (nV r_.steps), (.bool (r_.over)), (.slice bJ r_.trace.length bK)] 51, ow [(.slice bE r_.out.said.length bF)] r_.out.said, ow [(.slice bG r_.out.cells.length bH)] r_.out.cells, ow [(.slice bJ r_.trace.length bK)] r_.trace]) (L2 := [ow [(.slice cB regs.length cC)] regs, blk aE [(nV x_.op), (nV x_.to), (.slice ab x_.args.length aG), (nV x_.n_)] 75, ow [cX] cW]) [0, 1, 2, 3] [4, 5, 6] (by decide) rfl rfl
         refine gCg rfl call39 (pspec_l8Run__code_rec _ d8 r_ bp0 v1p (GT.mono hle h1p) (.slice bE r_.out.said.length bF) (.slice bG r_.out.cells.length bH) (.slice bJ r_.trace.length bK) x_.n_ cW cX (fz_ow (hsub 2 _ rfl)) hm1 ) ?_
         rintro cG fO fP w ⟨da, db, dc, rfl, hB⟩
         replace hm := d9 _ _ hB; clear hB
         refine gA rfl (gE (gR (gM rfl (gF fo_75_1 rfl (gL hm 5 isAgg3 rfl (gM rfl (gg fun fQ dd bU => ?_)))))))
         obtain ⟨fR, fS, fT, he⟩ := idx_form (hm.ow_rep 4 rfl) bU
         obtain ⟨rfl, _, rfl⟩ := sl3 he
         refine gI st_26 dd (idx_lt bU) rfl (gf0 rfl (fun a hf => e_setElem (x1 := cG.1) (j := 0) (vs := [(nV cG.1)]) 4 hf hm rfl bU rfl sizeOf3 rfl rfl rfl (one_cons rfl one_nil) rfl rfl) ?_)
         rintro _ w hm
         have fU := List.getElem?_set_self (a := cG.1) (idx_lt bU)
         exact gE (gZ fun a hf => ⟨da, db, dc, hf.sb rfl, hm.pk [0, 1, 2, 3, 4] rfl rfl⟩)
        refine gcf rfl (gS (gR (gM rfl (gB rfl (gA rfl (gE (gJg (fun aa a w => ∃ (bV bW bX : Value), St 137 [] w0 hz [blk bp0 [v1p, bV, (nV aa.2.1), (nV aa.2.2.1), bW, (nV aa.2.2.2.2.1), (.bool (aa.2.2.2.2.2.1)), bX] 51, ow [bV] aa.1, ow [bW] aa.2.2.2.1, ow [bX] aa.2.2.2.2.2.2.1, ow [v2] aa.2.2.2.2.2.2.2] a w) (fun aa => ?_) ?_)))))))
        ·
         refine gsd 116 rfl (fun de => ?_) fun de => ?_
         ·
          refine gct rfl (gR (gM rfl ?_))
          obtain ⟨df, hle, hm1, hsub, dg⟩ := hm.take2 (L1 := [blk bp0 [v1p, v2p, (nV r_.out.end_), (nV r_.out.value), v3p, (nV r_.steps), (.bool (r_.over)), v4p] 51, ow [v2p] r_.out.said, ow [v3p] r_.out.cells, ow [v4p] r_.trace]) (L2 := [ow [v2] regs, blk aE [(nV x_.op), (nV x_.to), (.slice ab x_.args.length aG), (nV x_.n_)] 75]) [0, 1, 2, 3] [4, 5] (by decide) rfl rfl
          refine gCg rfl call84 (pspec_l8Run__stop_ok _ df r_ bp0 v1p (GT.mono hle h1p) v2p v3p v4p 2 hm1 ) ?_
          rintro fV fW fX w ⟨dh, di, dk, rfl, hB⟩
          replace hm := dg _ _ hB; clear hB
          exact gE (gZ fun a hf => ⟨dh, di, dk, hf.sb rfl, hm.pk [0, 1, 2, 3, 4] rfl rfl⟩)
         refine gcf rfl (gS (gR (gF fo_75_0 rfl (gL hm 5 isAgg3 rfl (gB rfl (gA rfl (gE (gJ hm (fun bL => []) (fun bL => [blk bp0 [v1p, v2p, (nV r_.out.end_), (nV r_.out.value), v3p, (nV r_.steps), (.bool (r_.over)), v4p] 51, ow [v2p] r_.out.said, ow [v3p] bL.1, ow [v4p] r_.trace, ow [v2] bL.2]) (fun bL => ?_) ?_))))))))
         ·
          refine gsd 121 rfl (fun dl => ?_) fun dl => ?_
          ·
           refine gct rfl (gW (.p 0 (.p 1 (.p 3 (.p 4 (.p 5 (.p 6 (.p 8 (.q 2 (.e 7 (.p 9 (.e 10 (.p 11 (.e 12 .fin .nil)) .nil)) .nil))))))))) [7, 10] [0, 1, 3, 4, 5, 6, 8, 9, 11] hm [0, 1, 2, 3, 4, 5] [blk bp0 [v1p, v2p, (nV r_.out.end_), (nV r_.out.value), v3p, (nV r_.steps), (.bool (r_.over)), v4p] 51, ow [v2p] r_.out.said, ow [v3p] r_.out.cells, ow [v4p] r_.trace, ow [v2] regs, blk aE [(nV x_.op), (nV x_.to), (.slice ab x_.args.length aG), (nV x_.n_)] 75] rfl mxo (by kernel_rfl) (fun _ _ _ h => h.2) fun w hm hS => tP rfl (fun w => yM rfl) (tP rfl (fun w => yF fo_75_1 rfl) (tP rfl (fun w => yM rfl) (tP rfl (fun w => yG rfl (y_nilptr rfl rfl)) (tP rfl (fun w => yF fo_51_1 rfl) (tP rfl (fun w => yF fo_30_3 rfl) (tP rfl (fun w => yM rfl) (tQ rfl hS (fun w hm => yL hm 5 isAgg3 rfl) (tO (tY rfl (yL hm 0 isAgg26 rfl) (tAs hS (gg fun bY dm cH => ?_))))))))))))
           obtain ⟨fY, fZ, f4, he⟩ := idx_form (hm.ow_rep 2 rfl) cH
           subst he
           refine tP rfl (fun w => yI st_26 dm (idx_lt cH) rfl) (tO (tY rfl (yl isAgg3 ((flat_cells (cs := [(nV bY)]) (hm.ow_rep 2 rfl) cH rfl).cell (j := 0) rfl) rfl) (tAs hS (gg fun f5 dp bZ => ?_))))
           obtain ⟨f6, f7, f8, he⟩ := idx_form (hm.ow_rep 4 rfl) bZ
           subst he
           refine tP rfl (fun w => yI st_26 dp (idx_lt bZ) rfl) (tO (tf0 rfl rfl (fun a hf => e_setElem (x1 := bY) (j := 0) (vs := [(nV bY)]) 4 hf hm rfl bZ rfl sizeOf3 rfl rfl rfl (one_cons rfl one_nil) rfl rfl) ?_))
           rintro _ w hm
           have f9 := List.getElem?_set_self (a := bY) (idx_lt bZ)
           exact tAn rfl (tE (gz hm [0, 1, 2, 3, 4] rfl))
          refine gcf rfl (gR (gM rfl (gY (yG rfl (y_nilptr rfl rfl)) (gF fo_51_1 rfl (gF fo_30_3 rfl (gL hm 0 isAgg26 rfl (gM rfl (gM rfl (gg fun fa dq b5 => ?_)))))))))
          obtain ⟨fb, fc, fd, he⟩ := idx_form (hm.ow_rep 2 rfl) b5
          subst he
          refine gI st_26 dq (idx_lt b5) rfl (gf0 rfl (fun a hf => e_setElem (x1 := am) (j := 0) (vs := [(nV am)]) 2 hf hm rfl b5 rfl sizeOf3 rfl rfl rfl (one_cons rfl one_nil) rfl rfl) ?_)
          rintro _ w hm
          have fe := List.getElem?_set_self (a := am) (idx_lt b5)
          exact gE (gz hm [0, 1, 2, 3, 4] rfl)
         repeat clear hm
         intro bL w hm
         exact gZ fun a hf => ⟨v2p, v3p, v4p, hf.sb rfl, hm.pk [0, 1, 2, 3, 4] rfl rfl⟩
        repeat clear hm
        rintro aa a w ⟨bV, bW, bX, hf, hm⟩
        exact gv hf (gZ fun a hf => ⟨bV, bW, bX, hf.sb rfl, hm.pk [0, 1, 2, 3, 4] rfl rfl⟩)
       repeat clear hm
       rintro aZ a w ⟨bD, aw, ax, hf, hm⟩
       exact gv hf (gZ fun a hf => ⟨bD, aw, ax, hf.sb rfl, hm.pk [0, 1, 2, 3, 4] rfl rfl⟩)
      repeat clear hm
      rintro aI a w ⟨ae, af, ag, hf, hm⟩
      exact gv hf (gZe fun a hf => ⟨ae, af, ag, hf.sb rfl, hm.pk [0, 1, 2, 3, 4] rfl rfl⟩)
     repeat clear hm
     rintro aP a w ⟨aY, ac, aT, hf, hm⟩
     exact gv hf (gZe fun a hf => ⟨aY, ac, aT, hf.sb rfl, hm.pk [0, 1, 2, 3, 4] rfl rfl⟩)
    repeat clear hm
    rintro ai a w ⟨av, ay, bS, hf, hm⟩
    exact gv hf (gre results60 ⟨av, ay, bS, rfl, hm.pk [0, 1, 2, 3, 4] rfl rfl⟩)
theorem pspec_l8Run__code_ok (w0 : World) (hz : Heap) (r_ : l8Run) (bp0 : Nat) (v1p : Value) (h1p : GT.rep hz [v1p] r_.u.codes) (v2p : Value) (v3p : Value) (v4p : Value) (k_ : Int) (in_ : List Int) (v1 : Value) (h1 : GT.rep hz [v1] in_) (hm0 : Mem w0 hz w0 [blk bp0 [v1p, v2p, (nV r_.out.end_), (nV r_.out.value), v3p, (nV r_.steps), (.bool (r_.over)), v4p] 51, ow [v2p] r_.out.said, ow [v3p] r_.out.cells, ow [v4p] r_.trace]) (r : Int × l8Run) (hq : pspec_l8Run__code r_ k_ in_ = some r) : Con Try.prog 39 [(pV bp0), (nV k_), v1] w0 (fun v w' => ∃ (x2 : Value) (x3 : Value) (x4 : Value), v = (nV r.1) ∧ Mem w0 hz w' [blk bp0 [v1p, x2, (nV r.2.out.end_), (nV r.2.out.value), x3, (nV r.2.steps), (.bool (r.2.over)), x4] 51, ow [x2] r.2.out.said, ow [x3] r.2.out.cells, ow [x4] r.2.trace]) := pspec_l8Run__code_all.1 r_ k_ in_ r hq w0 hz bp0 v1p h1p v2p v3p v4p v1 h1 hm0
theorem spec_l8Start_ok (w0 : World) (hz : Heap) (hle0 : Heap.le hz (hp w0)) (u : Unit_) (v1 : Value) (h1 : GT.rep hz [v1] u.codes) (in_ : List Int) (v2 : Value) (h2 : GT.rep hz [v2] in_) (steps : Int) :
    ConM Try.prog 21 [(.agg #[v1]), v2, (nV steps)] w0 (spec_l8Start u in_ steps) fun r v w' => ∃ (b1 : Nat) (x2 : Value) (x3 : Value) (x4 : Value) (x5 : Value) (hz2 : Heap), v = (pV b1) ∧ Heap.le hz hz2 ∧ GT.rep hz2 [x2] r.u.codes ∧ Mem w0 hz2 w' [junk w0 hz, blk b1 [x2, x3, (nV r.out.end_), (nV r.out.value), x4, (nV r.steps), (.bool (r.over)), x5] 51, ow [x3] r.out.said, ow [x4] r.out.cells, ow [x5] r.trace] := by
  unfold spec_l8Start
  refine gcon func21 rfl fun r => ?_
  have hm := Mem.startA hle0
  refine gS (gR (gBx hm rfl fun aQ w hm => gA rfl (gE (gS (gJg (fun aF a w => ∃ (aB : Nat) (aC aD : Value), St 34 [(1, v2), (3, (pV aQ)), (7, (pV aB))] w0 hz [blk aQ [v1] 25, blk aB [v1, aC, (nV 0), (nV 0), aD, (nV steps), (.bool (false)), (.slice none 0 0)] 51, ow [aC] ([] : List Int), ow [aD] aF, junk w0 hz] a w) (fun aF => ?_) ?_)))))
  ·
   refine gW (.p 1 (.q 0 (.e 2 (.e 3 (.p 4 (.p 5 (.e 6 (.p 7 .fin) .nil))) .nil) (.e 3 (.e 2 (.p 4 (.p 5 (.e 6 (.p 7 .fin) .nil))) .nil) .nil)))) [2, 3] [1, 4, 5, 7] hm [0, 1] [blk aQ [v1] 25, junk w0 hz] rfl mxo (by kernel_rfl) (fun _ _ _ h => h.2) fun w hm hS => tP rfl (fun w => yM rfl) (tQ rfl hS (fun w hm => yn (hm.blk_at 0 rfl) isAgg25 sizeOf25 rfl) (gb fun aA aV => tMo ?_ ?_))
   ·
    refine tf rfl rfl (fun a hf => e_build0 (α := Int) et_26 hm rfl) ?_
    rintro am w hm
    refine tAk hm [1, 2] rfl fun hS => tO ?_
    obtain ⟨⟨ac, ae⟩, aW⟩ := makeM_some.1 aV
    refine tf rfl rfl (fun a hf => e_make (x0 := (0 : Int)) et_26 (fun _ => (Flat.own_iff.2 rfl)) hf hm rfl rfl rfl ac (Int.le_refl _) ae) ?_
    rintro an w hm
    rw [aW] at hm
    have h1_1l : (aA.length : Int) = 16 := by rw [← aW]; simp only [List.length_replicate]; omega
    refine tAk hm [2, 3] rfl fun hS => ?_
    obtain ⟨aG, aH, rfl, ao⟩ := ro_slice (hm.ow_rep 1 rfl)
    obtain ⟨aI, aJ, rfl, aq⟩ := ro_slice (hm.ow_rep 0 rfl)
    refine tP rfl (fun w => yG rfl (y_build (vs := [(0, (.slice aG ([] : List Int).length aH)), (3, (.slice aI aA.length aJ))]) (cs := #[(.slice aG ([] : List Int).length aH), (nV 0), (nV 0), (.slice aI aA.length aJ)]) rfl rfl (by kernel_rfl))) ?_
    obtain ⟨aX, aY, rfl, ar⟩ := ro_slice h1
    refine tP rfl (fun w => yG rfl (y_build (vs := [(0, (.agg #[(.slice aX u.codes.length aY)])), (2, (nV steps)), (1, (.agg #[(.slice aG ([] : List Int).length aH), (nV 0), (nV 0), (.slice aI aA.length aJ)]))]) (cs := #[(.slice aX u.codes.length aY), (.slice aG ([] : List Int).length aH), (nV 0), (nV 0), (.slice aI aA.length aJ), (nV steps), (.bool (false)), (.slice none 0 0)]) rfl rfl (by kernel_rfl))) (tO (tf rfl rfl (fun a hf => e_box hf hm rfl rfl rfl) ?_))
    rintro _ w ⟨af, rfl, hm⟩
    exact tAn rfl (tP rfl (fun w => yA rfl) (tE (gZ fun a hf => ⟨af, (.slice aG ([] : List Int).length aH), (.slice aI aA.length aJ), hf.sb rfl, hm.pk [3, 0, 2, 1, 4] rfl rfl⟩)))
   refine tO ?_
   obtain ⟨⟨ag, ah⟩, aZ⟩ := makeM_some.1 aV
   refine tf rfl rfl (fun a hf => e_make (x0 := (0 : Int)) et_26 (fun _ => (Flat.own_iff.2 rfl)) hf hm rfl rfl rfl ag (Int.le_refl _) ah) ?_
   rintro au w hm
   rw [aZ] at hm
   have h1_2l : (aA.length : Int) = 16 := by rw [← aZ]; simp only [List.length_replicate]; omega
   refine tAk hm [1, 2] rfl fun hS => tO (tf rfl rfl (fun a hf => e_build0 (α := Int) et_26 hm rfl) ?_)
   rintro av w hm
   refine tAk hm [2, 3] rfl fun hS => ?_
   obtain ⟨aK, aL, rfl, aw⟩ := ro_slice (hm.ow_rep 0 rfl)
   obtain ⟨aM, aN, rfl, ax⟩ := ro_slice (hm.ow_rep 1 rfl)
   refine tP rfl (fun w => yG rfl (y_build (vs := [(0, (.slice aK ([] : List Int).length aL)), (3, (.slice aM aA.length aN))]) (cs := #[(.slice aK ([] : List Int).length aL), (nV 0), (nV 0), (.slice aM aA.length aN)]) rfl rfl (by kernel_rfl))) ?_
   obtain ⟨aa, ab, rfl, ay⟩ := ro_slice h1
   refine tP rfl (fun w => yG rfl (y_build (vs := [(0, (.agg #[(.slice aa u.codes.length ab)])), (2, (nV steps)), (1, (.agg #[(.slice aK ([] : List Int).length aL), (nV 0), (nV 0), (.slice aM aA.length aN)]))]) (cs := #[(.slice aa u.codes.length ab), (.slice aK ([] : List Int).length aL), (nV 0), (nV 0), (.slice aM aA.length aN), (nV steps), (.bool (false)), (.slice none 0 0)]) rfl rfl (by kernel_rfl))) (tO (tf rfl rfl (fun a hf => e_box hf hm rfl rfl rfl) ?_))
   rintro _ w ⟨ai, rfl, hm⟩
   exact tAn rfl (tP rfl (fun w => yA rfl) (tE (gZ fun a hf => ⟨ai, (.slice aK ([] : List Int).length aL), (.slice aM aA.length aN), hf.sb rfl, hm.pk [3, 0, 1, 2, 4] rfl rfl⟩)))
  repeat clear hm
  rintro aF a w ⟨aB, aC, aD, hf, hm⟩
  refine gv hf (gS (gR (gM rfl (gF fo_25_0 rfl (gL hm 0 isAgg23 rfl ?_)))))
  obtain ⟨aO, aP, rfl, az⟩ := ro_slice h1
  refine gY (yV st_23 rfl) (gY (yS (by omega) (by omega) rfl) (gM rfl ?_))
  replace hm := hm.nilow (α := Int)
  obtain ⟨aj, hle, hm1, hsub, ak⟩ := hm.take2 (L1 := [blk aB [(.slice aO u.codes.length aP), aC, (nV 0), (nV 0), aD, (nV steps), (.bool (false)), (.slice none 0 0)] 51, ow [aC] ([] : List Int), ow [aD] aF, ow [(.slice none 0 0)] ([] : List Int)]) (L2 := [blk aQ [(.slice aO u.codes.length aP)] 25, junk w0 hz]) [2, 3, 4, 0] [1, 5] (by decide) rfl rfl
  refine gCg rfl call39 (pspec_l8Run__code_ok _ aj (⟨u, (⟨([] : List Int), 0, 0, aF⟩ : Outcome_), steps, false, ([] : List Int)⟩ : l8Run) aB (.slice aO u.codes.length aP) (GT.mono hle h1) aC aD (.slice none 0 0) (((u.codes.length : Int)) - 1) in_ v2 (GT.mono hle h2) hm1 ) ?_
  rintro aE bA bB w ⟨aS, aT, aU, rfl, hB⟩
  replace hm := ak _ _ hB; clear hB
  refine gA rfl (gE (gS (gS (gR (gM rfl (gY (yG rfl (y_nilptr rfl rfl)) (gF fo_51_3 rfl (gL hm 0 isAgg4 rfl (gN rfl (gE (gJ hm (fun aR => [(7, (pV aB))]) (fun aR => [blk aB [(.slice aO u.codes.length aP), aS, (nV aE.2.out.end_), (nV aR), aT, (nV aE.2.steps), (.bool (aE.2.over)), aU] 51, ow [aS] aE.2.out.said, ow [aT] aE.2.out.cells, ow [aU] aE.2.trace, junk w0 hz]) (fun aR => ?_) ?_)))))))))))
  ·
   refine gsn 27 rfl (fun al => ?_) fun al => ?_
   ·
    exact gct rfl (gR (gM rfl (gM rfl (gY (yG rfl (y_nilptr rfl rfl)) (gF fo_51_1 rfl (gF fo_30_2 rfl (gS1 hm 0 sizeOf3 rfl rfl fun w hm => gE (gz hm [0, 1, 2, 3, 5] rfl))))))))
   exact gcf rfl (gSk (gz hm [0, 1, 2, 3, 5] rfl))
  repeat clear hm
  intro aR w hm
  exact gS (gR (gM rfl (gA rfl (gE (gRt (gr1 results21 rfl ⟨aB, (.slice aO u.codes.length aP), aS, aT, aU, hz, rfl, (Heap.le_refl _), h1, hm.pk [4, 0, 1, 2, 3] rfl rfl⟩))))))
theorem spec_RunUnit_ok (w0 : World) (u : Unit_) (v1 : Value) (h1 : GT.rep (hp w0) [v1] u.codes) (in_ : List Int) (v2 : Value) (h2 : GT.rep (hp w0) [v2] in_) (steps : Int) :
    ConM Try.prog 6 [(.agg #[v1]), v2, (nV steps)] w0 (spec_RunUnit u in_ steps) fun r v w' => ∃ (x1 : Value) (x2 : Value), v = (.tuple #[(.agg #[x1, (nV r.1.end_), (nV r.1.value), x2]), (.bool (r.2))]) ∧ Mem w0 (hp w0) w' [ow [x1] r.1.said, ow [x2] r.1.cells] := by
  unfold spec_RunUnit
  refine gcon func6 rfl fun r => ?_
  have hm := Mem.start w0
  refine gS (gR (gBx hm rfl fun aB w hm => gAl hm zeroValue30 rfl fun aC w hm => gA rfl (gE (gS (gS (gJ hm (fun aA => [(1, v2), (2, (nV steps)), (3, (pV aB)), (6, (pV aC)), (16, (.bool (aA)))]) (fun aA => [blk aB [v1] 25, blk aC [(.slice none 0 0), (nV 0), (nV 0), (.slice none 0 0)] 30]) (fun aA => ?_) ?_))))))
  ·
   refine gR (gY (yn (hm.blk_at 1 rfl) isAgg25 sizeOf25 rfl) (gM rfl (gC hm rfl call19 (spec_l8Fits_ok _ u v1 (hm.now h1) in_ v2 (hm.now h2)) fun aJ aK w hm => gN rfl (gM rfl (gsn 12 rfl (fun aH => ?_) fun aH => ?_)))))
   ·
    exact gO rfl (gO rfl (gO rfl (gKt rfl (gE (gz hm [1, 0] rfl)))))
   exact gM rfl (gC hm rfl call20 (spec_l1In_ok _ steps 0 60000) fun aL aM w hm => gN rfl (gKf rfl (gE (gz hm [1, 0] rfl))))
  repeat clear hm
  intro aA w hm
  refine gs 16 rfl (fun aI => ?_) fun aI => ?_
  ·
   refine gct rfl (gS (gR (gY (yG rfl (y_build (vs := []) (cs := #[(.slice none 0 0), (nV 0), (nV 0), (.slice none 0 0)]) rfl rfl (by kernel_rfl))) (gSN hm 1 sizeOf30 (one_cons rfl (one_cons rfl (one_cons rfl (one_cons rfl one_nil)))) rfl fun w hm => gA rfl (gE (gRt ?_))))))
   replace hm := hm.nilow (α := Int)
   replace hm := hm.nilow (α := Int)
   exact grct 3 results6 hm rfl isAgg30 sizeOf30 ⟨(.slice none 0 0), (.slice none 0 0), rfl, hm.pk [1, 0] rfl rfl⟩
  refine gcf rfl (gSk (gS (gR (gY (yn (hm.blk_at 0 rfl) isAgg25 sizeOf25 rfl) (gM rfl (gM rfl (gCg rfl call21 (spec_l8Start_ok _ _ hm.lez u v1 h1 in_ v2 h2 steps ) ?_)))))))
  rintro aD aN aO w ⟨aP, aQ, aE, aF, aR, aS, rfl, aG, aT, hB⟩
  replace hm := Mem.giveA hm aG hB; clear hB
  refine gY (yG rfl (y_nilptr rfl rfl)) (gF fo_51_1 rfl (gY (yn (cs := [aE, (nV aD.out.end_), (nV aD.out.value), aF]) (hm.blk_part (i := 1) 0 rfl rfl) isAgg30 sizeOf30 rfl) (gSN hm 5 sizeOf30 (one_cons (rep_one (hm.ow_rep 1 rfl)) (one_cons rfl (one_cons rfl (one_cons (rep_one (hm.ow_rep 2 rfl)) one_nil)))) rfl fun w hm => gA rfl (gE (gRt ?_)))))
  replace hm := hm.thaw aG
  exact grct 5 results6 hm rfl isAgg30 sizeOf30 ⟨aE, aF, rfl, hm.pk [1, 2] rfl rfl⟩
theorem spec_l5Ints_ok (w0 : World) (a_ : List Int) (v1 : Value) (h1 : GT.rep (hp w0) [v1] a_) (b_ : List Int) (v2 : Value) (h2 : GT.rep (hp w0) [v2] b_) :
    ConM Try.prog 22 [v1, v2] w0 (spec_l5Ints a_ b_) fun r v w' => v = (.bool (r)) ∧ Below w0.heap.size w0 w' := by
  unfold spec_l5Ints
  refine gcon func22 rfl fun r => ?_
  have hm := Mem.start w0
  refine gS (gR (gA rfl (gE (gS (gS (gR (gM rfl ?_)))))))
  obtain ⟨aE, aF, rfl, aQ⟩ := ro_slice h1
  refine gY (yV st_26 rfl) (gM rfl ?_)
  obtain ⟨aG, aH, rfl, aR⟩ := ro_slice h2
  refine gY (yV st_26 rfl) (gB rfl (gE (gsd 10 rfl (fun aI => ?_) fun aI => ?_)))
  ·
   exact gct rfl (gS (gR (gA rfl (gE (gRt (gr1 results22 rfl ⟨rfl, hm.below⟩))))))
  refine gcf rfl (gSk (gS (gS (gR (gA rfl (gE (gBk (gNf hm (fun aA aD => [(0, (.slice aE a_.length aF)), (1, (.slice aG b_.length aH)), (5, (nV aA))]) (fun aA aD => []) [] rfl ?_ ?_))))))))
  ·
   repeat clear hm
   intro aS aJ aA aD w hm aT aU aV aK
   refine gS (gS (gR (gM rfl (gM rfl (gY (yV st_26 rfl) (gB rfl (gE (go _ 14 rfl (decide_eq_true (by omega)) (gct rfl (gSk (gS (gBk (gS (gW (.p 0 (.p 1 (.p 2 (.p 4 (.p 5 (.p 6 (.q 3 (.e 7 (.p 8 .fin) .nil)))))))) [7] [0, 1, 2, 4, 5, 6, 8] hm [] [] rfl mxo (by kernel_rfl) (fun _ _ _ h => h.2) fun w hm hS => tP rfl (fun w => yM rfl) (tP rfl (fun w => yM rfl) (gg fun aL aM aB => ?_))))))))))))))))
   obtain ⟨aW, aX, aY, he⟩ := idx_form h1 aB
   obtain ⟨rfl, _, rfl⟩ := sl3 he
   refine tP rfl (fun w => yI st_26 aM (idx_lt aB) rfl) (tP rfl (fun w => yM rfl) (tP rfl (fun w => yM rfl) (gg fun aN aO aC => ?_)))
   obtain ⟨aZ, aa, ab, he⟩ := idx_form h2 aC
   obtain ⟨rfl, _, rfl⟩ := sl3 he
   refine tP rfl (fun w => yI st_26 aO (idx_lt aC) rfl) (tQ rfl hS (fun w hm => yl isAgg3 ((flat_cells (cs := [(nV aL)]) (hm.now h1) aB rfl).cell (j := 0) rfl) rfl) (tO (tY rfl (yl isAgg3 ((flat_cells (cs := [(nV aN)]) (hm.now h2) aC rfl).cell (j := 0) rfl) rfl) (tAs hS (tP rfl (fun w => yB rfl) (tE (gsd 25 rfl (fun aP => ?_) fun aP => ?_)))))))
   ·
    exact gct rfl (gS (gR (gA rfl (gE (gRt (gLr aK aJ (gr1 results22 rfl ⟨rfl, hm.below⟩)))))))
   exact gcf rfl (gSk (gR (gM rfl (gP (by omega) (by omega) rfl (gA rfl (gE (gze hm [] rfl)))))))
  repeat clear hm
  intro ac ae w hm af ag
  exact gS (gS (gR (gM rfl (gM rfl (gY (yV st_26 rfl) (gB rfl (gE (go _ 14 rfl (decide_eq_false (by omega)) (gcf rfl (gXt (gHh (gS (gR (gA rfl (gE (gRt (gr1 results22 rfl ⟨rfl, hm.below⟩)))))))))))))))))
theorem spec_SameOutcome_ok (w0 : World) (a_ : Outcome_) (v1 : Value) (h1 : GT.rep (hp w0) [v1] a_.said) (v2 : Value) (h2 : GT.rep (hp w0) [v2] a_.cells) (b_ : Outcome_) (v3 : Value) (h3 : GT.rep (hp w0) [v3] b_.said) (v4 : Value) (h4 : GT.rep (hp w0) [v4] b_.cells) :
    ConM Try.prog 7 [(.agg #[v1, (nV a_.end_), (nV a_.value), v2]), (.agg #[v3, (nV b_.end_), (nV b_.value), v4])] w0 (spec_SameOutcome a_ b_) fun r v w' => v = (.bool (r)) ∧ Below w0.heap.size w0 w' := by
  unfold spec_SameOutcome
  refine gcon func7 rfl fun r => ?_
  have hm := Mem.start w0
  refine gS (gR (gBx hm rfl fun aE w hm => gBx hm rfl fun aF w hm => gA rfl (gE (gS (gJ hm (fun aA => [(4, (.bool (aA)))]) (fun aA => []) (fun aA => ?_) ?_)))))
  ·
   refine gR (gF fo_30_0 rfl (gL hm 1 isAgg26 rfl (gF fo_30_0 rfl (gL hm 0 isAgg26 rfl (gC hm rfl call22 (spec_l5Ints_ok _ a_.said v1 (hm.now h1) b_.said v3 (hm.now h3)) fun aG aH w hm => gM rfl (gs 10 rfl (fun aB => ?_) fun aB => ?_))))))
   ·
    refine gF fo_30_1 rfl (gL hm 1 isAgg3 rfl (gF fo_30_1 rfl (gL hm 0 isAgg3 rfl (gB rfl (gKt rfl (gM rfl (gsd 17 rfl (fun aC => ?_) fun aC => ?_)))))))
    ·
     refine gF fo_30_2 rfl (gL hm 1 isAgg3 rfl (gF fo_30_2 rfl (gL hm 0 isAgg3 rfl (gB rfl (gKt rfl (gM rfl (gsd 24 rfl (fun aD => ?_) fun aD => ?_)))))))
     ·
      exact gF fo_30_3 rfl (gL hm 1 isAgg26 rfl (gF fo_30_3 rfl (gL hm 0 isAgg26 rfl (gC hm rfl call22 (spec_l5Ints_ok _ a_.cells v2 (hm.now h2) b_.cells v4 (hm.now h4)) fun aI aJ w hm => gKt rfl (gA rfl (gE (gz hm [] rfl)))))))
     exact gO rfl (gO rfl (gO rfl (gO rfl (gO rfl (gKf rfl (gA rfl (gE (gz hm [] rfl))))))))
    exact gO rfl (gO rfl (gO rfl (gO rfl (gO rfl (gKf rfl (gM rfl (gO rfl (gO rfl (gO rfl (gO rfl (gO rfl (gKf rfl (gA rfl (gE (gz hm [] rfl)))))))))))))))
   exact gO rfl (gO rfl (gO rfl (gO rfl (gO rfl (gKf rfl (gM rfl (gO rfl (gO rfl (gO rfl (gO rfl (gO rfl (gKf rfl (gM rfl (gO rfl (gO rfl (gO rfl (gO rfl (gO rfl (gKf rfl (gA rfl (gE (gz hm [] rfl))))))))))))))))))))))
  repeat clear hm
  intro aA w hm
  exact gRt (gr1 results7 rfl ⟨rfl, hm.below⟩)
theorem impl_mapped_impl_Code_impl_Code_ok (w0 : World) (list : List Code_) (v1 : Value) (h1 : GT.rep (hp w0) [v1] list) (f : Code_ → Option Code_) (fv1 : Value) (hfn1 : ∀ (w : World) (y0 : Code_) (z1 : Value) (_ : GT.rep (hp w) [z1] y0.blocks) (r : Code_), Below w0.heap.size w0 w → f y0 = some r → FnOk Try.prog fv1 [(.agg #[(nV y0.params), (nV y0.regs), z1])] w (fun v w' => ∃ (x1 : Value), v = (.agg #[(nV r.params), (nV r.regs), x1]) ∧ Mem w (hp w) w' [ow [x1] r.blocks])) :
    ConM Try.prog 24 [v1, fv1] w0 (impl_mapped_impl_Code_impl_Code list f) fun r v w' => ∃ (x1 : Value), v = x1 ∧ Mem w0 (hp w0) w' [ow [x1] r] := by
  unfold impl_mapped_impl_Code_impl_Code
  refine gcon func24 rfl fun r => ?_
  have hm := Mem.start w0
  refine gS (gR (gA rfl (gE (gS (gR (gA rfl (gE (gS (gS (gR (gM rfl ?_)))))))))))
  obtain ⟨aL, aM, rfl, aV⟩ := ro_slice h1
  refine gY (yV st_23 rfl) (gM rfl (gE (gBk ?_)))
  replace hm := hm.nilow (α := Code_)
  refine gNg (fun aJ aC a w => ∃ (aD : Value), St 22 [(1, fv1), (5, aD), (8, (.slice aL list.length aM)), (9, (nV ((list.length : Int)))), (10, (nV aJ))] w0 (hp w0) [ow [aD] aC] a w) (fun a hf => ⟨(.slice none 0 0), hf.sb rfl, hm.pk [0] rfl rfl⟩) ?_ ?_
  ·
   repeat clear hm
   rintro _ _ aJ aC a w ⟨aD, hf, hm⟩ aW aX aY _
   refine gv hf (gS (gR (gB rfl (gE (gS (go _ 11 rfl (decide_eq_true (by omega)) (gct rfl (gSk (gS (gBk (gS (gR (gg fun aB aN aI => ?_)))))))))))))
   obtain ⟨aZ, aa, ab, he⟩ := idx_form' h1 aI
   obtain ⟨rfl, _, rfl⟩ := sl3 he
   obtain ⟨aF, aO, aK⟩ := rk_Code_ h1 aI
   refine gI st_23 aN (idx_lt aI) rfl (gY (yn (aO.mono hm.lez) isAgg59 sizeOf59 rfl) (gAl hm zeroValue59 rfl fun aG w hm => gSN hm 0 sizeOf59 (one_cons rfl (one_cons rfl (one_cons (rep_one aK) one_nil))) rfl fun w hm => gE (gR (gM rfl (gM rfl (gY (yn (hm.blk_at 0 rfl) isAgg59 sizeOf59 rfl) (gb fun aA aP => gf rfl (fun a hf => e_callv hf rfl rfl rfl (hfn1 _ aB aF (hm.now aK) _ hm.below aP)) ?_)))))))
   rintro ac w ⟨aE, rfl, hB⟩
   replace hm := hm.give hB; clear hB
   refine gf rfl (fun a hf => e_build (vs := #[(0, (.agg #[(nV aA.params), (nV aA.regs), aE]))]) (cs := [(nV aA.params), (nV aA.regs), aE]) et_23 hf hm rfl rfl (by kernel_rfl) rfl rfl) ?_
   rintro _ w ⟨aH, rfl, hm⟩
   replace hm := hm.els_nil (α := Code_)
   replace hm : Mem w0 (hp w0) _ [els [] ([] : List Code_), blk aH [(nV aA.params), (nV aA.regs), aE] 59, ow [(nV aA.params), (nV aA.regs), aE] (aA : Code_), blk aG [(nV aB.params), (nV aB.regs), aF] 59, ow [aD] aC] := mk_Code_ aA.params aA.regs hm 2 rfl
   replace hm := (hm.els_cons 0 2 (by decide) rfl rfl).pk (L' := [els [(nV aA.params), (nV aA.regs), aE] ([aA] : List Code_), blk aH [(nV aA.params), (nV aA.regs), aE] 59, blk aG [(nV aB.params), (nV aB.regs), aF] 59, ow [aD] aC]) [0, 1, 3, 4] rfl rfl
   replace hm := (hm.lit_els 1 0 (by decide) rfl rfl rfl rfl).pk (L' := [ow [(sV aH 0 1 1)] ([aA] : List Code_), blk aG [(nV aB.params), (nV aB.regs), aF] 59, ow [aD] aC]) [1, 2, 3] rfl rfl
   refine gb fun ae aQ => ?_
   obtain ⟨aR, aS⟩ := appM_some.1 aQ
   replace hm := (hm.both 2 0 (by decide) rfl rfl).pk (L' := [blk aG [(nV aB.params), (nV aB.regs), aF] 59, both (ow [aD] aC) (ow [(sV aH 0 1 1)] ([aA] : List Code_))]) [1, 2] rfl rfl
   refine gf rfl (fun a hf => e_appendD (xs := aC) (ys := ([aA] : List Code_)) 1 et_23 hf hm rfl rfl rfl rfl aR) ?_
   rintro aT w hm
   rw [aS] at hm
   exact gA rfl (gE (gR (gP (by omega) (by omega) rfl (gM rfl (gE (gZe fun a hf => ⟨aT, hf.sb rfl, hm.pk [1] rfl rfl⟩))))))
  repeat clear hm
  rintro af ag a w ⟨aU, hf, hm⟩ ah ai
  exact gv hf (gS (gR (gB rfl (gE (gS (go _ 11 rfl (decide_eq_false (by omega)) (gcf rfl (gXt (gHh (gS (gR (gM rfl (gA rfl (gE (gRt (gr1 results24 rfl ⟨aU, rfl, hm.pk [0] rfl rfl⟩))))))))))))))))
end Go.Proofs.Ytabgclojkbijbaa
