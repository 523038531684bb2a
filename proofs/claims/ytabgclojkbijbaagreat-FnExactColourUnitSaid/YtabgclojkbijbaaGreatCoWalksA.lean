/- A part of the proof of FnExactColourUnitSaid. -/
import Derived.Test.YtabgclojkbijbaaGreatCoModels
import Derived.Test.YtabgclojkbijbaaGreatChecked
import Derived.Test.YtabgclojkbijbaaGreatCoCm
import Derived.Test.YtabgclojkbijbaaGreatCoLays
import Derived.Test.YtabgclojkbijbaaGreatWkAd
namespace Go.Proofs.YtabgclojkbijbaaGreat
open Go Go.Wk Go.RowKit
set_option maxRecDepth 4000
set_option maxHeartbeats 4000000
open Tryz
theorem mxo : Tryz.prog.follows .mixedOrders = true := by kernel_rfl
theorem fo_24_0 : FieldOff Tryz.prog 24 0 0 := by have h := FieldOff.mk (k := 0) underlying24 rfl sizeOf22; exact h
theorem fo_28_0 : FieldOff Tryz.prog 28 0 0 := by have h := FieldOff.mk (k := 0) underlying28 rfl sizeOf26; exact h
theorem fo_49_0 : FieldOff Tryz.prog 49 0 0 := by have h := FieldOff.mk (k := 0) underlying49 rfl sizeOf3; exact h
theorem fo_49_1 : FieldOff Tryz.prog 49 1 1 := by have h := FieldOff.mk (k := 1) underlying49 rfl sizeOf3; exact h
theorem fo_49_2 : FieldOff Tryz.prog 49 2 2 := by have h := FieldOff.mk (k := 2) underlying49 rfl sizeOf47; exact h
theorem fo_63_0 : FieldOff Tryz.prog 63 0 0 := by have h := FieldOff.mk (k := 0) underlying63 rfl sizeOf60; exact h
theorem fo_63_1 : FieldOff Tryz.prog 63 1 1 := by have h := FieldOff.mk (k := 1) underlying63 rfl sizeOf61; exact h
theorem fo_63_2 : FieldOff Tryz.prog 63 2 2 := by have h := FieldOff.mk (k := 2) underlying63 rfl sizeOf3; exact h
theorem fo_63_3 : FieldOff Tryz.prog 63 3 3 := by have h := FieldOff.mk (k := 3) underlying63 rfl sizeOf3; exact h
theorem fo_63_4 : FieldOff Tryz.prog 63 4 4 := by have h := FieldOff.mk (k := 4) underlying63 rfl sizeOf43; exact h
theorem fo_65_0 : FieldOff Tryz.prog 65 0 0 := by have h := FieldOff.mk (k := 0) underlying65 rfl sizeOf3; exact h
theorem fo_65_1 : FieldOff Tryz.prog 65 1 1 := by have h := FieldOff.mk (k := 1) underlying65 rfl sizeOf3; exact h
theorem fo_65_2 : FieldOff Tryz.prog 65 2 2 := by have h := FieldOff.mk (k := 2) underlying65 rfl sizeOf43; exact h
theorem fo_65_3 : FieldOff Tryz.prog 65 3 3 := by have h := FieldOff.mk (k := 3) underlying65 rfl sizeOf3; exact h
theorem fo_88_0 : FieldOff Tryz.prog 88 0 0 := by have h := FieldOff.mk (k := 0) underlying88 rfl sizeOf3; exact h
theorem fo_88_1 : FieldOff Tryz.prog 88 1 1 := by have h := FieldOff.mk (k := 1) underlying88 rfl sizeOf3; exact h
theorem fo_88_2 : FieldOff Tryz.prog 88 2 2 := by have h := FieldOff.mk (k := 2) underlying88 rfl sizeOf86; exact h
theorem fo_93_0 : FieldOff Tryz.prog 93 0 0 := by have h := FieldOff.mk (k := 0) underlying93 rfl sizeOf45; exact h
theorem fo_93_1 : FieldOff Tryz.prog 93 1 1 := by have h := FieldOff.mk (k := 1) underlying93 rfl sizeOf45; exact h
theorem fo_109_0 : FieldOff Tryz.prog 109 0 0 := by have h := FieldOff.mk (k := 0) underlying109 rfl sizeOf49; exact h
theorem fo_109_1 : FieldOff Tryz.prog 109 1 3 := by have h := FieldOff.mk (k := 1) underlying109 rfl sizeOf107; exact h
theorem fo_109_2 : FieldOff Tryz.prog 109 2 4 := by have h := FieldOff.mk (k := 2) underlying109 rfl sizeOf68; exact h
theorem fo_127_0 : FieldOff Tryz.prog 127 0 0 := by have h := FieldOff.mk (k := 0) underlying127 rfl sizeOf3; exact h
theorem fo_127_1 : FieldOff Tryz.prog 127 1 1 := by have h := FieldOff.mk (k := 1) underlying127 rfl sizeOf43; exact h
theorem fo_198_0 : FieldOff Tryz.prog 198 0 0 := by have h := FieldOff.mk (k := 0) underlying198 rfl sizeOf195; exact h
theorem fo_198_1 : FieldOff Tryz.prog 198 1 1 := by have h := FieldOff.mk (k := 1) underlying198 rfl sizeOf196; exact h
theorem fo_198_2 : FieldOff Tryz.prog 198 2 2 := by have h := FieldOff.mk (k := 2) underlying198 rfl sizeOf3; exact h
theorem fo_198_3 : FieldOff Tryz.prog 198 3 3 := by have h := FieldOff.mk (k := 3) underlying198 rfl sizeOf3; exact h
theorem fo_198_4 : FieldOff Tryz.prog 198 4 4 := by have h := FieldOff.mk (k := 4) underlying198 rfl sizeOf43; exact h
theorem fo_275_0 : FieldOff Tryz.prog 275 0 0 := by have h := FieldOff.mk (k := 0) underlying275 rfl sizeOf3; exact h
theorem fo_275_1 : FieldOff Tryz.prog 275 1 1 := by have h := FieldOff.mk (k := 1) underlying275 rfl sizeOf43; exact h
theorem fo_277_0 : FieldOff Tryz.prog 277 0 0 := by have h := FieldOff.mk (k := 0) underlying277 rfl sizeOf3; exact h
theorem fo_277_1 : FieldOff Tryz.prog 277 1 1 := by have h := FieldOff.mk (k := 1) underlying277 rfl sizeOf3; exact h
theorem fo_277_2 : FieldOff Tryz.prog 277 2 2 := by have h := FieldOff.mk (k := 2) underlying277 rfl sizeOf43; exact h
theorem fo_277_3 : FieldOff Tryz.prog 277 3 3 := by have h := FieldOff.mk (k := 3) underlying277 rfl sizeOf3; exact h
theorem st_22 : SliceTy Tryz.prog 22 88 3 := ⟨underlying22, sizeOf88⟩
theorem st_26 : SliceTy Tryz.prog 26 49 3 := ⟨underlying26, sizeOf49⟩
theorem st_43 : SliceTy Tryz.prog 43 3 1 := ⟨underlying43, sizeOf3⟩
theorem st_45 : SliceTy Tryz.prog 45 90 1 := ⟨underlying45, sizeOf90⟩
theorem st_47 : SliceTy Tryz.prog 47 63 5 := ⟨underlying47, sizeOf63⟩
theorem st_60 : SliceTy Tryz.prog 60 127 2 := ⟨underlying60, sizeOf127⟩
theorem st_61 : SliceTy Tryz.prog 61 65 4 := ⟨underlying61, sizeOf65⟩
theorem st_68 : SliceTy Tryz.prog 68 43 1 := ⟨underlying68, sizeOf43⟩
theorem st_86 : SliceTy Tryz.prog 86 198 5 := ⟨underlying86, sizeOf198⟩
theorem st_90 : SliceTy Tryz.prog 90 4 1 := ⟨underlying90, sizeOf4⟩
theorem st_107 : SliceTy Tryz.prog 107 106 1 := ⟨underlying107, sizeOf106⟩
theorem st_195 : SliceTy Tryz.prog 195 275 2 := ⟨underlying195, sizeOf275⟩
theorem st_196 : SliceTy Tryz.prog 196 277 4 := ⟨underlying196, sizeOf277⟩
theorem et_26 : ElemTy Tryz.prog 26 49 3 (.agg #[(.int .i64 (0)), (.int .i64 (0)), .slice none 0 0]) := ⟨underlying26, ⟨_, (by kernel_rfl : Tryz.prog.info? 49 = some t49), rfl, by decide, rfl⟩, rfl, by decide⟩
theorem et_43 : ElemTy Tryz.prog 43 3 1 (.int .i64 (0)) := ⟨underlying43, ⟨_, (by kernel_rfl : Tryz.prog.info? 3 = some t3), rfl, by decide, rfl⟩, rfl, by decide⟩
theorem et_45 : ElemTy Tryz.prog 45 90 1 (.slice none 0 0) := ⟨underlying45, ⟨_, (by kernel_rfl : Tryz.prog.info? 90 = some t90), rfl, by decide, rfl⟩, rfl, by decide⟩
theorem et_47 : ElemTy Tryz.prog 47 63 5 (.agg #[.slice none 0 0, .slice none 0 0, (.int .i64 (0)), (.int .i64 (0)), .slice none 0 0]) := ⟨underlying47, ⟨_, (by kernel_rfl : Tryz.prog.info? 63 = some t63), rfl, by decide, rfl⟩, rfl, by decide⟩
theorem et_60 : ElemTy Tryz.prog 60 127 2 (.agg #[(.int .i64 (0)), .slice none 0 0]) := ⟨underlying60, ⟨_, (by kernel_rfl : Tryz.prog.info? 127 = some t127), rfl, by decide, rfl⟩, rfl, by decide⟩
theorem et_61 : ElemTy Tryz.prog 61 65 4 (.agg #[(.int .i64 (0)), (.int .i64 (0)), .slice none 0 0, (.int .i64 (0))]) := ⟨underlying61, ⟨_, (by kernel_rfl : Tryz.prog.info? 65 = some t65), rfl, by decide, rfl⟩, rfl, by decide⟩
theorem et_68 : ElemTy Tryz.prog 68 43 1 (.slice none 0 0) := ⟨underlying68, ⟨_, (by kernel_rfl : Tryz.prog.info? 43 = some t43), rfl, by decide, rfl⟩, rfl, by decide⟩
theorem et_90 : ElemTy Tryz.prog 90 4 1 (.bool (false)) := ⟨underlying90, ⟨_, (by kernel_rfl : Tryz.prog.info? 4 = some t4), rfl, by decide, rfl⟩, rfl, by decide⟩
theorem et_107 : ElemTy Tryz.prog 107 106 1 (.map none) := ⟨underlying107, ⟨_, (by kernel_rfl : Tryz.prog.info? 106 = some t106), rfl, by decide, rfl⟩, rfl, by decide⟩
theorem slB : SliceTy Tryz.prog 43 3 1 := ⟨underlying43, sizeOf3⟩
theorem back238 : Back2 Tryz.prog 238 := by
  intro xs b v lp J W hJ hY h0 kk
  refine jCon (args := [.func (.yield lp) #[] #[], .pointer (some ⟨b, 0, none⟩)]) func238 rfl ?_
  have hc := hJ 0 W h0
  obtain ⟨p, cap, hv, hlen⟩ := (rep_list.1 hc.2).len
  subst hv
  refine jS (jR (jY (yl isAgg43 hc.1 rfl) (jY (yV slB rfl) (jY (yS (by omega) (by omega) rfl) (jY (yA rfl) (jE ?_))))))
  refine jBk (jDn (I := fun j a w => ∃ k, k + j = xs.length ∧ Fr 19 [(0, .func (.yield lp) #[] #[]), (1, .pointer (some ⟨b, 0, none⟩)), (3, .int .i64 ((j : Int) - 1))] a ∧ J k w) xs.length
    (fun a hf => ⟨0, by omega, hf.sb rfl, h0⟩) (fun (a : Act) => match a.tmps[3]? with | some (Value.int _ i) => (i + 1).toNat | _ => 0) ?_ ?_ ?_)
  · rintro j a w ⟨k, _, hf, _⟩
    show (match a.tmps[3]? with | some (Value.int _ i) => (i + 1).toNat | _ => 0) = j
    rw [hf.get 3 _ rfl]
    show ((j : Int) - 1 + 1).toNat = j
    omega
  · rintro j a w ⟨k, hk, hf, hj⟩
    have hc := hJ k w hj
    have hd : j < xs.length := by omega
    obtain ⟨b2, off, cap2, e, hcell⟩ := rep_cell hc.2 hd
    have ej : ((j + 1 : Nat) : Int) - 1 = (j : Int) := by omega
    rw [ej] at hf
    have hc1 := hc.1
    rw [e] at hc1
    refine gv (m := some ()) (r := ()) hf ?_ rfl
    refine jS (jS (jR (jY (yM rfl) (jY (yB rfl) (jE (go _ 8 rfl (show decide ((j : Int) ≥ 0) = true from decide_eq_true (by omega)) (jCt rfl (jSk ?_))))))))
    refine jS (jBk (jS (jR (jY (yM rfl) (jY (yM rfl) (jY (yl isAgg43 hc1 rfl) (jY (yM rfl) (jY (yI slB (by omega) (show (j : Int).toNat < _ from hd) rfl) (jY (yl isAgg3 (show w.cell? ⟨b2, off + (j : Int).toNat * 1, none⟩ = _ from hcell) rfl) (jYd rfl (fun m => hY k j w hk hj m) fun w' hR => jY (yN rfl) (jE ?_)))))))))))
    refine jCf rfl (jSk (jR (jY (yM rfl) (jY (yS (by omega) (by omega) rfl) (jY (yA rfl) (jE ?_))))))
    exact fun _ a hf => ⟨k + 1, by omega, hf.sb rfl, hR⟩
  · rintro a w ⟨k, hk, hf, hj⟩
    refine gv (m := some ()) (r := ()) hf ?_ rfl
    refine jS (jS (jR (jY (yM rfl) (jY (yB rfl) (jE (go _ 8 rfl (show decide (((0 : Nat) : Int) - 1 ≥ 0) = false by decide) (jCf rfl (jXt (gHh (jEnd rfl ⟨⟨_, rfl⟩, ?_⟩))))))))))
    obtain rfl : k = xs.length := by omega
    exact hj
theorem back159 {w0 w : World} {hz : Heap} {L : List Ch} (hm : Mem w0 hz w L) {p : Option Addr} {n c : Nat} :
    Con Tryz.prog 159 [.slice p n c] w fun u w' => ∃ b, u = .func (.func 238) #[] #[.pointer (some ⟨b, 0, none⟩)] ∧ Mem w0 hz w' (blk b [.slice p n c] 43 :: L) :=
  gconr (ρ := Unit) (m := some ()) (r := ()) (R := fun _ u w' => ∃ b, u = .func (.func 238) #[] #[.pointer (some ⟨b, 0, none⟩)] ∧ Mem w0 hz w' (blk b [.slice p n c] 43 :: L)) func159 rfl rfl
    (gS (gR (gBx hm rfl fun b _ hm => gA rfl (gE (gS (gR (gY (yU rfl) (gA rfl (gE (gRt (gr1 rfl rfl ⟨b, rfl, hm⟩)))))))))))
theorem laws_szIntS_ok (w0 : World) (a_ : List Int) (v1 : Value) (h1 : GT.rep (hp w0) [v1] a_) (left : Int) :
    ConM Tryz.prog 299 [v1, nV left] w0 (laws_szIntS a_ left) fun r v w' => v = (nV r) ∧ Below w0.heap.size w0 w' := by
  unfold laws_szIntS
  refine gcon func299 rfl fun r => ?_
  have hm := Mem.start w0
  refine gS (gR (gA rfl (gE (gS (gR (gM rfl (gM rfl ?_)))))))
  obtain ⟨aB, aC, rfl, aD⟩ := ro_slice h1
  refine gY (yV st_43 rfl) (gB rfl (gA rfl (gE (gS (gS (gR (gM rfl (gB rfl (gE (gsd 10 rfl (fun aA => ?_) fun aA => ?_))))))))))
  ·exact gct rfl (gS (gR (gA rfl (gE (gRt (gr1 results299 rfl ⟨rfl, hm.below⟩))))))
  exact gcf rfl (gSk (gS (gR (gM rfl (gA rfl (gE (gRt (gr1 results299 rfl ⟨rfl, hm.below⟩))))))))
theorem laws_szPhi_ok (w0 : World) (a_ : Phi_) (v1 : Value) (h1 : GT.rep (hp w0) [v1] a_.args) (left : Int) :
    ConM Tryz.prog 334 [(.agg #[nV a_.to, v1]), nV left] w0 (laws_szPhi a_ left) fun r v w' => v = (nV r) ∧ Below w0.heap.size w0 w' := by
  unfold laws_szPhi
  refine gcon func334 rfl fun r => ?_
  have hm := Mem.start w0
  refine gS (gR (gBx hm rfl fun aB w hm => gA rfl (gE (gS (gR (gF fo_275_1 rfl (gL hm 0 isAgg43 rfl (gM rfl (gC hm rfl call299 (laws_szIntS_ok _ a_.args v1 (hm.now h1) left) fun aC aD w hm => gA rfl (gE (gS (gS (gR (gM rfl (gB rfl (gE (gsd 10 rfl (fun aA => ?_) fun aA => ?_)))))))))))))))))
  ·exact gct rfl (gS (gR (gA rfl (gE (gRt (gr1 results334 rfl ⟨rfl, hm.below⟩))))))
  exact gcf rfl (gSk (gS (gR (gM rfl (gA rfl (gE (gRt (gr1 results334 rfl ⟨rfl, hm.below⟩))))))))
theorem laws_szPhiS_ok (w0 : World) (a_ : List Phi_) (v1 : Value) (h1 : GT.rep (hp w0) [v1] a_) (left : Int) :
    ConM Tryz.prog 297 [v1, nV left] w0 (laws_szPhiS a_ left) fun r v w' => v = (nV r) ∧ Below w0.heap.size w0 w' := by
  unfold laws_szPhiS
  refine gcon func297 rfl fun r => ?_
  have hm := Mem.start w0
  refine gS (gR (gA rfl (gE (gS (gR (gM rfl (gM rfl ?_)))))))
  obtain ⟨aD, aE, rfl, aO⟩ := ro_slice h1
  refine gY (yV st_195 rfl) (gB rfl (gA rfl (gE (gS (gS (gR (gM rfl (gB rfl (gE (gsd 11 rfl (fun aF => ?_) fun aF => ?_))))))))))
  ·exact gct rfl (gS (gR (gA rfl (gE (gRt (gr1 results297 rfl ⟨rfl, hm.below⟩))))))
  refine gcf rfl (gSk (gS (gS (gR (gA rfl (gE (gBk (gNg (fun aC aA a w => 0 ≤ aA ∧ St 27 [(0, (.slice aD a_.length aE)), (1, (nV aA)), (5, (nV aC))] w0 (hp w0) [] a w) (fun a hf => ⟨(by first | omega | (dsimp only; omega)), hf.sb rfl, hm.pk [] rfl rfl⟩) ?_ ?_))))))))
  ·repeat clear hm
   rintro aP aG aC aA a w ⟨aQ, hf, hm⟩ aR aS aT aH
   refine gv hf (gS (gS (gR (gM rfl (gM rfl (gY (yV st_195 rfl) (gB rfl (gE (go _ 15 rfl (decide_eq_true (by omega)) (gct rfl (gSk (gS (gBk (gS (gR (gM rfl (gM rfl (gg fun aI aJ aB => ?_))))))))))))))))))
   obtain ⟨aV, aW, aX, he⟩ := idx_form' h1 aB
   obtain ⟨rfl, _, rfl⟩ := sl3 he
   obtain ⟨aK, aL, aM⟩ := rk_Phi_ h1 aB
   refine gI st_195 aJ (idx_lt aB) rfl (gY (yn (aL.mono hm.lez) isAgg275 sizeOf275 rfl) (gM rfl (gC hm rfl call334 (laws_szPhi_ok _ aI aK (hm.now aM) aA) fun aY aZ w hm => gA rfl (gE (gS (gR (gM rfl (gB rfl (gE (gsd 25 rfl (fun aN => ?_) fun aN => ?_))))))))))
   ·exact gct rfl (gS (gR (gA rfl (gE (gRt (gLr aH aG (gr1 results297 rfl ⟨rfl, hm.below⟩)))))))
   exact gcf rfl (gSk (gR (gM rfl (gP (by omega) (by omega) rfl (gA rfl (gE (gZe fun a hf => ⟨(by first | omega | (dsimp only; omega)), hf.sb rfl, hm.pk [] rfl rfl⟩)))))))
  repeat clear hm
  rintro aa ab a w ⟨ac, hf, hm⟩ ae af
  exact gv hf (gS (gS (gR (gM rfl (gM rfl (gY (yV st_195 rfl) (gB rfl (gE (go _ 15 rfl (decide_eq_false (by omega)) (gcf rfl (gXt (gHh (gS (gR (gM rfl (gA rfl (gE (gRt (gr1 results297 rfl ⟨rfl, hm.below⟩)))))))))))))))))))
theorem laws_szIns_ok (w0 : World) (a_ : Ins_) (v1 : Value) (h1 : GT.rep (hp w0) [v1] a_.args) (left : Int) :
    ConM Tryz.prog 335 [(.agg #[nV a_.op, nV a_.to, v1, nV a_.n_]), nV left] w0 (laws_szIns a_ left) fun r v w' => v = (nV r) ∧ Below w0.heap.size w0 w' := by
  unfold laws_szIns
  refine gcon func335 rfl fun r => ?_
  have hm := Mem.start w0
  refine gS (gR (gBx hm rfl fun aB w hm => gA rfl (gE (gS (gR (gF fo_277_2 rfl (gL hm 0 isAgg43 rfl (gM rfl (gC hm rfl call299 (laws_szIntS_ok _ a_.args v1 (hm.now h1) left) fun aC aD w hm => gA rfl (gE (gS (gS (gR (gM rfl (gB rfl (gE (gsd 10 rfl (fun aA => ?_) fun aA => ?_)))))))))))))))))
  ·exact gct rfl (gS (gR (gA rfl (gE (gRt (gr1 results335 rfl ⟨rfl, hm.below⟩))))))
  exact gcf rfl (gSk (gS (gR (gM rfl (gA rfl (gE (gRt (gr1 results335 rfl ⟨rfl, hm.below⟩))))))))
theorem laws_szInsS_ok (w0 : World) (a_ : List Ins_) (v1 : Value) (h1 : GT.rep (hp w0) [v1] a_) (left : Int) :
    ConM Tryz.prog 298 [v1, nV left] w0 (laws_szInsS a_ left) fun r v w' => v = (nV r) ∧ Below w0.heap.size w0 w' := by
  unfold laws_szInsS
  refine gcon func298 rfl fun r => ?_
  have hm := Mem.start w0
  refine gS (gR (gA rfl (gE (gS (gR (gM rfl (gM rfl ?_)))))))
  obtain ⟨aD, aE, rfl, aO⟩ := ro_slice h1
  refine gY (yV st_196 rfl) (gB rfl (gA rfl (gE (gS (gS (gR (gM rfl (gB rfl (gE (gsd 11 rfl (fun aF => ?_) fun aF => ?_))))))))))
  ·exact gct rfl (gS (gR (gA rfl (gE (gRt (gr1 results298 rfl ⟨rfl, hm.below⟩))))))
  refine gcf rfl (gSk (gS (gS (gR (gA rfl (gE (gBk (gNg (fun aC aA a w => 0 ≤ aA ∧ St 27 [(0, (.slice aD a_.length aE)), (1, (nV aA)), (5, (nV aC))] w0 (hp w0) [] a w) (fun a hf => ⟨(by first | omega | (dsimp only; omega)), hf.sb rfl, hm.pk [] rfl rfl⟩) ?_ ?_))))))))
  ·repeat clear hm
   rintro aP aG aC aA a w ⟨aQ, hf, hm⟩ aR aS aT aH
   refine gv hf (gS (gS (gR (gM rfl (gM rfl (gY (yV st_196 rfl) (gB rfl (gE (go _ 15 rfl (decide_eq_true (by omega)) (gct rfl (gSk (gS (gBk (gS (gR (gM rfl (gM rfl (gg fun aI aJ aB => ?_))))))))))))))))))
   obtain ⟨aV, aW, aX, he⟩ := idx_form' h1 aB
   obtain ⟨rfl, _, rfl⟩ := sl3 he
   obtain ⟨aK, aL, aM⟩ := rk_Ins_ h1 aB
   refine gI st_196 aJ (idx_lt aB) rfl (gY (yn (aL.mono hm.lez) isAgg277 sizeOf277 rfl) (gM rfl (gC hm rfl call335 (laws_szIns_ok _ aI aK (hm.now aM) aA) fun aY aZ w hm => gA rfl (gE (gS (gR (gM rfl (gB rfl (gE (gsd 25 rfl (fun aN => ?_) fun aN => ?_))))))))))
   ·exact gct rfl (gS (gR (gA rfl (gE (gRt (gLr aH aG (gr1 results298 rfl ⟨rfl, hm.below⟩)))))))
   exact gcf rfl (gSk (gR (gM rfl (gP (by omega) (by omega) rfl (gA rfl (gE (gZe fun a hf => ⟨(by first | omega | (dsimp only; omega)), hf.sb rfl, hm.pk [] rfl rfl⟩)))))))
  repeat clear hm
  rintro aa ab a w ⟨ac, hf, hm⟩ ae af
  exact gv hf (gS (gS (gR (gM rfl (gM rfl (gY (yV st_196 rfl) (gB rfl (gE (go _ 15 rfl (decide_eq_false (by omega)) (gcf rfl (gXt (gHh (gS (gR (gM rfl (gA rfl (gE (gRt (gr1 results298 rfl ⟨rfl, hm.below⟩)))))))))))))))))))
theorem laws_szBlock_ok (w0 : World) (a_ : Block_) (v1 : Value) (h1 : GT.rep (hp w0) [v1] a_.phis) (v2 : Value) (h2 : GT.rep (hp w0) [v2] a_.ins) (v3 : Value) (h3 : GT.rep (hp w0) [v3] a_.next_) (left : Int) :
    ConM Tryz.prog 233 [(.agg #[v1, v2, nV a_.jump, nV a_.on, v3]), nV left] w0 (laws_szBlock a_ left) fun r v w' => v = (nV r) ∧ Below w0.heap.size w0 w' := by
  unfold laws_szBlock
  refine gcon func233 rfl fun r => ?_
  have hm := Mem.start w0
  refine gS (gR (gBx hm rfl fun aF w hm => gA rfl (gE (gS (gR (gF fo_198_0 rfl (gL hm 0 isAgg195 rfl (gM rfl (gC hm rfl call297 (laws_szPhiS_ok _ a_.phis v1 (hm.now h1) left) fun aA aG w hm => gA rfl (gE (gS (gS (gR (gM rfl (gB rfl (gE (gsd 10 rfl (fun aB => ?_) fun aB => ?_)))))))))))))))))
  ·exact gct rfl (gS (gR (gA rfl (gE (gRt (gr1 results233 rfl ⟨rfl, hm.below⟩))))))
  refine gcf rfl (gSk (gS (gR (gF fo_198_1 rfl (gL hm 0 isAgg196 rfl (gM rfl (gC hm rfl call298 (laws_szInsS_ok _ a_.ins v2 (hm.now h2) aA) fun aC aH w hm => gA rfl (gE (gS (gS (gR (gM rfl (gB rfl (gE (gsd 16 rfl (fun aD => ?_) fun aD => ?_)))))))))))))))
  ·exact gct rfl (gS (gR (gA rfl (gE (gRt (gr1 results233 rfl ⟨rfl, hm.below⟩))))))
  refine gcf rfl (gSk (gS (gR (gF fo_198_4 rfl (gL hm 0 isAgg43 rfl (gM rfl (gC hm rfl call299 (laws_szIntS_ok _ a_.next_ v3 (hm.now h3) aC) fun aI aJ w hm => gA rfl (gE (gS (gS (gR (gM rfl (gB rfl (gE (gsd 22 rfl (fun aE => ?_) fun aE => ?_)))))))))))))))
  ·exact gct rfl (gS (gR (gA rfl (gE (gRt (gr1 results233 rfl ⟨rfl, hm.below⟩))))))
  exact gcf rfl (gSk (gS (gR (gM rfl (gA rfl (gE (gRt (gr1 results233 rfl ⟨rfl, hm.below⟩))))))))
theorem laws_szBlockS_ok (w0 : World) (a_ : List Block_) (v1 : Value) (h1 : GT.rep (hp w0) [v1] a_) (left : Int) :
    ConM Tryz.prog 152 [v1, nV left] w0 (laws_szBlockS a_ left) fun r v w' => v = (nV r) ∧ Below w0.heap.size w0 w' := by
  unfold laws_szBlockS
  refine gcon func152 rfl fun r => ?_
  have hm := Mem.start w0
  refine gS (gR (gA rfl (gE (gS (gR (gM rfl (gM rfl ?_)))))))
  obtain ⟨aD, aE, rfl, aS⟩ := ro_slice h1
  refine gY (yV st_86 rfl) (gB rfl (gA rfl (gE (gS (gS (gR (gM rfl (gB rfl (gE (gsd 11 rfl (fun aF => ?_) fun aF => ?_))))))))))
  ·exact gct rfl (gS (gR (gA rfl (gE (gRt (gr1 results152 rfl ⟨rfl, hm.below⟩))))))
  refine gcf rfl (gSk (gS (gS (gR (gA rfl (gE (gBk (gNg (fun aC aA a w => 0 ≤ aA ∧ St 27 [(0, (.slice aD a_.length aE)), (1, (nV aA)), (5, (nV aC))] w0 (hp w0) [] a w) (fun a hf => ⟨(by first | omega | (dsimp only; omega)), hf.sb rfl, hm.pk [] rfl rfl⟩) ?_ ?_))))))))
  ·repeat clear hm
   rintro aT aG aC aA a w ⟨aV, hf, hm⟩ aW aX aY aH
   refine gv hf (gS (gS (gR (gM rfl (gM rfl (gY (yV st_86 rfl) (gB rfl (gE (go _ 15 rfl (decide_eq_true (by omega)) (gct rfl (gSk (gS (gBk (gS (gR (gM rfl (gM rfl (gg fun aI aJ aB => ?_))))))))))))))))))
   obtain ⟨aZ, aa, ab, he⟩ := idx_form' h1 aB
   obtain ⟨rfl, _, rfl⟩ := sl3 he
   obtain ⟨aK, aL, aM, aN, aO, aP, aQ⟩ := rk_Block_ h1 aB
   refine gI st_86 aJ (idx_lt aB) rfl (gY (yn (aN.mono hm.lez) isAgg198 sizeOf198 rfl) (gM rfl (gC hm rfl call233 (laws_szBlock_ok _ aI aK (hm.now aO) aL (hm.now aP) aM (hm.now aQ) aA) fun ac ae w hm => gA rfl (gE (gS (gR (gM rfl (gB rfl (gE (gsd 25 rfl (fun aR => ?_) fun aR => ?_))))))))))
   ·exact gct rfl (gS (gR (gA rfl (gE (gRt (gLr aH aG (gr1 results152 rfl ⟨rfl, hm.below⟩)))))))
   exact gcf rfl (gSk (gR (gM rfl (gP (by omega) (by omega) rfl (gA rfl (gE (gZe fun a hf => ⟨(by first | omega | (dsimp only; omega)), hf.sb rfl, hm.pk [] rfl rfl⟩)))))))
  repeat clear hm
  rintro af ah a w ⟨ai, hf, hm⟩ aj ak
  exact gv hf (gS (gS (gR (gM rfl (gM rfl (gY (yV st_86 rfl) (gB rfl (gE (go _ 15 rfl (decide_eq_false (by omega)) (gcf rfl (gXt (gHh (gS (gR (gM rfl (gA rfl (gE (gRt (gr1 results152 rfl ⟨rfl, hm.below⟩)))))))))))))))))))
theorem laws_szCode_ok (w0 : World) (a_ : Code_) (v1 : Value) (h1 : GT.rep (hp w0) [v1] a_.blocks) (left : Int) :
    ConM Tryz.prog 85 [(.agg #[nV a_.params, nV a_.regs, v1]), nV left] w0 (laws_szCode a_ left) fun r v w' => v = (nV r) ∧ Below w0.heap.size w0 w' := by
  unfold laws_szCode
  refine gcon func85 rfl fun r => ?_
  have hm := Mem.start w0
  refine gS (gR (gBx hm rfl fun aB w hm => gA rfl (gE (gS (gR (gF fo_88_2 rfl (gL hm 0 isAgg86 rfl (gM rfl (gC hm rfl call152 (laws_szBlockS_ok _ a_.blocks v1 (hm.now h1) left) fun aC aD w hm => gA rfl (gE (gS (gS (gR (gM rfl (gB rfl (gE (gsd 10 rfl (fun aA => ?_) fun aA => ?_)))))))))))))))))
  ·exact gct rfl (gS (gR (gA rfl (gE (gRt (gr1 results85 rfl ⟨rfl, hm.below⟩))))))
  exact gcf rfl (gSk (gS (gR (gM rfl (gA rfl (gE (gRt (gr1 results85 rfl ⟨rfl, hm.below⟩))))))))
theorem laws_szCodeS_ok (w0 : World) (a_ : List Code_) (v1 : Value) (h1 : GT.rep (hp w0) [v1] a_) (left : Int) :
    ConM Tryz.prog 38 [v1, nV left] w0 (laws_szCodeS a_ left) fun r v w' => v = (nV r) ∧ Below w0.heap.size w0 w' := by
  unfold laws_szCodeS
  refine gcon func38 rfl fun r => ?_
  have hm := Mem.start w0
  refine gS (gR (gA rfl (gE (gS (gR (gM rfl (gM rfl ?_)))))))
  obtain ⟨aD, aE, rfl, aO⟩ := ro_slice h1
  refine gY (yV st_22 rfl) (gB rfl (gA rfl (gE (gS (gS (gR (gM rfl (gB rfl (gE (gsd 11 rfl (fun aF => ?_) fun aF => ?_))))))))))
  ·exact gct rfl (gS (gR (gA rfl (gE (gRt (gr1 results38 rfl ⟨rfl, hm.below⟩))))))
  refine gcf rfl (gSk (gS (gS (gR (gA rfl (gE (gBk (gNg (fun aC aA a w => 0 ≤ aA ∧ St 27 [(0, (.slice aD a_.length aE)), (1, (nV aA)), (5, (nV aC))] w0 (hp w0) [] a w) (fun a hf => ⟨(by first | omega | (dsimp only; omega)), hf.sb rfl, hm.pk [] rfl rfl⟩) ?_ ?_))))))))
  ·repeat clear hm
   rintro aP aG aC aA a w ⟨aQ, hf, hm⟩ aR aS aT aH
   refine gv hf (gS (gS (gR (gM rfl (gM rfl (gY (yV st_22 rfl) (gB rfl (gE (go _ 15 rfl (decide_eq_true (by omega)) (gct rfl (gSk (gS (gBk (gS (gR (gM rfl (gM rfl (gg fun aI aJ aB => ?_))))))))))))))))))
   obtain ⟨aV, aW, aX, he⟩ := idx_form' h1 aB
   obtain ⟨rfl, _, rfl⟩ := sl3 he
   obtain ⟨aK, aL, aM⟩ := rk_Code_ h1 aB
   refine gI st_22 aJ (idx_lt aB) rfl (gY (yn (aL.mono hm.lez) isAgg88 sizeOf88 rfl) (gM rfl (gC hm rfl call85 (laws_szCode_ok _ aI aK (hm.now aM) aA) fun aY aZ w hm => gA rfl (gE (gS (gR (gM rfl (gB rfl (gE (gsd 25 rfl (fun aN => ?_) fun aN => ?_))))))))))
   ·exact gct rfl (gS (gR (gA rfl (gE (gRt (gLr aH aG (gr1 results38 rfl ⟨rfl, hm.below⟩)))))))
   exact gcf rfl (gSk (gR (gM rfl (gP (by omega) (by omega) rfl (gA rfl (gE (gZe fun a hf => ⟨(by first | omega | (dsimp only; omega)), hf.sb rfl, hm.pk [] rfl rfl⟩)))))))
  repeat clear hm
  rintro aa ab a w ⟨ac, hf, hm⟩ ae af
  exact gv hf (gS (gS (gR (gM rfl (gM rfl (gY (yV st_22 rfl) (gB rfl (gE (go _ 15 rfl (decide_eq_false (by omega)) (gcf rfl (gXt (gHh (gS (gR (gM rfl (gA rfl (gE (gRt (gr1 results38 rfl ⟨rfl, hm.below⟩)))))))))))))))))))
theorem laws_szUnit_ok (w0 : World) (a_ : Unit_) (v1 : Value) (h1 : GT.rep (hp w0) [v1] a_.codes) (left : Int) :
    ConM Tryz.prog 13 [(.agg #[v1]), nV left] w0 (laws_szUnit a_ left) fun r v w' => v = (nV r) ∧ Below w0.heap.size w0 w' := by
  unfold laws_szUnit
  refine gcon func13 rfl fun r => ?_
  have hm := Mem.start w0
  refine gS (gR (gBx hm rfl fun aB w hm => gA rfl (gE (gS (gR (gF fo_24_0 rfl (gL hm 0 isAgg22 rfl (gM rfl (gC hm rfl call38 (laws_szCodeS_ok _ a_.codes v1 (hm.now h1) left) fun aC aD w hm => gA rfl (gE (gS (gS (gR (gM rfl (gB rfl (gE (gsd 10 rfl (fun aA => ?_) fun aA => ?_)))))))))))))))))
  ·exact gct rfl (gS (gR (gA rfl (gE (gRt (gr1 results13 rfl ⟨rfl, hm.below⟩))))))
  exact gcf rfl (gSk (gS (gR (gM rfl (gA rfl (gE (gRt (gr1 results13 rfl ⟨rfl, hm.below⟩))))))))
theorem laws_toIntS_ok (w0 : World) (a_ : List Int) (v1 : Value) (h1 : GT.rep (hp w0) [v1] a_) :
    ConM Tryz.prog 302 [v1] w0 (laws_toIntS a_) fun r v w' => ∃ (x1 : Value), v = x1 ∧ Mem w0 (hp w0) w' [ow [x1] r] := by
  unfold laws_toIntS
  refine gcon func302 rfl fun r => ?_
  have hm := Mem.start w0
  refine gS (gR (gA rfl (gE (gS (gR (gM rfl ?_))))))
  obtain ⟨aJ, aK, rfl, aQ⟩ := ro_slice h1
  refine gY (yV st_43 rfl) (gb fun aA aL => ?_)
  obtain ⟨⟨aM, aN⟩, aI⟩ := makeM_some.1 aL
  refine gf rfl (fun a hf => e_make (x0 := (0 : Int)) et_43 (fun _ => (Flat.own_iff.2 rfl)) hf hm rfl rfl rfl aM (Int.le_refl _) aN) ?_
  rintro aR w hm
  rw [aI] at hm
  have h0_1l : (aA.length : Int) = (a_.length : Int) := by rw [← aI]; simp only [List.length_replicate]; omega
  refine gA rfl (gE (gS (gS (gR (gA rfl (gE ?_))))))
  obtain ⟨aD, aE, rfl, aS⟩ := ro_slice (hm.ow_rep 0 rfl)
  refine gBk (gNf hm (fun aF aG => [(0, (.slice aJ a_.length aK)), (3, (.slice aD aA.length aE)), (4, (nV aF))]) (fun aF aG => [ow [.slice aD aA.length aE] aG]) [0] rfl ?_ ?_)
  ·repeat clear hm
   intro _ _ aF aG w hm aT aV aW _
   refine gS (gS (gR (gM rfl (gM rfl (gY (yV st_43 rfl) (gB rfl (gE (go _ 11 rfl (decide_eq_true (by omega)) (gct rfl (gSk (gS (gBk (gR (gM rfl (gM rfl (gM rfl (gM rfl (gg fun aB aO aH => ?_))))))))))))))))))
   obtain ⟨aX, aY, aZ, he⟩ := idx_form h1 aH
   obtain ⟨rfl, _, rfl⟩ := sl3 he
   refine gI st_43 aO (idx_lt aH) rfl (gY (yl isAgg3 ((flat_cells (cs := [nV aB]) (hm.now h1) aH rfl).cell (j := 0) rfl) rfl) (gg fun aa aP aC => ?_))
   obtain ⟨ab, ac, ae, he⟩ := idx_form (hm.ow_rep 0 rfl) aC
   obtain ⟨rfl, _, rfl⟩ := sl3 he
   have hL1_1 := rep_slice_len (hm.ow_rep 0 rfl)
   refine gI st_43 aP (idx_lt2 aC hL1_1) rfl (gf0 rfl (fun a hf => e_setElem (x1 := aB) (j := 0) (vs := [nV aB]) 0 hf hm rfl aC rfl sizeOf3 rfl rfl rfl (one_cons rfl one_nil) rfl rfl) ?_)
   rintro _ w hm
   have af := List.getElem?_set_self (a := aB) (idx_lt aC)
   exact gE (gR (gM rfl (gP (by omega) (by omega) rfl (gA rfl (gE (gze hm [0] rfl))))))
  repeat clear hm
  intro ah ai w hm aj ak
  exact gS (gS (gR (gM rfl (gM rfl (gY (yV st_43 rfl) (gB rfl (gE (go _ 11 rfl (decide_eq_false (by omega)) (gcf rfl (gXt (gHh (gS (gR (gM rfl (gA rfl (gE (gRt (gr1 results302 rfl ⟨.slice aD aA.length aE, rfl, hm.pk [0] rfl rfl⟩))))))))))))))))))
theorem laws_toPhi_ok (w0 : World) (a_ : Phi_) (v1 : Value) (h1 : GT.rep (hp w0) [v1] a_.args) :
    ConM Tryz.prog 336 [(.agg #[nV a_.to, v1])] w0 (laws_toPhi a_) fun r v w' => ∃ (x1 : Value), v = (.agg #[nV r.to, x1]) ∧ Mem w0 (hp w0) w' [ow [x1] r.args] := by
  unfold laws_toPhi
  refine gcon func336 rfl fun r => ?_
  have hm := Mem.start w0
  refine gS (gR (gBx hm rfl fun aB w hm => gAl hm zeroValue127 rfl fun aC w hm => gE (gS (gR (gAl hm zeroValue127 rfl fun aD w hm => gE (gS (gR (gF fo_275_0 rfl (gL hm 2 isAgg3 rfl (gF fo_127_0 rfl (gS1 hm 0 sizeOf3 rfl rfl fun w hm => gE (gS (gR (gF fo_275_1 rfl (gL hm 2 isAgg43 rfl (gCg rfl call302 (laws_toIntS_ok _ a_.args v1 (hm.now h1)) ?_))))))))))))))))
  rintro aE aF aA w ⟨_, rfl, hB⟩
  replace hm := hm.give hB; clear hB
  exact gF fo_127_1 rfl (gS1 hm 1 sizeOf43 (rep_one (hm.ow_rep 0 rfl)) rfl fun w hm => gE (gS (gR (gY (yn (hm.blk_at 1 rfl) isAgg127 sizeOf127 rfl) (gSN hm 2 sizeOf127 (one_cons rfl (one_cons (rep_one (hm.ow_rep 0 rfl)) one_nil)) rfl fun w hm => gE (gRt (grc 2 results336 hm rfl isAgg127 sizeOf127 ⟨aA, rfl, hm.pk [0] rfl rfl⟩)))))))
theorem laws_toPhiS_ok (w0 : World) (a_ : List Phi_) (v1 : Value) (h1 : GT.rep (hp w0) [v1] a_) :
    ConM Tryz.prog 300 [v1] w0 (laws_toPhiS a_) fun r v w' => ∃ (x1 : Value), v = x1 ∧ Mem w0 (hp w0) w' [ow [x1] r] := by
  unfold laws_toPhiS
  refine gcon func300 rfl fun r => ?_
  have hm := Mem.start w0
  refine gS (gR (gA rfl (gE (gS (gR (gM rfl ?_))))))
  obtain ⟨aM, aN, rfl, aY⟩ := ro_slice h1
  refine gY (yV st_195 rfl) (gb fun aB aO => ?_)
  obtain ⟨⟨aP, aQ⟩, aJ⟩ := makeM_some.1 aO
  refine gf rfl (fun a hf => e_make (x0 := ((⟨0, []⟩ : Phi_) : Phi_)) et_60 (fun _ => ⟨[nV 0], [.slice none 0 0], rfl, fun _ => False, fun _ => False, fun _ h => h.elim, fun _ h => h.elim, fun _ h => h.elim, (Flat.own_iff.2 rfl), (own_list.2 (.inl ⟨rfl, rfl⟩))⟩) hf hm rfl rfl rfl aP (Int.le_refl _) aQ) ?_
  rintro aZ w hm
  rw [aJ] at hm
  have h0_1l : (aB.length : Int) = (a_.length : Int) := by rw [← aJ]; simp only [List.length_replicate]; omega
  refine gA rfl (gE (gS (gS (gR (gA rfl (gE ?_))))))
  obtain ⟨aF, aC, rfl, aa⟩ := ro_slice (hm.ow_rep 0 rfl)
  refine gBk (gNf hm (fun aG aD => [(0, (.slice aM a_.length aN)), (3, (.slice aF aB.length aC)), (4, (nV aG))]) (fun aG aD => [ow [.slice aF aB.length aC] aD]) [0] rfl ?_ ?_)
  ·repeat clear hm
   intro _ _ aG aD w hm ab ac ae _
   refine gS (gS (gR (gM rfl (gM rfl (gY (yV st_195 rfl) (gB rfl (gE (go _ 11 rfl (decide_eq_true (by omega)) (gct rfl (gSk (gS (gBk (gR (gM rfl (gM rfl (gM rfl (gM rfl (gg fun aR aS aH => ?_))))))))))))))))))
   obtain ⟨af, ah, ai, he⟩ := idx_form' h1 aH
   obtain ⟨rfl, _, rfl⟩ := sl3 he
   obtain ⟨aT, aV, aW⟩ := rk_Phi_ h1 aH
   refine gI st_195 aS (idx_lt aH) rfl (gY (yn (aV.mono hm.lez) isAgg275 sizeOf275 rfl) (gCg rfl call336 (laws_toPhi_ok _ aR aT (hm.now aW)) ?_))
   rintro aA aj ak w ⟨aI, rfl, hB⟩
   replace hm := hm.give hB; clear hB
   refine gg fun al aX aE => ?_
   obtain ⟨aK, aL, am, he⟩ := idx_form' (hm.ow_rep 1 rfl) aE
   obtain ⟨rfl, _, rfl⟩ := sl3 he
   obtain ⟨an, ao, ap⟩ := rk_Phi_ (hm.ow_rep 1 rfl) aE
   have hL1_1 := rep_slice_len (hm.ow_rep 1 rfl)
   refine gI st_60 aX (idx_lt2 aE hL1_1) rfl ?_
   replace hm : Mem w0 (hp w0) _ [ow [nV aA.to, aI] (aA : Phi_), ow [sV aK aL aB.length aC] aD] := mk_Phi_ aA.to hm 0 rfl
   replace hm := (hm.both 1 0 (by decide) rfl rfl).pk (L' := [both (ow [sV aK aL aB.length aC] aD) (ow [nV aA.to, aI] (aA : Phi_))]) [1] rfl rfl
   refine gf0 rfl (fun a hf => e_putElem (x1 := (aA : Phi_)) (vs := [nV aA.to, aI]) 0 hf hm rfl aE rfl sizeOf127 rfl rfl rfl rfl) ?_
   rintro _ w hm
   have aq := List.getElem?_set_self (a := (aA : Phi_)) (idx_lt aE)
   exact gE (gR (gM rfl (gP (by omega) (by omega) rfl (gA rfl (gE (gze hm [0] rfl))))))
  repeat clear hm
  intro ar au w hm av aw
  exact gS (gS (gR (gM rfl (gM rfl (gY (yV st_195 rfl) (gB rfl (gE (go _ 11 rfl (decide_eq_false (by omega)) (gcf rfl (gXt (gHh (gS (gR (gM rfl (gA rfl (gE (gRt (gr1 results300 rfl ⟨.slice aF aB.length aC, rfl, hm.pk [0] rfl rfl⟩))))))))))))))))))
theorem laws_toIns_ok (w0 : World) (a_ : Ins_) (v1 : Value) (h1 : GT.rep (hp w0) [v1] a_.args) :
    ConM Tryz.prog 337 [(.agg #[nV a_.op, nV a_.to, v1, nV a_.n_])] w0 (laws_toIns a_) fun r v w' => ∃ (x1 : Value), v = (.agg #[nV r.op, nV r.to, x1, nV r.n_]) ∧ Mem w0 (hp w0) w' [ow [x1] r.args] := by
  unfold laws_toIns
  refine gcon func337 rfl fun r => ?_
  have hm := Mem.start w0
  refine gS (gR (gBx hm rfl fun aB w hm => gAl hm zeroValue65 rfl fun aC w hm => gE (gS (gR (gAl hm zeroValue65 rfl fun aD w hm => gE (gS (gR (gF fo_277_0 rfl (gL hm 2 isAgg3 rfl (gF fo_65_0 rfl (gS1 hm 0 sizeOf3 rfl rfl fun w hm => gE (gS (gR (gF fo_277_1 rfl (gL hm 2 isAgg3 rfl (gF fo_65_1 rfl (gS1 hm 0 sizeOf3 rfl rfl fun w hm => gE (gS (gR (gF fo_277_2 rfl (gL hm 2 isAgg43 rfl (gCg rfl call302 (laws_toIntS_ok _ a_.args v1 (hm.now h1)) ?_))))))))))))))))))))))
  rintro aE aF aA w ⟨_, rfl, hB⟩
  replace hm := hm.give hB; clear hB
  exact gF fo_65_2 rfl (gS1 hm 1 sizeOf43 (rep_one (hm.ow_rep 0 rfl)) rfl fun w hm => gE (gS (gR (gF fo_277_3 rfl (gL hm 3 isAgg3 rfl (gF fo_65_3 rfl (gS1 hm 1 sizeOf3 rfl rfl fun w hm => gE (gS (gR (gY (yn (hm.blk_at 1 rfl) isAgg65 sizeOf65 rfl) (gSN hm 2 sizeOf65 (one_cons rfl (one_cons rfl (one_cons (rep_one (hm.ow_rep 0 rfl)) (one_cons rfl one_nil)))) rfl fun w hm => gE (gRt (grc 2 results337 hm rfl isAgg65 sizeOf65 ⟨aA, rfl, hm.pk [0] rfl rfl⟩)))))))))))))
theorem laws_toInsS_ok (w0 : World) (a_ : List Ins_) (v1 : Value) (h1 : GT.rep (hp w0) [v1] a_) :
    ConM Tryz.prog 301 [v1] w0 (laws_toInsS a_) fun r v w' => ∃ (x1 : Value), v = x1 ∧ Mem w0 (hp w0) w' [ow [x1] r] := by
  unfold laws_toInsS
  refine gcon func301 rfl fun r => ?_
  have hm := Mem.start w0
  refine gS (gR (gA rfl (gE (gS (gR (gM rfl ?_))))))
  obtain ⟨aM, aN, rfl, aY⟩ := ro_slice h1
  refine gY (yV st_196 rfl) (gb fun aB aO => ?_)
  obtain ⟨⟨aP, aQ⟩, aJ⟩ := makeM_some.1 aO
  refine gf rfl (fun a hf => e_make (x0 := ((⟨0, 0, [], 0⟩ : Ins_) : Ins_)) et_61 (fun _ => ⟨[nV 0], [nV 0, .slice none 0 0, nV 0], rfl, fun _ => False, fun _ => False, fun _ h => h.elim, fun _ h => h.elim, fun _ h => h.elim, (Flat.own_iff.2 rfl), ⟨[nV 0], [.slice none 0 0, nV 0], rfl, fun _ => False, fun _ => False, fun _ h => h.elim, fun _ h => h.elim, fun _ h => h.elim, (Flat.own_iff.2 rfl), ⟨[.slice none 0 0], [nV 0], rfl, fun _ => False, fun _ => False, fun _ h => h.elim, fun _ h => h.elim, fun _ h => h.elim, (own_list.2 (.inl ⟨rfl, rfl⟩)), (Flat.own_iff.2 rfl)⟩⟩⟩) hf hm rfl rfl rfl aP (Int.le_refl _) aQ) ?_
  rintro aZ w hm
  rw [aJ] at hm
  have h0_1l : (aB.length : Int) = (a_.length : Int) := by rw [← aJ]; simp only [List.length_replicate]; omega
  refine gA rfl (gE (gS (gS (gR (gA rfl (gE ?_))))))
  obtain ⟨aF, aC, rfl, aa⟩ := ro_slice (hm.ow_rep 0 rfl)
  refine gBk (gNf hm (fun aG aD => [(0, (.slice aM a_.length aN)), (3, (.slice aF aB.length aC)), (4, (nV aG))]) (fun aG aD => [ow [.slice aF aB.length aC] aD]) [0] rfl ?_ ?_)
  ·repeat clear hm
   intro _ _ aG aD w hm ab ac ae _
   refine gS (gS (gR (gM rfl (gM rfl (gY (yV st_196 rfl) (gB rfl (gE (go _ 11 rfl (decide_eq_true (by omega)) (gct rfl (gSk (gS (gBk (gR (gM rfl (gM rfl (gM rfl (gM rfl (gg fun aR aS aH => ?_))))))))))))))))))
   obtain ⟨af, ah, ai, he⟩ := idx_form' h1 aH
   obtain ⟨rfl, _, rfl⟩ := sl3 he
   obtain ⟨aT, aV, aW⟩ := rk_Ins_ h1 aH
   refine gI st_196 aS (idx_lt aH) rfl (gY (yn (aV.mono hm.lez) isAgg277 sizeOf277 rfl) (gCg rfl call337 (laws_toIns_ok _ aR aT (hm.now aW)) ?_))
   rintro aA aj ak w ⟨aI, rfl, hB⟩
   replace hm := hm.give hB; clear hB
   refine gg fun al aX aE => ?_
   obtain ⟨aK, aL, am, he⟩ := idx_form' (hm.ow_rep 1 rfl) aE
   obtain ⟨rfl, _, rfl⟩ := sl3 he
   obtain ⟨an, ao, ap⟩ := rk_Ins_ (hm.ow_rep 1 rfl) aE
   have hL1_1 := rep_slice_len (hm.ow_rep 1 rfl)
   refine gI st_61 aX (idx_lt2 aE hL1_1) rfl ?_
   replace hm : Mem w0 (hp w0) _ [ow [nV aA.op, nV aA.to, aI, nV aA.n_] (aA : Ins_), ow [sV aK aL aB.length aC] aD] := mk_Ins_ aA.op aA.to aA.n_ hm 0 rfl
   replace hm := (hm.both 1 0 (by decide) rfl rfl).pk (L' := [both (ow [sV aK aL aB.length aC] aD) (ow [nV aA.op, nV aA.to, aI, nV aA.n_] (aA : Ins_))]) [1] rfl rfl
   refine gf0 rfl (fun a hf => e_putElem (x1 := (aA : Ins_)) (vs := [nV aA.op, nV aA.to, aI, nV aA.n_]) 0 hf hm rfl aE rfl sizeOf65 rfl rfl rfl rfl) ?_
   rintro _ w hm
   have aq := List.getElem?_set_self (a := (aA : Ins_)) (idx_lt aE)
   exact gE (gR (gM rfl (gP (by omega) (by omega) rfl (gA rfl (gE (gze hm [0] rfl))))))
  repeat clear hm
  intro ar au w hm av aw
  exact gS (gS (gR (gM rfl (gM rfl (gY (yV st_196 rfl) (gB rfl (gE (go _ 11 rfl (decide_eq_false (by omega)) (gcf rfl (gXt (gHh (gS (gR (gM rfl (gA rfl (gE (gRt (gr1 results301 rfl ⟨.slice aF aB.length aC, rfl, hm.pk [0] rfl rfl⟩))))))))))))))))))
theorem laws_toBlock_ok (w0 : World) (a_ : Block_) (v1 : Value) (h1 : GT.rep (hp w0) [v1] a_.phis) (v2 : Value) (h2 : GT.rep (hp w0) [v2] a_.ins) (v3 : Value) (h3 : GT.rep (hp w0) [v3] a_.next_) :
    ConM Tryz.prog 236 [(.agg #[v1, v2, nV a_.jump, nV a_.on, v3])] w0 (laws_toBlock a_) fun r v w' => ∃ (x1 : Value) (x2 : Value) (x3 : Value), v = (.agg #[x1, x2, nV r.jump, nV r.on, x3]) ∧ Mem w0 (hp w0) w' [ow [x1] r.phis, ow [x2] r.ins, ow [x3] r.next_] := by
  unfold laws_toBlock
  refine gcon func236 rfl fun r => ?_
  have hm := Mem.start w0
  refine gS (gR (gBx hm rfl fun aD w hm => gAl hm zeroValue63 rfl fun aE w hm => gE (gS (gR (gAl hm zeroValue63 rfl fun aF w hm => gE (gS (gR (gF fo_198_0 rfl (gL hm 2 isAgg195 rfl (gCg rfl call300 (laws_toPhiS_ok _ a_.phis v1 (hm.now h1)) ?_))))))))))
  rintro aG aH aA w ⟨_, rfl, hB⟩
  replace hm := hm.give hB; clear hB
  refine gF fo_63_0 rfl (gS1 hm 1 sizeOf60 (rep_one (hm.ow_rep 0 rfl)) rfl fun w hm => gE (gS (gR (gF fo_198_1 rfl (gL hm 3 isAgg196 rfl (gCg rfl call301 (laws_toInsS_ok _ a_.ins v2 (hm.now h2)) ?_))))))
  rintro aI aJ aB w ⟨_, rfl, hB⟩
  replace hm := hm.give hB; clear hB
  refine gF fo_63_1 rfl (gS1 hm 2 sizeOf61 (rep_one (hm.ow_rep 0 rfl)) rfl fun w hm => gE (gS (gR (gF fo_198_2 rfl (gL hm 4 isAgg3 rfl (gF fo_63_2 rfl (gS1 hm 2 sizeOf3 rfl rfl fun w hm => gE (gS (gR (gF fo_198_3 rfl (gL hm 4 isAgg3 rfl (gF fo_63_3 rfl (gS1 hm 2 sizeOf3 rfl rfl fun w hm => gE (gS (gR (gF fo_198_4 rfl (gL hm 4 isAgg43 rfl (gCg rfl call302 (laws_toIntS_ok _ a_.next_ v3 (hm.now h3)) ?_))))))))))))))))))
  rintro aK aL aC w ⟨_, rfl, hB⟩
  replace hm := hm.give hB; clear hB
  exact gF fo_63_4 rfl (gS1 hm 3 sizeOf43 (rep_one (hm.ow_rep 0 rfl)) rfl fun w hm => gE (gS (gR (gY (yn (hm.blk_at 3 rfl) isAgg63 sizeOf63 rfl) (gSN hm 4 sizeOf63 (one_cons (rep_one (hm.ow_rep 2 rfl)) (one_cons (rep_one (hm.ow_rep 1 rfl)) (one_cons rfl (one_cons rfl (one_cons (rep_one (hm.ow_rep 0 rfl)) one_nil))))) rfl fun w hm => gE (gRt (grc 4 results236 hm rfl isAgg63 sizeOf63 ⟨aA, aB, aC, rfl, hm.pk [2, 1, 0] rfl rfl⟩)))))))
theorem laws_toBlockS_ok (w0 : World) (a_ : List Block_) (v1 : Value) (h1 : GT.rep (hp w0) [v1] a_) :
    ConM Tryz.prog 157 [v1] w0 (laws_toBlockS a_) fun r v w' => ∃ (x1 : Value), v = x1 ∧ Mem w0 (hp w0) w' [ow [x1] r] := by
  unfold laws_toBlockS
  refine gcon func157 rfl fun r => ?_
  have hm := Mem.start w0
  refine gS (gR (gA rfl (gE (gS (gR (gM rfl ?_))))))
  obtain ⟨aO, aP, rfl, af⟩ := ro_slice h1
  refine gY (yV st_86 rfl) (gb fun aB aQ => ?_)
  obtain ⟨⟨aR, aS⟩, aL⟩ := makeM_some.1 aQ
  refine gf rfl (fun a hf => e_make (x0 := ((⟨[], [], 0, 0, []⟩ : Block_) : Block_)) et_47 (fun _ => ⟨[.slice none 0 0], [.slice none 0 0, nV 0, nV 0, .slice none 0 0], rfl, fun _ => False, fun _ => False, fun _ h => h.elim, fun _ h => h.elim, fun _ h => h.elim, (own_list.2 (.inl ⟨rfl, rfl⟩)), ⟨[.slice none 0 0], [nV 0, nV 0, .slice none 0 0], rfl, fun _ => False, fun _ => False, fun _ h => h.elim, fun _ h => h.elim, fun _ h => h.elim, (own_list.2 (.inl ⟨rfl, rfl⟩)), ⟨[nV 0], [nV 0, .slice none 0 0], rfl, fun _ => False, fun _ => False, fun _ h => h.elim, fun _ h => h.elim, fun _ h => h.elim, (Flat.own_iff.2 rfl), ⟨[nV 0], [.slice none 0 0], rfl, fun _ => False, fun _ => False, fun _ h => h.elim, fun _ h => h.elim, fun _ h => h.elim, (Flat.own_iff.2 rfl), (own_list.2 (.inl ⟨rfl, rfl⟩))⟩⟩⟩⟩) hf hm rfl rfl rfl aR (Int.le_refl _) aS) ?_
  rintro ah w hm
  rw [aL] at hm
  have h0_1l : (aB.length : Int) = (a_.length : Int) := by rw [← aL]; simp only [List.length_replicate]; omega
  refine gA rfl (gE (gS (gS (gR (gA rfl (gE ?_))))))
  obtain ⟨aF, aC, rfl, ai⟩ := ro_slice (hm.ow_rep 0 rfl)
  refine gBk (gNf hm (fun aG aD => [(0, (.slice aO a_.length aP)), (3, (.slice aF aB.length aC)), (4, (nV aG))]) (fun aG aD => [ow [.slice aF aB.length aC] aD]) [0] rfl ?_ ?_)
  ·repeat clear hm
   intro _ _ aG aD w hm aj ak al _
   refine gS (gS (gR (gM rfl (gM rfl (gY (yV st_86 rfl) (gB rfl (gE (go _ 11 rfl (decide_eq_true (by omega)) (gct rfl (gSk (gS (gBk (gR (gM rfl (gM rfl (gM rfl (gM rfl (gg fun aT aV aH => ?_))))))))))))))))))
   obtain ⟨am, an, ao, he⟩ := idx_form' h1 aH
   obtain ⟨rfl, _, rfl⟩ := sl3 he
   obtain ⟨aW, aX, aY, aZ, aa, ab, ac⟩ := rk_Block_ h1 aH
   refine gI st_86 aV (idx_lt aH) rfl (gY (yn (aZ.mono hm.lez) isAgg198 sizeOf198 rfl) (gCg rfl call236 (laws_toBlock_ok _ aT aW (hm.now aa) aX (hm.now ab) aY (hm.now ac)) ?_))
   rintro aA ap aq w ⟨aI, aJ, aK, rfl, hB⟩
   replace hm := hm.give hB; clear hB
   refine gg fun ar ae aE => ?_
   obtain ⟨aM, aN, au, he⟩ := idx_form' (hm.ow_rep 3 rfl) aE
   obtain ⟨rfl, _, rfl⟩ := sl3 he
   obtain ⟨av, aw, ax, ay, az, bA, bB⟩ := rk_Block_ (hm.ow_rep 3 rfl) aE
   have hL1_1 := rep_slice_len (hm.ow_rep 3 rfl)
   refine gI st_47 ae (idx_lt2 aE hL1_1) rfl ?_
   replace hm := (mk_Block_ aA.jump aA.on hm 0 1 2 rfl).pk (L' := [ow [aI, aJ, nV aA.jump, nV aA.on, aK] (aA : Block_), ow [sV aM aN aB.length aC] aD]) [0, 3] rfl rfl
   replace hm := (hm.both 1 0 (by decide) rfl rfl).pk (L' := [both (ow [sV aM aN aB.length aC] aD) (ow [aI, aJ, nV aA.jump, nV aA.on, aK] (aA : Block_))]) [1] rfl rfl
   refine gf0 rfl (fun a hf => e_putElem (x1 := (aA : Block_)) (vs := [aI, aJ, nV aA.jump, nV aA.on, aK]) 0 hf hm rfl aE rfl sizeOf63 rfl rfl rfl rfl) ?_
   rintro _ w hm
   have bC := List.getElem?_set_self (a := (aA : Block_)) (idx_lt aE)
   exact gE (gR (gM rfl (gP (by omega) (by omega) rfl (gA rfl (gE (gze hm [0] rfl))))))
  repeat clear hm
  intro bD bE w hm bF bG
  exact gS (gS (gR (gM rfl (gM rfl (gY (yV st_86 rfl) (gB rfl (gE (go _ 11 rfl (decide_eq_false (by omega)) (gcf rfl (gXt (gHh (gS (gR (gM rfl (gA rfl (gE (gRt (gr1 results157 rfl ⟨.slice aF aB.length aC, rfl, hm.pk [0] rfl rfl⟩))))))))))))))))))
theorem laws_toCode_ok (w0 : World) (a_ : Code_) (v1 : Value) (h1 : GT.rep (hp w0) [v1] a_.blocks) :
    ConM Tryz.prog 93 [(.agg #[nV a_.params, nV a_.regs, v1])] w0 (laws_toCode a_) fun r v w' => ∃ (x1 : Value), v = (.agg #[nV r.params, nV r.regs, x1]) ∧ Mem w0 (hp w0) w' [ow [x1] r.blocks] := by
  unfold laws_toCode
  refine gcon func93 rfl fun r => ?_
  have hm := Mem.start w0
  refine gS (gR (gBx hm rfl fun aB w hm => gAl hm zeroValue49 rfl fun aC w hm => gE (gS (gR (gAl hm zeroValue49 rfl fun aD w hm => gE (gS (gR (gF fo_88_0 rfl (gL hm 2 isAgg3 rfl (gF fo_49_0 rfl (gS1 hm 0 sizeOf3 rfl rfl fun w hm => gE (gS (gR (gF fo_88_1 rfl (gL hm 2 isAgg3 rfl (gF fo_49_1 rfl (gS1 hm 0 sizeOf3 rfl rfl fun w hm => gE (gS (gR (gF fo_88_2 rfl (gL hm 2 isAgg86 rfl (gCg rfl call157 (laws_toBlockS_ok _ a_.blocks v1 (hm.now h1)) ?_))))))))))))))))))))))
  rintro aE aF aA w ⟨_, rfl, hB⟩
  replace hm := hm.give hB; clear hB
  exact gF fo_49_2 rfl (gS1 hm 1 sizeOf47 (rep_one (hm.ow_rep 0 rfl)) rfl fun w hm => gE (gS (gR (gY (yn (hm.blk_at 1 rfl) isAgg49 sizeOf49 rfl) (gSN hm 2 sizeOf49 (one_cons rfl (one_cons rfl (one_cons (rep_one (hm.ow_rep 0 rfl)) one_nil))) rfl fun w hm => gE (gRt (grc 2 results93 hm rfl isAgg49 sizeOf49 ⟨aA, rfl, hm.pk [0] rfl rfl⟩)))))))
theorem laws_toCodeS_ok (w0 : World) (a_ : List Code_) (v1 : Value) (h1 : GT.rep (hp w0) [v1] a_) :
    ConM Tryz.prog 45 [v1] w0 (laws_toCodeS a_) fun r v w' => ∃ (x1 : Value), v = x1 ∧ Mem w0 (hp w0) w' [ow [x1] r] := by
  unfold laws_toCodeS
  refine gcon func45 rfl fun r => ?_
  have hm := Mem.start w0
  refine gS (gR (gA rfl (gE (gS (gR (gM rfl ?_))))))
  obtain ⟨aM, aN, rfl, aY⟩ := ro_slice h1
  refine gY (yV st_22 rfl) (gb fun aB aO => ?_)
  obtain ⟨⟨aP, aQ⟩, aJ⟩ := makeM_some.1 aO
  refine gf rfl (fun a hf => e_make (x0 := ((⟨0, 0, []⟩ : Code_) : Code_)) et_26 (fun _ => ⟨[nV 0], [nV 0, .slice none 0 0], rfl, fun _ => False, fun _ => False, fun _ h => h.elim, fun _ h => h.elim, fun _ h => h.elim, (Flat.own_iff.2 rfl), ⟨[nV 0], [.slice none 0 0], rfl, fun _ => False, fun _ => False, fun _ h => h.elim, fun _ h => h.elim, fun _ h => h.elim, (Flat.own_iff.2 rfl), (own_list.2 (.inl ⟨rfl, rfl⟩))⟩⟩) hf hm rfl rfl rfl aP (Int.le_refl _) aQ) ?_
  rintro aZ w hm
  rw [aJ] at hm
  have h0_1l : (aB.length : Int) = (a_.length : Int) := by rw [← aJ]; simp only [List.length_replicate]; omega
  refine gA rfl (gE (gS (gS (gR (gA rfl (gE ?_))))))
  obtain ⟨aF, aC, rfl, aa⟩ := ro_slice (hm.ow_rep 0 rfl)
  refine gBk (gNf hm (fun aG aD => [(0, (.slice aM a_.length aN)), (3, (.slice aF aB.length aC)), (4, (nV aG))]) (fun aG aD => [ow [.slice aF aB.length aC] aD]) [0] rfl ?_ ?_)
  ·repeat clear hm
   intro _ _ aG aD w hm ab ac ae _
   refine gS (gS (gR (gM rfl (gM rfl (gY (yV st_22 rfl) (gB rfl (gE (go _ 11 rfl (decide_eq_true (by omega)) (gct rfl (gSk (gS (gBk (gR (gM rfl (gM rfl (gM rfl (gM rfl (gg fun aR aS aH => ?_))))))))))))))))))
   obtain ⟨af, ah, ai, he⟩ := idx_form' h1 aH
   obtain ⟨rfl, _, rfl⟩ := sl3 he
   obtain ⟨aT, aV, aW⟩ := rk_Code_ h1 aH
   refine gI st_22 aS (idx_lt aH) rfl (gY (yn (aV.mono hm.lez) isAgg88 sizeOf88 rfl) (gCg rfl call93 (laws_toCode_ok _ aR aT (hm.now aW)) ?_))
   rintro aA aj ak w ⟨aI, rfl, hB⟩
   replace hm := hm.give hB; clear hB
   refine gg fun al aX aE => ?_
   obtain ⟨aK, aL, am, he⟩ := idx_form' (hm.ow_rep 1 rfl) aE
   obtain ⟨rfl, _, rfl⟩ := sl3 he
   obtain ⟨an, ao, ap⟩ := rk_Code_ (hm.ow_rep 1 rfl) aE
   have hL1_1 := rep_slice_len (hm.ow_rep 1 rfl)
   refine gI st_26 aX (idx_lt2 aE hL1_1) rfl ?_
   replace hm : Mem w0 (hp w0) _ [ow [nV aA.params, nV aA.regs, aI] (aA : Code_), ow [sV aK aL aB.length aC] aD] := mk_Code_ aA.params aA.regs hm 0 rfl
   replace hm := (hm.both 1 0 (by decide) rfl rfl).pk (L' := [both (ow [sV aK aL aB.length aC] aD) (ow [nV aA.params, nV aA.regs, aI] (aA : Code_))]) [1] rfl rfl
   refine gf0 rfl (fun a hf => e_putElem (x1 := (aA : Code_)) (vs := [nV aA.params, nV aA.regs, aI]) 0 hf hm rfl aE rfl sizeOf49 rfl rfl rfl rfl) ?_
   rintro _ w hm
   have aq := List.getElem?_set_self (a := (aA : Code_)) (idx_lt aE)
   exact gE (gR (gM rfl (gP (by omega) (by omega) rfl (gA rfl (gE (gze hm [0] rfl))))))
  repeat clear hm
  intro ar au w hm av aw
  exact gS (gS (gR (gM rfl (gM rfl (gY (yV st_22 rfl) (gB rfl (gE (go _ 11 rfl (decide_eq_false (by omega)) (gcf rfl (gXt (gHh (gS (gR (gM rfl (gA rfl (gE (gRt (gr1 results45 rfl ⟨.slice aF aB.length aC, rfl, hm.pk [0] rfl rfl⟩))))))))))))))))))
theorem laws_toUnit_ok (w0 : World) (a_ : Unit_) (v1 : Value) (h1 : GT.rep (hp w0) [v1] a_.codes) :
    ConM Tryz.prog 15 [(.agg #[v1])] w0 (laws_toUnit a_) fun r v w' => ∃ (x1 : Value), v = (.agg #[x1]) ∧ Mem w0 (hp w0) w' [ow [x1] r.codes] := by
  unfold laws_toUnit
  refine gcon func15 rfl fun r => ?_
  have hm := Mem.start w0
  refine gS (gR (gBx hm rfl fun aB w hm => gAl hm zeroValue28 rfl fun aC w hm => gE (gS (gR (gAl hm zeroValue28 rfl fun aD w hm => gE (gS (gR (gF fo_24_0 rfl (gL hm 2 isAgg22 rfl (gCg rfl call45 (laws_toCodeS_ok _ a_.codes v1 (hm.now h1)) ?_))))))))))
  rintro aE aF aA w ⟨_, rfl, hB⟩
  replace hm := hm.give hB; clear hB
  exact gF fo_28_0 rfl (gS1 hm 1 sizeOf26 (rep_one (hm.ow_rep 0 rfl)) rfl fun w hm => gE (gS (gR (gY (yn (hm.blk_at 1 rfl) isAgg28 sizeOf28 rfl) (gSN hm 2 sizeOf28 (one_cons (rep_one (hm.ow_rep 0 rfl)) one_nil) rfl fun w hm => gE (gRt (grc 2 results15 hm rfl isAgg28 sizeOf28 ⟨aA, rfl, hm.pk [0] rfl rfl⟩)))))))
theorem spec_l1In_ok (w0 : World) (n_ : Int) (low : Int) (high : Int) :
    ConM Tryz.prog 41 [nV n_, nV low, nV high] w0 (spec_l1In n_ low high) fun r v w' => v = (.bool (r)) ∧ Below w0.heap.size w0 w' := by
  unfold spec_l1In
  refine gcon func41 rfl fun r => ?_
  have hm := Mem.start w0
  refine gS (gR (gA rfl (gE (gS (gJ hm (fun aA => [(6, (.bool (aA)))]) (fun aA => []) (fun aA => ?_) ?_)))))
  ·refine gR (gM rfl (gM rfl (gB rfl (gM rfl (gsd 10 rfl (fun aB => ?_) fun aB => ?_)))))
   ·exact gM rfl (gM rfl (gB rfl (gKt rfl (gA rfl (gE (gz hm [] rfl))))))
   exact gO rfl (gO rfl (gO rfl (gKf rfl (gA rfl (gE (gz hm [] rfl))))))
  repeat clear hm
  intro aA w hm
  exact gRt (gr1 results41 rfl ⟨rfl, hm.below⟩)
theorem spec_l7Regs_ok (w0 : World) (c_ : Code_) (v1 : Value) (h1 : GT.rep (hp w0) [v1] c_.blocks) (list : List Int) (v2 : Value) (h2 : GT.rep (hp w0) [v2] list) :
    ConM Tryz.prog 154 [(.agg #[nV c_.params, nV c_.regs, v1]), v2] w0 (spec_l7Regs c_ list) fun r v w' => v = (.bool (r)) ∧ Below w0.heap.size w0 w' := by
  unfold spec_l7Regs
  refine gcon func154 rfl fun r => ?_
  have hm := Mem.start w0
  refine gS (gR (gBx hm rfl fun aA w hm => gA rfl (gE (gS (gS (gR (gA rfl (gE (gBk (gNf hm (fun aB aD => [(1, v2), (2, (pV aA)), (5, (nV aB))]) (fun aB aD => [blk aA [nV c_.params, nV c_.regs, v1] 49]) [0] rfl ?_ ?_))))))))))
  ·repeat clear hm
   intro aK aF aB aD w hm aL aM aN aG
   refine gS (gS (gR (gM rfl (gM rfl ?_))))
   obtain ⟨aO, aP, rfl, aQ⟩ := ro_slice h2
   refine gY (yV st_43 rfl) (gB rfl (gE (go _ 9 rfl (decide_eq_true (by omega)) (gct rfl (gSk (gS (gBk (gS (gW (.p 0 (.p 1 (.p 2 (.p 4 (.q 3 (.e 5 (.p 6 (.e 7 (.p 8 .fin) .nil)) .nil)))))) [5] [0, 1, 2, 4, 6, 8] hm [0] [blk aA [nV c_.params, nV c_.regs, v1] 49] rfl mxo (by kernel_rfl) (fun _ _ _ h => h.2) fun w hm hS => tP rfl (fun w => yM rfl) (tP rfl (fun w => yM rfl) (gg fun aE aH aC => ?_)))))))))))
   obtain ⟨aR, aS, aT, he⟩ := idx_form h2 aC
   obtain ⟨rfl, _, rfl⟩ := sl3 he
   refine tP rfl (fun w => yI st_43 aH (idx_lt aC) rfl) (tP rfl (fun w => yF fo_49_1 rfl) (tQ rfl hS (fun w hm => yl isAgg3 ((flat_cells (cs := [nV aE]) (hm.now h2) aC rfl).cell (j := 0) rfl) rfl) (tO (tY rfl (yL hm 0 isAgg3 rfl) (tAs hS (tP rfl (fun w => yB rfl) (tO (gb fun aV aI => tf rfl rfl (fun a hf => e_call hf rfl call41 rfl (spec_l1In_ok _ aE 0 (w64 (c_.regs - 1)) _ aI)) ?_))))))))
   rintro aW w ⟨rfl, hB⟩
   replace hm := hm.below' hB; clear hB
   refine tAn rfl (tP rfl (fun w => yN rfl) (tE (gsn 20 rfl (fun aJ => ?_) fun aJ => ?_)))
   ·exact gct rfl (gS (gR (gA rfl (gE (gRt (gLr aG aF (gr1 results154 rfl ⟨rfl, hm.below⟩)))))))
   exact gcf rfl (gSk (gR (gM rfl (gP (by omega) (by omega) rfl (gA rfl (gE (gze hm [0] rfl)))))))
  repeat clear hm
  intro aX aY w hm aZ aa
  refine gS (gS (gR (gM rfl (gM rfl ?_))))
  obtain ⟨ab, ac, rfl, ae⟩ := ro_slice h2
  exact gY (yV st_43 rfl) (gB rfl (gE (go _ 9 rfl (decide_eq_false (by omega)) (gcf rfl (gXt (gHh (gS (gR (gA rfl (gE (gRt (gr1 results154 rfl ⟨rfl, hm.below⟩))))))))))))
theorem spec_l7Makes_ok (w0 : World) (op : Int) :
    ConM Tryz.prog 89 [nV op] w0 (spec_l7Makes op) fun r v w' => v = (.bool (r)) ∧ Below w0.heap.size w0 w' := by
  unfold spec_l7Makes
  refine gcon func89 rfl fun r => ?_
  have hm := Mem.start w0
  refine gS (gR (gA rfl (gE (gS (gJ hm (fun aA => [(2, (.bool (aA)))]) (fun aA => []) (fun aA => ?_) ?_)))))
  ·refine gR (gM rfl (gC hm rfl call41 (spec_l1In_ok _ op 1 14) fun aD aE w hm => gM rfl (gs 5 rfl (fun aB => ?_) fun aB => ?_)))
   ·refine gM rfl (gB rfl (gKt rfl (gM rfl (gsd 9 rfl (fun aC => ?_) fun aC => ?_))))
    ·exact gM rfl (gB rfl (gKt rfl (gA rfl (gE (gz hm [] rfl)))))
    exact gO rfl (gO rfl (gKf rfl (gA rfl (gE (gz hm [] rfl)))))
   exact gO rfl (gO rfl (gKf rfl (gM rfl (gO rfl (gO rfl (gKf rfl (gA rfl (gE (gz hm [] rfl)))))))))
  repeat clear hm
  intro aA w hm
  exact gRt (gr1 results89 rfl ⟨rfl, hm.below⟩)
theorem spec_l7Args_ok (w0 : World) (op : Int) :
    ConM Tryz.prog 234 [nV op] w0 (spec_l7Args op) fun r v w' => v = (nV r) ∧ Below w0.heap.size w0 w' := by
  unfold spec_l7Args
  refine gcon func234 rfl fun r => ?_
  have hm := Mem.start w0
  refine gS (gR (gA rfl (gE (gS (gBk (gS (gR (gM rfl (gB rfl (gA rfl (gE (gsd 3 rfl (fun aC => ?_) fun aC => ?_))))))))))))
  ·exact gct rfl (gS (gR (gA rfl (gE (gRt (gr1 results234 rfl ⟨rfl, hm.below⟩))))))
  refine gcf rfl (gS (gJ hm (fun aA => [(0, (nV op)), (6, (.bool (aA)))]) (fun aA => []) (fun aA => ?_) ?_))
  ·refine gR (gM rfl (gB rfl (gM rfl (gsd 9 rfl (fun aD => ?_) fun aD => ?_))))
   ·exact gO rfl (gO rfl (gKt rfl (gM rfl (gO rfl (gO rfl (gKt rfl (gM rfl (gO rfl (gO rfl (gKt rfl (gA rfl (gE (gz hm [] rfl)))))))))))))
   refine gM rfl (gB rfl (gKf rfl (gM rfl (gsd 13 rfl (fun aE => ?_) fun aE => ?_))))
   ·exact gO rfl (gO rfl (gKt rfl (gM rfl (gO rfl (gO rfl (gKt rfl (gA rfl (gE (gz hm [] rfl)))))))))
   refine gM rfl (gB rfl (gKf rfl (gM rfl (gsd 17 rfl (fun aF => ?_) fun aF => ?_))))
   ·exact gO rfl (gO rfl (gKt rfl (gA rfl (gE (gz hm [] rfl)))))
   exact gM rfl (gB rfl (gKf rfl (gA rfl (gE (gz hm [] rfl)))))
  repeat clear hm
  intro aA w hm
  refine gs 6 rfl (fun aG => ?_) fun aG => ?_
  ·exact gct rfl (gS (gR (gA rfl (gE (gRt (gr1 results234 rfl ⟨rfl, hm.below⟩))))))
  refine gcf rfl (gS (gJ hm (fun aB => [(21, (.bool (aB)))]) (fun aB => []) (fun aB => ?_) ?_))
  ·refine gR (gM rfl (gC hm rfl call41 (spec_l1In_ok _ op 3 9) fun aJ aK w hm => gM rfl (gs 24 rfl (fun aH => ?_) fun aH => ?_)))
   ·exact gO rfl (gO rfl (gKt rfl (gA rfl (gE (gz hm [] rfl)))))
   exact gM rfl (gB rfl (gKf rfl (gA rfl (gE (gz hm [] rfl)))))
  repeat clear hm
  intro aB w hm
  refine gs 21 rfl (fun aI => ?_) fun aI => ?_
  ·exact gct rfl (gS (gR (gA rfl (gE (gRt (gr1 results234 rfl ⟨rfl, hm.below⟩))))))
  exact gcf rfl (gSk (gS (gR (gA rfl (gE (gRt (gr1 results234 rfl ⟨rfl, hm.below⟩)))))))
theorem spec_l7Ins_ok (w0 : World) (u : Unit_) (v1 : Value) (h1 : GT.rep (hp w0) [v1] u.codes) (k_ : Int) (x_ : Ins_) (v2 : Value) (h2 : GT.rep (hp w0) [v2] x_.args) :
    ConM Tryz.prog 153 [(.agg #[v1]), nV k_, (.agg #[nV x_.op, nV x_.to, v2, nV x_.n_])] w0 (spec_l7Ins u k_ x_) fun r v w' => v = (.bool (r)) ∧ Below w0.heap.size w0 w' := by
  unfold spec_l7Ins
  refine gcon func153 rfl fun r => ?_
  have hm := Mem.start w0
  refine gS (gR (gBx hm rfl fun aA w hm => gBx hm rfl fun aB w hm => gA rfl (gE (gS (gR (gF fo_28_0 rfl (gL hm 1 isAgg26 rfl (gM rfl (gg fun aC aP aK => ?_)))))))))
  obtain ⟨aD, aE, aF, he⟩ := idx_form' h1 aK
  subst he
  obtain ⟨aL, aQ, aN⟩ := rk_Code_ h1 aK
  refine gI st_26 aP (idx_lt aK) rfl (gY (yn (aQ.mono hm.lez) isAgg49 sizeOf49 rfl) (gAl hm zeroValue49 rfl fun aM w hm => gSN hm 0 sizeOf49 (one_cons rfl (one_cons rfl (one_cons (rep_one aN) one_nil))) rfl fun w hm => gE (gS (gS (gJ hm (fun aG => [(1, (nV k_)), (3, (pV aA)), (5, (pV aB)), (7, (pV aM)), (23, (.bool (aG)))]) (fun aG => [blk aA [sV aD aE u.codes.length aF] 28, blk aB [nV x_.op, nV x_.to, v2, nV x_.n_] 65, blk aM [nV aC.params, nV aC.regs, aL] 49]) (fun aG => ?_) ?_)))))
  ·refine gR (gF fo_65_0 rfl (gL hm 1 isAgg3 rfl (gC hm rfl call41 (spec_l1In_ok _ x_.op 1 14) fun am an w hm => gN rfl (gM rfl (gsn 17 rfl (fun aR => ?_) fun aR => ?_)))))
   ·exact gO rfl (gO rfl (gO rfl (gO rfl (gO rfl (gKt rfl (gE (gz hm [2, 1, 0] rfl)))))))
   exact gY (yn (hm.blk_at 0 rfl) isAgg49 sizeOf49 rfl) (gF fo_65_2 rfl (gL hm 1 isAgg43 rfl (gC hm rfl call154 (spec_l7Regs_ok _ aC aL (hm.now aN) x_.args v2 (hm.now h2)) fun ao ap w hm => gN rfl (gKf rfl (gE (gz hm [2, 1, 0] rfl))))))
  repeat clear hm
  intro aG w hm
  refine gs 23 rfl (fun aS => ?_) fun aS => ?_
  ·exact gct rfl (gS (gR (gA rfl (gE (gRt (gr1 results153 rfl ⟨rfl, hm.below⟩))))))
  refine gcf rfl (gSk (gS (gS (gJ hm (fun aH => [(1, (nV k_)), (3, (pV aA)), (5, (pV aB)), (44, (.bool (aH)))]) (fun aH => [blk aA [sV aD aE u.codes.length aF] 28, blk aB [nV x_.op, nV x_.to, v2, nV x_.n_] 65]) (fun aH => ?_) ?_))))
  ·refine gW (.p 0 (.p 3 (.p 5 (.q 1 (.q 4 (.q 6 (.p 7 (.e 2 (.e 8 (.p 9 (.p 10 (.p 11 (.e 12 (.e 13 (.p 14 (.p 15 (.p 16 (.e 17 (.p 18 (.p 19 (.p 20 .fin))) .nil)))) .nil) .nil)))) .nil) .nil)))))))) [1, 2, 4, 6] [0, 3, 5, 7, 9, 10, 11, 14, 15, 16, 18, 19, 20] hm [0, 1, 2] [blk aA [sV aD aE u.codes.length aF] 28, blk aB [nV x_.op, nV x_.to, v2, nV x_.n_] 65, blk aM [nV aC.params, nV aC.regs, aL] 49] rfl mxo (by kernel_rfl) (fun _ _ _ h => h.2) fun w hm hS => tP rfl (fun w => yF fo_65_0 rfl) (tP rfl (fun w => yF fo_65_1 rfl) (tP rfl (fun w => yF fo_49_1 rfl) (tQ rfl hS (fun w hm => yL hm 1 isAgg3 rfl) (tQ rfl hS (fun w hm => yL hm 1 isAgg3 rfl) (tQ rfl hS (fun w hm => yL hm 2 isAgg3 rfl) (tP rfl (fun w => yB rfl) (tO (gb fun aq aT => tf rfl rfl (fun a hf => e_call hf rfl call89 rfl (spec_l7Makes_ok _ x_.op _ aT)) ?_))))))))
   rintro ar w ⟨rfl, hB⟩
   replace hm := hm.below' hB; clear hB
   refine tAk hm [0, 1, 2] rfl fun hS => tO (gb fun au aV => tf rfl rfl (fun a hf => e_call hf rfl call41 rfl (spec_l1In_ok _ x_.to 0 (w64 (aC.regs - 1)) _ aV)) ?_)
   rintro av w ⟨rfl, hB⟩
   replace hm := hm.below' hB; clear hB
   refine tAn rfl (tP rfl (fun w => yG rfl (y_neqb underlying4 rfl rfl rfl)) (tP rfl (fun w => yM rfl) (gsd 34 rfl (fun aW => ?_) fun aW => ?_)))
   ·exact tPo rfl rfl (tO (tEo rfl rfl (tAn rfl (tO (tEo rfl rfl (tAn rfl (tPo rfl rfl (tPo rfl rfl (tPo rfl rfl (tO (tEo rfl rfl (tAn rfl (tPo rfl rfl (tPo rfl rfl (tP rfl (fun w => yKt rfl) (tE (gz hm [0, 1] rfl)))))))))))))))))
   refine tP rfl (fun w => yF fo_65_0 rfl) (tO (tY rfl (yL hm 1 isAgg3 rfl) (tAn rfl (tO (gb fun aw aX => tf rfl rfl (fun a hf => e_call hf rfl call89 rfl (spec_l7Makes_ok _ x_.op _ aX)) ?_)))))
   rintro ax w ⟨rfl, hB⟩
   replace hm := hm.below' hB; clear hB
   refine tAn rfl (tP rfl (fun w => yN rfl) (tP rfl (fun w => yM rfl) (gsn 39 rfl (fun aY => ?_) fun aY => ?_)))
   ·exact tP rfl (fun w => yF fo_65_1 rfl) (tO (tY rfl (yL hm 1 isAgg3 rfl) (tAn rfl (tP rfl (fun w => yB rfl) (tP rfl (fun w => yKt rfl) (tP rfl (fun w => yKf rfl) (tE (gz hm [0, 1] rfl))))))))
   exact tPo rfl rfl (tO (tEo rfl rfl (tAn rfl (tPo rfl rfl (tP rfl (fun w => yKf rfl) (tP rfl (fun w => yKf rfl) (tE (gz hm [0, 1] rfl))))))))
  repeat clear hm
  intro aH w hm
  refine gs 44 rfl (fun aZ => ?_) fun aZ => ?_
  ·exact gct rfl (gS (gR (gA rfl (gE (gRt (gr1 results153 rfl ⟨rfl, hm.below⟩))))))
  refine gcf rfl (gSk (gS (gS (gR (gF fo_65_0 rfl (gL hm 1 isAgg3 rfl (gB rfl (gE (gsd 47 rfl (fun aa => ?_) fun aa => ?_)))))))))
  ·refine gct rfl (gS (gJ hm (fun aI => [(6, (.bool (aI)))]) (fun aI => []) (fun aI => ?_) ?_))
   ·refine gW (.p 0 (.p 2 (.p 3 (.e 1 (.e 4 (.p 5 (.p 6 (.p 9 (.p 11 (.q 7 (.p 8 (.q 10 (.e 12 (.p 13 (.p 14 (.e 15 (.p 16 (.p 17 (.p 18 .fin))) .nil))) .nil)))))))) .nil) .nil)))) [7, 10, 12, 15] [0, 2, 3, 5, 6, 8, 9, 11, 13, 14, 16, 17, 18] hm [0, 1] [blk aA [sV aD aE u.codes.length aF] 28, blk aB [nV x_.op, nV x_.to, v2, nV x_.n_] 65] rfl mxo (by kernel_rfl) (fun _ _ _ h => h.2) fun w hm hS => tP rfl (fun w => yF fo_65_3 rfl) (tP rfl (fun w => yM rfl) (tP rfl (fun w => yB rfl) (tO (tY rfl (yL hm 1 isAgg3 rfl) (tAn rfl (tO (gb fun ay ab => tf rfl rfl (fun a hf => e_call hf rfl call41 rfl (spec_l1In_ok _ x_.n_ 0 (w64 (k_ - 1)) _ ab)) ?_)))))))
    rintro az w ⟨rfl, hB⟩
    replace hm := hm.below' hB; clear hB
    refine tAk hm [0, 1] rfl fun hS => tP rfl (fun w => yM rfl) (gs 53 rfl (fun ac => ?_) fun ac => ?_)
    ·refine tP rfl (fun w => yF fo_65_2 rfl) (tP rfl (fun w => yF fo_28_0 rfl) (tP rfl (fun w => yF fo_65_3 rfl) (tQ rfl hS (fun w hm => yL hm 1 isAgg43 rfl) ?_)))
     obtain ⟨bA, bB, rfl, bC⟩ := ro_slice h2
     refine tP rfl (fun w => yV st_43 rfl) (tQ rfl hS (fun w hm => yL hm 0 isAgg26 rfl) (tO (tY rfl (yL hm 1 isAgg3 rfl) (tAs hS (gg fun bD ae aO => ?_)))))
     obtain ⟨bE, af, bF⟩ := rk_Code_ h1 aO
     exact tP rfl (fun w => yI st_26 ae (idx_lt aO) rfl) (tP rfl (fun w => yF fo_49_0 rfl) (tO (tY rfl (yl isAgg3 ((af.mono hm.lez).cell (j := 0) rfl) rfl) (tAs hS (tP rfl (fun w => yB rfl) (tP rfl (fun w => yKt rfl) (tP rfl (fun w => yA rfl) (tE (gz hm [] rfl)))))))))
    exact tPo rfl rfl (tPo rfl rfl (tPo rfl rfl (tQo rfl hS rfl (tPo rfl rfl (tQo rfl hS rfl (tO (tEo rfl rfl (tAs hS (tPo rfl rfl (tPo rfl rfl (tO (tEo rfl rfl (tAs hS (tPo rfl rfl (tP rfl (fun w => yKf rfl) (tP rfl (fun w => yA rfl) (tE (gz hm [] rfl))))))))))))))))))
   repeat clear hm
   intro aI w hm
   exact gRt (gr1 results153 rfl ⟨rfl, hm.below⟩)
  refine gcf rfl (gSk (gS (gJ hm (fun aJ => [(6, (.bool (aJ)))]) (fun aJ => []) (fun aJ => ?_) ?_)))
  ·refine gW (.p 0 (.p 3 (.q 1 (.p 2 (.e 4 (.e 5 (.p 6 (.p 7 (.p 8 (.e 9 (.e 10 (.p 11 (.p 12 (.p 13 (.e 14 (.p 15 (.p 16 (.p 17 (.e 18 (.p 19 (.p 20 (.p 21 (.p 22 .fin)))) .nil)))) .nil)))) .nil) .nil)))) .nil) .nil))))) [4, 5] [0, 2, 3, 6, 7, 8, 11, 12, 13, 15, 16, 17, 19, 20, 21, 22] hm [0, 1] [blk aA [sV aD aE u.codes.length aF] 28, blk aB [nV x_.op, nV x_.to, v2, nV x_.n_] 65] rfl mxo (by kernel_rfl) (fun _ _ _ h => h.2) fun w hm hS => tP rfl (fun w => yF fo_65_2 rfl) (tP rfl (fun w => yF fo_65_0 rfl) (tQ rfl hS (fun w hm => yL hm 1 isAgg43 rfl) ?_))
   obtain ⟨bG, bH, rfl, bJ⟩ := ro_slice h2
   refine tP rfl (fun w => yV st_43 rfl) (tO (tY rfl (yL hm 1 isAgg3 rfl) (tAs hS (tO (gb fun bK ah => tf rfl rfl (fun a hf => e_call hf rfl call234 rfl (spec_l7Args_ok _ x_.op _ ah)) ?_)))))
   rintro bL w ⟨rfl, hB⟩
   replace hm := hm.below' hB; clear hB
   refine tAk hm [0, 1] rfl fun hS => tP rfl (fun w => yB rfl) (tP rfl (fun w => yM rfl) (gsd 73 rfl (fun ai => ?_) fun ai => ?_))
   ·refine tP rfl (fun w => yF fo_65_3 rfl) (tO (tY rfl (yL hm 1 isAgg3 rfl) (tAn rfl (tO (gb fun bM aj => tf rfl rfl (fun a hf => e_call hf rfl call41 rfl (spec_l1In_ok _ x_.n_ 0 255 _ aj)) ?_)))))
    rintro bN w ⟨rfl, hB⟩
    replace hm := hm.below' hB; clear hB
    refine tAn rfl (tP rfl (fun w => yKt rfl) (tP rfl (fun w => yM rfl) (gs 78 rfl (fun ak => ?_) fun ak => ?_)))
    ·refine tP rfl (fun w => yF fo_65_3 rfl) (tO (tY rfl (yL hm 1 isAgg3 rfl) (tAn rfl (tP rfl (fun w => yB rfl) (tP rfl (fun w => yM rfl) (gsd 82 rfl (fun al => ?_) fun al => ?_))))))
     ·exact tPo rfl rfl (tO (tEo rfl rfl (tAn rfl (tPo rfl rfl (tP rfl (fun w => yKt rfl) (tP rfl (fun w => yKt rfl) (tP rfl (fun w => yA rfl) (tE (gz hm [] rfl)))))))))
     exact tP rfl (fun w => yF fo_65_0 rfl) (tO (tY rfl (yL hm 1 isAgg3 rfl) (tAn rfl (tP rfl (fun w => yB rfl) (tP rfl (fun w => yKf rfl) (tP rfl (fun w => yKt rfl) (tP rfl (fun w => yA rfl) (tE (gz hm [] rfl)))))))))
    exact tPo rfl rfl (tO (tEo rfl rfl (tAn rfl (tPo rfl rfl (tPo rfl rfl (tPo rfl rfl (tO (tEo rfl rfl (tAn rfl (tPo rfl rfl (tPo rfl rfl (tP rfl (fun w => yKf rfl) (tP rfl (fun w => yA rfl) (tE (gz hm [] rfl)))))))))))))))
   exact tPo rfl rfl (tO (tEo rfl rfl (tAn rfl (tO (tEo rfl rfl (tAn rfl (tP rfl (fun w => yKf rfl) (tP rfl (fun w => yM rfl) (tPo rfl rfl (tO (tEo rfl rfl (tAn rfl (tPo rfl rfl (tPo rfl rfl (tPo rfl rfl (tO (tEo rfl rfl (tAn rfl (tPo rfl rfl (tPo rfl rfl (tP rfl (fun w => yKf rfl) (tP rfl (fun w => yA rfl) (tE (gz hm [] rfl))))))))))))))))))))))))
  repeat clear hm
  intro aJ w hm
  exact gRt (gr1 results153 rfl ⟨rfl, hm.below⟩)
theorem spec_l7Preds_ok (w0 : World) (c_ : Code_) (v1 : Value) (h1 : GT.rep (hp w0) [v1] c_.blocks) (b_ : Int) :
    ConM Tryz.prog 129 [(.agg #[nV c_.params, nV c_.regs, v1]), nV b_] w0 (spec_l7Preds c_ b_) fun r v w' => ∃ (x1 : Value), v = x1 ∧ Mem w0 (hp w0) w' [ow [x1] r] := by
  unfold spec_l7Preds
  refine gcon func129 rfl fun r => ?_
  have hm := Mem.start w0
  refine gS (gR (gBx hm rfl fun aB w hm => gA rfl (gE (gS (gR (gf rfl (fun a hf => e_build0 (α := Int) et_43 hm rfl) ?_))))))
  rintro af w hm
  refine gA rfl (gE (gS (gS (gR (gA rfl (gE ?_))))))
  obtain ⟨aS, aT, rfl, ah⟩ := ro_slice (hm.ow_rep 0 rfl)
  refine gBk (gNg (fun aA aC a w => ∃ (aF : Value), St 43 [(1, (nV b_)), (2, (pV aB)), (5, aF), (6, (nV aA))] w0 (hp w0) [blk aB [nV c_.params, nV c_.regs, v1] 49, ow [aF] aC] a w) (fun a hf => ⟨.slice aS ([] : List Int).length aT, hf.sb rfl, hm.pk [1, 0] rfl rfl⟩) ?_ ?_)
  ·repeat clear hm
   rintro _ _ aA aC a w ⟨aF, hf, hm⟩ ai aj ak _
   refine gv hf (gS (gS (gR (gM rfl (gF fo_49_2 rfl (gL hm 0 isAgg47 rfl ?_))))))
   obtain ⟨aM, aN, rfl, al⟩ := ro_slice h1
   refine gY (yV st_47 rfl) (gB rfl (gE (go _ 13 rfl (decide_eq_true (by omega)) (gct rfl (gSk (gS (gBk (gS (gR (gA rfl (gE ?_)))))))))))
   obtain ⟨aG, aH, rfl, am⟩ := ro_slice (hm.ow_rep 1 rfl)
   refine gJg (fun aI a w => ∃ (aD : Value), St 43 [(1, (nV b_)), (2, (pV aB)), (5, aD), (6, (nV aA))] w0 (hp w0) [blk aB [nV c_.params, nV c_.regs, .slice aM c_.blocks.length aN] 49, ow [aD] aI] a w) (fun aI => ?_) ?_
   ·refine gBk (gMf hm (fun aJ => [(1, (nV b_)), (2, (pV aB)), (5, (.slice aG aC.length aH)), (6, (nV aA)), (7, (nV aJ))]) (fun aJ => [blk aB [nV c_.params, nV c_.regs, .slice aM c_.blocks.length aN] 49, ow [.slice aG aC.length aH] aC]) [0, 1] rfl ?_)
    repeat clear hm
    intro an aO aJ w hm ao aP
    refine gS (gS (gR (gM rfl (gF fo_49_2 rfl (gL hm 0 isAgg47 rfl (gM rfl (gg fun ap aQ aE => ?_)))))))
    obtain ⟨aq, ar, au, he⟩ := idx_form' h1 aE
    obtain ⟨rfl, _, rfl⟩ := sl3 he
    obtain ⟨av, aw, ax, aR, ay, az, aK⟩ := rk_Block_ h1 aE
    refine gI st_47 aQ (idx_lt aE) rfl (gF fo_63_4 rfl (gY (yl isAgg43 ((aR.mono hm.lez).cell (j := 4) rfl) rfl) ?_))
    obtain ⟨bA, bB, rfl, bC⟩ := ro_slice aK
    refine gY (yV st_43 rfl) (gB rfl (gE (gsd 24 rfl (fun aV => ?_) fun aV => ?_)))
    ·refine gct rfl (gSk (gS (gBk (gS (gR (gF fo_49_2 rfl (gL hm 0 isAgg47 rfl (gM rfl (gI st_47 aQ (idx_lt aE) rfl (gF fo_63_4 rfl (gY (yl isAgg43 ((aR.mono hm.lez).cell (j := 4) rfl) rfl) (gM rfl (gg fun aW aX aL => ?_)))))))))))))
     obtain ⟨bD, bE, bF, he⟩ := idx_form aK aL
     obtain ⟨rfl, _, rfl⟩ := sl3 he
     refine gI st_43 aX (idx_lt aL) rfl (gY (yl isAgg3 ((flat_cells (cs := [nV aW]) (hm.now aK) aL rfl).cell (j := 0) rfl) rfl) (gM rfl (gB rfl (gE (gsd 37 rfl (fun aY => ?_) fun aY => ?_)))))
     ·refine gct rfl (gS (gR (gM rfl (gM rfl (gf rfl (fun a hf => e_build (vs := #[(0, (nV aA))]) (cs := [nV aA]) et_43 hf hm rfl rfl (by kernel_rfl) rfl rfl) ?_)))))
      rintro _ w ⟨bG, rfl, hm⟩
      replace hm := hm.lit (xs := ([aA] : List Int)) 0 rfl rfl rfl rfl
      refine gb fun bH aZ => ?_
      obtain ⟨aa, ab⟩ := appM_some.1 aZ
      refine gf rfl (fun a hf => e_append 2 et_43 hf hm rfl (hm.ow_rep 0 rfl) rfl rfl rfl aa) ?_
      rintro ac w hm
      rw [ab] at hm
      exact gA rfl (gE (gXt (gHm rfl (gHh (gLp aP aO (gZ fun a hf => ⟨ac, hf.sb rfl, hm.pk [1, 2] rfl rfl⟩))))))
     exact gcf rfl (gSk (gR (gM rfl (gB rfl (gA rfl (gE (gze hm [0, 1] rfl)))))))
    exact gcf rfl (gXt (gHh (gLp aP aO (gZ fun a hf => ⟨.slice aG aC.length aH, hf.sb rfl, hm.pk [0, 1] rfl rfl⟩))))
   repeat clear hm
   rintro aI a w ⟨aD, hf, hm⟩
   exact gv hf (gR (gM rfl (gP (by omega) (by omega) rfl (gA rfl (gE (gZe fun a hf => ⟨aD, hf.sb rfl, hm.pk [0, 1] rfl rfl⟩))))))
  repeat clear hm
  rintro bJ bK a w ⟨ae, hf, hm⟩ bL bM
  refine gv hf (gS (gS (gR (gM rfl (gF fo_49_2 rfl (gL hm 0 isAgg47 rfl ?_))))))
  obtain ⟨bN, bO, rfl, bP⟩ := ro_slice h1
  exact gY (yV st_47 rfl) (gB rfl (gE (go _ 13 rfl (decide_eq_false (by omega)) (gcf rfl (gXt (gHh (gS (gR (gM rfl (gA rfl (gE (gRt (gr1 results129 rfl ⟨ae, rfl, hm.pk [1] rfl rfl⟩)))))))))))))
theorem spec_l7Block_ok (w0 : World) (u : Unit_) (v1 : Value) (h1 : GT.rep (hp w0) [v1] u.codes) (k_ : Int) (b_ : Int) :
    ConM Tryz.prog 86 [(.agg #[v1]), nV k_, nV b_] w0 (spec_l7Block u k_ b_) fun r v w' => v = (.bool (r)) ∧ Below w0.heap.size w0 w' := by
  unfold spec_l7Block
  refine gcon func86 rfl fun r => ?_
  have hm := Mem.start w0
  refine gS (gR (gBx hm rfl fun aE w hm => gA rfl (gE (gS (gR (gF fo_28_0 rfl (gL hm 0 isAgg26 rfl (gM rfl (gg fun aB bD af => ?_)))))))))
  obtain ⟨aI, aJ, aK, he⟩ := idx_form' h1 af
  subst he
  obtain ⟨br, bE, aO⟩ := rk_Code_ h1 af
  refine gI st_26 bD (idx_lt af) rfl (gY (yn (bE.mono hm.lez) isAgg49 sizeOf49 rfl) (gAl hm zeroValue49 rfl fun aC w hm => gSN hm 0 sizeOf49 (one_cons rfl (one_cons rfl (one_cons (rep_one aO) one_nil))) rfl fun w hm => gE (gS (gR (gF fo_49_2 rfl (gL hm 0 isAgg47 rfl (gM rfl (gg fun aA bF ah => ?_))))))))
  obtain ⟨aF, aG, aH, he⟩ := idx_form' aO ah
  subst he
  obtain ⟨aL, aN, aQ, bG, aR, aS, aP⟩ := rk_Block_ aO ah
  refine gI st_47 bF (idx_lt ah) rfl (gY (yn (bG.mono hm.lez) isAgg63 sizeOf63 rfl) (gAl hm zeroValue63 rfl fun aD w hm => gSN hm 0 sizeOf63 (one_cons (rep_one aR) (one_cons (rep_one aS) (one_cons rfl (one_cons rfl (one_cons (rep_one aP) one_nil))))) rfl fun w hm => gE (gS (gR (gA rfl (gE (gS (gS (gR (gF fo_63_2 rfl (gL hm 0 isAgg3 rfl (gE (gJge (fun aZ a w => 0 ≤ aA.jump ∧ aA.jump ≤ 3 ∧ 0 ≤ aZ ∧ aZ ≤ 2 ∧ St 136 [(1, (nV k_)), (2, (nV b_)), (3, (pV aE)), (7, (pV aC)), (8, (pV aD)), (9, (nV aZ))] w0 (hp w0) [blk aE [sV aI aJ u.codes.length aK] 28, blk aC [nV aB.params, nV aB.regs, sV aF aG aB.blocks.length aH] 49, blk aD [aL, aN, nV aA.jump, nV aA.on, aQ] 63] a w) (fun bs au => ?_) ?_)))))))))))))
  ·refine gBk (gS (gR (gB rfl (gA rfl (gE (gJge (fun aa a w => 0 ≤ aA.jump ∧ aA.jump ≤ 3 ∧ 0 ≤ aa ∧ aa ≤ 2 ∧ St 136 [(1, (nV k_)), (2, (nV b_)), (3, (pV aE)), (7, (pV aC)), (8, (pV aD)), (9, (nV aa))] w0 (hp w0) [blk aE [sV aI aJ u.codes.length aK] 28, blk aC [nV aB.params, nV aB.regs, sV aF aG aB.blocks.length aH] 49, blk aD [aL, aN, nV aA.jump, nV aA.on, aQ] 63] a w) (fun bt av => ?_) ?_))))))
   ·refine gsd 26 rfl (fun bH => ?_) fun bH => ?_
    ·refine gct rfl (gS (gR (gF fo_63_3 rfl (gL hm 0 isAgg3 rfl (gB rfl (gE (gsd 30 rfl (fun bJ => ?_) fun bJ => ?_)))))))
     ·exact gct rfl (gS (gR (gA rfl (gE (gRt (gEr av (gEr au (gr1 results86 rfl ⟨rfl, hm.below⟩))))))))
     exact gcf rfl (gSk (gZe fun a hf => ⟨(by first | omega | (dsimp only; omega)), (by first | omega | (dsimp only; omega)), (by first | omega | (dsimp only; omega)), (by first | omega | (dsimp only; omega)), hf.sb rfl, hm.pk [2, 1, 0] rfl rfl⟩))
    refine gcf rfl (gS (gR (gB rfl (gA rfl (gE (gJge (fun ab a w => 0 ≤ aA.jump ∧ aA.jump ≤ 3 ∧ 0 ≤ ab ∧ ab ≤ 2 ∧ St 136 [(1, (nV k_)), (2, (nV b_)), (3, (pV aE)), (7, (pV aC)), (8, (pV aD)), (9, (nV ab))] w0 (hp w0) [blk aE [sV aI aJ u.codes.length aK] 28, blk aC [nV aB.params, nV aB.regs, sV aF aG aB.blocks.length aH] 49, blk aD [aL, aN, nV aA.jump, nV aA.on, aQ] 63] a w) (fun bu bK => ?_) ?_))))))
    ·refine gsd 31 rfl (fun bL => ?_) fun bL => ?_
     ·exact gct rfl (gR (gA rfl (gE (gZe fun a hf => ⟨(by first | omega | (dsimp only; omega)), (by first | omega | (dsimp only; omega)), (by first | omega | (dsimp only; omega)), (by first | omega | (dsimp only; omega)), hf.sb rfl, hm.pk [2, 1, 0] rfl rfl⟩))))
     refine gcf rfl (gS (gR (gB rfl (gA rfl (gE (gsd 33 rfl (fun bM => ?_) fun bM => ?_))))))
     ·exact gct rfl (gR (gA rfl (gE (gZe fun a hf => ⟨(by first | omega | (dsimp only; omega)), (by first | omega | (dsimp only; omega)), (by first | omega | (dsimp only; omega)), (by first | omega | (dsimp only; omega)), hf.sb rfl, hm.pk [2, 1, 0] rfl rfl⟩))))
     exact gcf rfl (gS (gR (gA rfl (gE (gRt (gEr bK (gEr av (gEr au (gr1 results86 rfl ⟨rfl, hm.below⟩)))))))))
    repeat clear hm
    rintro ab a w ⟨bv, bx, bz, cA, hf, hm⟩
    exact gv hf (gZe fun a hf => ⟨(by first | omega | (dsimp only; omega)), (by first | omega | (dsimp only; omega)), (by first | omega | (dsimp only; omega)), (by first | omega | (dsimp only; omega)), hf.sb rfl, hm.pk [0, 1, 2] rfl rfl⟩)
   repeat clear hm
   rintro aa a w ⟨cB, cC, cD, cE, hf, hm⟩
   exact gv hf (gZe fun a hf => ⟨(by first | omega | (dsimp only; omega)), (by first | omega | (dsimp only; omega)), (by first | omega | (dsimp only; omega)), (by first | omega | (dsimp only; omega)), hf.sb rfl, hm.pk [0, 1, 2] rfl rfl⟩)
  repeat clear hm
  rintro aZ a w ⟨cF, cG, cH, cI, hf, hm⟩
  refine gv hf (gS (gS (gJg (fun ai a w => 0 ≤ aA.jump ∧ aA.jump ≤ 3 ∧ St 136 [(1, (nV k_)), (2, (nV b_)), (3, (pV aE)), (7, (pV aC)), (8, (pV aD)), (53, (.bool (ai)))] w0 (hp w0) [blk aE [sV aI aJ u.codes.length aK] 28, blk aC [nV aB.params, nV aB.regs, sV aF aG aB.blocks.length aH] 49, blk aD [aL, aN, nV aA.jump, nV aA.on, aQ] 63] a w) (fun ai => ?_) ?_)))
  ·refine gR (gF fo_63_4 rfl (gL hm 2 isAgg43 rfl ?_))
   obtain ⟨cJ, cK, rfl, cL⟩ := ro_slice aP
   refine gY (yV st_43 rfl) (gM rfl (gB rfl (gM rfl (gsd 40 rfl (fun bN => ?_) fun bN => ?_))))
   ·exact gO rfl (gO rfl (gO rfl (gO rfl (gO rfl (gO rfl (gO rfl (gO rfl (gO rfl (gO rfl (gO rfl (gO rfl (gKt rfl (gE (gZ fun a hf => ⟨(by first | omega | (dsimp only; omega)), (by first | omega | (dsimp only; omega)), hf.sb rfl, hm.pk [0, 1, 2] rfl rfl⟩))))))))))))))
   refine gF fo_63_2 rfl (gL hm 2 isAgg3 rfl (gB rfl (gM rfl (gsd 44 rfl (fun bO => ?_) fun bO => ?_))))
   ·exact gF fo_63_3 rfl (gL hm 2 isAgg3 rfl (gF fo_49_1 rfl (gL hm 1 isAgg3 rfl (gB rfl (gC hm rfl call41 (spec_l1In_ok _ aA.on 0 (w64 (aB.regs - 1))) fun cM cN w hm => gN rfl (gKt rfl (gKf rfl (gE (gZ fun a hf => ⟨(by first | omega | (dsimp only; omega)), (by first | omega | (dsimp only; omega)), hf.sb rfl, hm.pk [0, 1, 2] rfl rfl⟩)))))))))
   exact gO rfl (gO rfl (gO rfl (gO rfl (gO rfl (gO rfl (gO rfl (gKf rfl (gKf rfl (gE (gZ fun a hf => ⟨(by first | omega | (dsimp only; omega)), (by first | omega | (dsimp only; omega)), hf.sb rfl, hm.pk [0, 1, 2] rfl rfl⟩))))))))))
  repeat clear hm
  rintro ai a w ⟨cO, cP, hf, hm⟩
  refine gv hf (gs 53 rfl (fun bP => ?_) fun bP => ?_)
  ·exact gct rfl (gS (gR (gA rfl (gE (gRt (gr1 results86 rfl ⟨rfl, hm.below⟩))))))
  refine gcf rfl (gSk (gS (gS (gR (gA rfl (gE (gBk (gNf hm (fun aj aw => [(1, (nV k_)), (2, (nV b_)), (3, (pV aE)), (7, (pV aC)), (8, (pV aD)), (10, (nV aj))]) (fun aj aw => [blk aE [sV aI aJ u.codes.length aK] 28, blk aC [nV aB.params, nV aB.regs, sV aF aG aB.blocks.length aH] 49, blk aD [aL, aN, nV aA.jump, nV aA.on, aQ] 63]) [0, 1, 2] rfl ?_ ?_))))))))
  ·repeat clear hm
   intro cQ bQ aj aw w hm cR cS cT bR
   refine gS (gS (gR (gM rfl (gF fo_63_4 rfl (gL hm 2 isAgg43 rfl ?_)))))
   obtain ⟨bS, bT, rfl, cU⟩ := ro_slice aP
   refine gY (yV st_43 rfl) (gB rfl (gE (go _ 58 rfl (decide_eq_true (by omega)) (gct rfl (gSk (gS (gBk (gS (gW (.p 0 (.p 2 (.p 5 (.q 1 (.p 3 (.q 4 (.e 6 (.p 7 (.p 8 (.e 9 (.p 10 .fin) .nil))) .nil))))))) [6] [0, 2, 3, 5, 7, 8, 10] hm [0, 1, 2] [blk aE [sV aI aJ u.codes.length aK] 28, blk aC [nV aB.params, nV aB.regs, sV aF aG aB.blocks.length aH] 49, blk aD [aL, aN, nV aA.jump, nV aA.on, .slice bS aA.next_.length bT] 63] rfl mxo (by kernel_rfl) (fun _ _ _ h => h.2) fun w hm hS => tP rfl (fun w => yF fo_63_4 rfl) (tP rfl (fun w => yM rfl) (tP rfl (fun w => yF fo_49_2 rfl) (tQ rfl hS (fun w hm => yL hm 2 isAgg43 rfl) (gg fun ax bU ak => ?_)))))))))))))
   obtain ⟨cV, cW, cX, he⟩ := idx_form aP ak
   obtain ⟨rfl, _, rfl⟩ := sl3 he
   refine tP rfl (fun w => yI st_43 bU (idx_lt ak) rfl) (tQ rfl hS (fun w hm => yl isAgg3 ((flat_cells (cs := [nV ax]) (hm.now aP) ak rfl).cell (j := 0) rfl) rfl) (tO (tY rfl (yL hm 1 isAgg47 rfl) (tAs hS ?_))))
   have cY := rep_len aO
   refine tP rfl (fun w => yV st_47 rfl) (tP rfl (fun w => yS (by omega) (by omega) rfl) (tO (gb fun cZ bV => tf rfl rfl (fun a hf => e_call hf rfl call41 rfl (spec_l1In_ok _ ax 1 (((aB.blocks.length : Int)) - 1) _ bV)) ?_)))
   rintro c5 w ⟨rfl, hB⟩
   replace hm := hm.below' hB; clear hB
   refine tAn rfl (tP rfl (fun w => yN rfl) (tE (gsn 71 rfl (fun bW => ?_) fun bW => ?_)))
   ·exact gct rfl (gS (gR (gA rfl (gE (gRt (gLr bR bQ (gr1 results86 rfl ⟨rfl, hm.below⟩)))))))
   exact gcf rfl (gSk (gR (gM rfl (gP (by omega) (by omega) rfl (gA rfl (gE (gze hm [0, 1, 2] rfl)))))))
  repeat clear hm
  intro c6 c7 w hm c8 c9
  refine gS (gS (gR (gM rfl (gF fo_63_4 rfl (gL hm 2 isAgg43 rfl ?_)))))
  obtain ⟨aT, aV, rfl, ca⟩ := ro_slice aP
  refine gY (yV st_43 rfl) (gB rfl (gE (go _ 58 rfl (decide_eq_false (by omega)) (gcf rfl (gXt (gHh (gS (gS (gR (gA rfl (gE (gBk (gNf hm (fun al ay => [(1, (nV k_)), (2, (nV b_)), (3, (pV aE)), (7, (pV aC)), (8, (pV aD)), (11, (nV al))]) (fun al ay => [blk aE [sV aI aJ u.codes.length aK] 28, blk aC [nV aB.params, nV aB.regs, sV aF aG aB.blocks.length aH] 49, blk aD [aL, aN, nV aA.jump, nV aA.on, .slice aT aA.next_.length aV] 63]) [0, 1, 2] rfl ?_ ?_)))))))))))))
  ·repeat clear hm
   intro cb bX al ay w hm cd ce cf bY
   refine gS (gS (gR (gM rfl (gF fo_63_1 rfl (gL hm 2 isAgg61 rfl ?_)))))
   obtain ⟨bZ, b6, rfl, cg⟩ := ro_slice aS
   refine gY (yV st_61 rfl) (gB rfl (gE (go _ 76 rfl (decide_eq_true (by omega)) (gct rfl (gSk (gS (gBk (gS (gW (.p 1 (.p 2 (.p 4 (.q 0 (.e 3 (.p 5 (.e 6 (.e 7 (.p 8 .fin) .nil) .nil)) .nil))))) [3, 6] [1, 2, 4, 5, 8] hm [0, 1, 2] [blk aE [sV aI aJ u.codes.length aK] 28, blk aC [nV aB.params, nV aB.regs, sV aF aG aB.blocks.length aH] 49, blk aD [aL, .slice bZ aA.ins.length b6, nV aA.jump, nV aA.on, .slice aT aA.next_.length aV] 63] rfl mxo (by kernel_rfl) (fun _ _ _ h => h.2) fun w hm hS => tP rfl (fun w => yM rfl) (tP rfl (fun w => yF fo_63_1 rfl) (tP rfl (fun w => yM rfl) (tQ rfl hS (fun w hm => yn (hm.blk_at 0 rfl) isAgg28 sizeOf28 rfl) (tO (tY rfl (yL hm 2 isAgg61 rfl) (tAs hS (gg fun b7 b8 am => ?_))))))))))))))))
   obtain ⟨ci, cj, ck, he⟩ := idx_form' aS am
   obtain ⟨rfl, _, rfl⟩ := sl3 he
   obtain ⟨b9, ba, bc⟩ := rk_Ins_ aS am
   refine tP rfl (fun w => yI st_61 b8 (idx_lt am) rfl) (tO (tY rfl (yn (ba.mono hm.lez) isAgg65 sizeOf65 rfl) (tAs hS (tO (gb fun cl bd => tf rfl rfl (fun a hf => e_call hf rfl call153 rfl (spec_l7Ins_ok _ u (sV aI aJ u.codes.length aK) (hm.now h1) k_ b7 b9 (hm.now bc) _ bd)) ?_)))))
   rintro cm w ⟨rfl, hB⟩
   replace hm := hm.below' hB; clear hB
   refine tAn rfl (tP rfl (fun w => yN rfl) (tE (gsn 87 rfl (fun be => ?_) fun be => ?_)))
   ·exact gct rfl (gS (gR (gA rfl (gE (gRt (gLr bY bX (gr1 results86 rfl ⟨rfl, hm.below⟩)))))))
   exact gcf rfl (gSk (gR (gM rfl (gP (by omega) (by omega) rfl (gA rfl (gE (gze hm [0, 1, 2] rfl)))))))
  repeat clear hm
  intro cn co w hm cq cr
  refine gS (gS (gR (gM rfl (gF fo_63_1 rfl (gL hm 2 isAgg61 rfl ?_)))))
  obtain ⟨an, ao, rfl, ct⟩ := ro_slice aS
  refine gY (yV st_61 rfl) (gB rfl (gE (go _ 76 rfl (decide_eq_false (by omega)) (gcf rfl (gXt (gHh (gS (gR (gY (yn (hm.blk_at 1 rfl) isAgg49 sizeOf49 rfl) (gM rfl (gCg rfl call129 (spec_l7Preds_ok _ aB (sV aF aG aB.blocks.length aH) (hm.now aO) b_) ?_)))))))))))
  rintro aM cu cv w ⟨_, rfl, hB⟩
  replace hm := hm.give hB; clear hB
  refine gA rfl (gE (gS (gS (gR (gA rfl (gE ?_))))))
  obtain ⟨aW, aX, rfl, cw⟩ := ro_slice (hm.ow_rep 0 rfl)
  refine gBk (gNf hm (fun ac az => [(2, (nV b_)), (7, (pV aC)), (8, (pV aD)), (12, (.slice aW aM.length aX)), (13, (nV ac))]) (fun ac az => [blk aC [nV aB.params, nV aB.regs, sV aF aG aB.blocks.length aH] 49, blk aD [aL, .slice an aA.ins.length ao, nV aA.jump, nV aA.on, .slice aT aA.next_.length aV] 63, ow [.slice aW aM.length aX] aM]) [2, 3, 0] rfl ?_ ?_)
  ·repeat clear hm
   intro cx bf ac az w hm cy cz dA bg
   refine gS (gS (gR (gM rfl (gF fo_63_0 rfl (gL hm 1 isAgg60 rfl ?_)))))
   obtain ⟨bA, bB, rfl, dB⟩ := ro_slice aR
   refine gY (yV st_60 rfl) (gB rfl (gE (go _ 95 rfl (decide_eq_true (by omega)) (gct rfl (gSk (gS (gBk (gS (gJ hm (fun ae => [(2, (nV b_)), (7, (pV aC)), (8, (pV aD)), (12, (.slice aW aM.length aX)), (13, (nV ac)), (135, (.bool (ae)))]) (fun ae => [blk aC [nV aB.params, nV aB.regs, sV aF aG aB.blocks.length aH] 49, blk aD [.slice bA aA.phis.length bB, .slice an aA.ins.length ao, nV aA.jump, nV aA.on, .slice aT aA.next_.length aV] 63, ow [.slice aW aM.length aX] aM]) (fun ae => ?_) ?_)))))))))
   ·refine gW (.p 0 (.p 1 (.p 2 (.p 3 (.p 5 (.p 10 (.p 11 (.e 4 (.p 6 (.p 7 (.e 8 (.p 9 (.p 12 (.p 13 (.p 14 (.p 16 (.p 18 (.q 15 (.e 17 (.p 19 (.p 20 (.e 21 (.e 22 (.p 23 (.p 24 (.p 25 (.p 26 (.p 28 (.p 32 (.q 27 (.p 29 (.p 30 (.q 31 (.e 33 (.p 34 (.e 35 (.p 36 (.p 37 .fin)) .nil)) .nil))))))))))) .nil) .nil))) .nil)))))))) .nil))) .nil)))))))) [17, 21, 33] [0, 1, 2, 3, 5, 6, 7, 9, 10, 11, 12, 13, 14, 16, 18, 19, 20, 23, 24, 25, 26, 28, 29, 30, 32, 34, 36, 37] hm [0, 1, 2] [blk aC [nV aB.params, nV aB.regs, sV aF aG aB.blocks.length aH] 49, blk aD [.slice bA aA.phis.length bB, .slice an aA.ins.length ao, nV aA.jump, nV aA.on, .slice aT aA.next_.length aV] 63, ow [.slice aW aM.length aX] aM] rfl mxo (by kernel_rfl) (fun _ _ _ h => h.2) fun w hm hS => tP rfl (fun w => yM rfl) (tP rfl (fun w => yB rfl) (tP rfl (fun w => yM rfl) (gsd 100 rfl (fun bh => ?_) fun bh => ?_)))
    ·refine tPo rfl rfl (tPo rfl rfl (tPo rfl rfl (tPo rfl rfl (tO (tEo rfl rfl (tAn rfl (tPo rfl rfl (tPo rfl rfl (tO (tEo rfl rfl (tAn rfl (tPo rfl rfl (tPo rfl rfl (tP rfl (fun w => yKt rfl) (tP rfl (fun w => yM rfl) (tPo rfl rfl (tPo rfl rfl (tQo rfl hS rfl (tO (tEo rfl rfl (tAs hS (tPo rfl rfl (tPo rfl rfl (tO (tEo rfl rfl (tAs hS (tO (tEo rfl rfl (tAn rfl (tPo rfl rfl ?_))))))))))))))))))))))))))))))
     exact tP rfl (fun w => yKt rfl) (tP rfl (fun w => yM rfl) (tPo rfl rfl (tPo rfl rfl (tPo rfl rfl (tQo rfl hS rfl (tPo rfl rfl (tPo rfl rfl (tQo rfl hS rfl (tO (tEo rfl rfl (tAs hS (tPo rfl rfl (tO (tEo rfl rfl (tAn rfl (tPo rfl rfl (tP rfl (fun w => yKt rfl) (tE (gz hm [0, 1, 2] rfl)))))))))))))))))))
    refine tP rfl (fun w => yF fo_63_0 rfl) (tP rfl (fun w => yM rfl) (tP rfl (fun w => yM rfl) (tP rfl (fun w => yV st_43 rfl) (tO (tY rfl (yL hm 1 isAgg60 rfl) (tAn rfl (gg fun ap aq aY => ?_)))))))
    obtain ⟨dC, dD, dE, he⟩ := idx_form' aR aY
    obtain ⟨rfl, _, rfl⟩ := sl3 he
    obtain ⟨dF, ar, bC⟩ := rk_Phi_ aR aY
    refine tP rfl (fun w => yI st_60 aq (idx_lt aY) rfl) (tP rfl (fun w => yF fo_127_1 rfl) (tO (tY rfl (yl isAgg43 ((ar.mono hm.lez).cell (j := 1) rfl) rfl) (tAn rfl ?_))))
    obtain ⟨bi, bj, rfl, dG⟩ := ro_slice bC
    refine tP rfl (fun w => yV st_43 rfl) (tP rfl (fun w => yB rfl) (tP rfl (fun w => yKf rfl) (tP rfl (fun w => yM rfl) (gsd 112 rfl (fun bk => ?_) fun bk => ?_))))
    ·refine tPo rfl rfl (tPo rfl rfl (tQo rfl hS rfl (tO (tEo rfl rfl (tAs hS (tPo rfl rfl (tPo rfl rfl (tO (tEo rfl rfl (tAs hS (tO (tEo rfl rfl (tAn rfl (tPo rfl rfl (tP rfl (fun w => yKt rfl) (tP rfl (fun w => yM rfl) (tPo rfl rfl (tPo rfl rfl (tPo rfl rfl (tQo rfl hS rfl (tPo rfl rfl (tPo rfl rfl (tQo rfl hS rfl (tO (tEo rfl rfl (tAs hS (tPo rfl rfl (tO (tEo rfl rfl (tAn rfl ?_))))))))))))))))))))))))))))))
     exact tPo rfl rfl (tP rfl (fun w => yKt rfl) (tE (gz hm [0, 1, 2] rfl)))
    refine tP rfl (fun w => yF fo_63_0 rfl) (tP rfl (fun w => yM rfl) (tQ rfl hS (fun w hm => yn (hm.blk_at 0 rfl) isAgg49 sizeOf49 rfl) (tO (tY rfl (yL hm 1 isAgg60 rfl) (tAs hS (tP rfl (fun w => yI st_60 aq (idx_lt aY) rfl) (tP rfl (fun w => yF fo_127_1 rfl) (tO (tY rfl (yl isAgg43 ((ar.mono hm.lez).cell (j := 1) rfl) rfl) (tAs hS (tO (gb fun dH bm => tf rfl rfl (fun a hf => e_call hf rfl call154 rfl (spec_l7Regs_ok _ aB (sV aF aG aB.blocks.length aH) (hm.now aO) ap.args (.slice bi ap.args.length bj) (hm.now bC) _ bm)) ?_))))))))))))
    rintro dI w ⟨rfl, hB⟩
    replace hm := hm.below' hB; clear hB
    refine tAk hm [0, 1, 2] rfl fun hS => tP rfl (fun w => yN rfl) (tP rfl (fun w => yKf rfl) (tP rfl (fun w => yM rfl) (gsn 123 rfl (fun bo => ?_) fun bo => ?_)))
    ·exact tPo rfl rfl (tPo rfl rfl (tPo rfl rfl (tQo rfl hS rfl (tPo rfl rfl (tPo rfl rfl (tQo rfl hS rfl (tO (tEo rfl rfl (tAs hS (tPo rfl rfl (tO (tEo rfl rfl (tAn rfl (tPo rfl rfl (tP rfl (fun w => yKt rfl) (tE (gz hm [0, 1, 2] rfl)))))))))))))))))
    refine tP rfl (fun w => yF fo_63_0 rfl) (tP rfl (fun w => yM rfl) (tP rfl (fun w => yF fo_49_1 rfl) (tQ rfl hS (fun w hm => yL hm 1 isAgg60 rfl) (tP rfl (fun w => yI st_60 aq (idx_lt aY) rfl) (tP rfl (fun w => yF fo_127_0 rfl) (tQ rfl hS (fun w hm => yl isAgg3 ((ar.mono hm.lez).cell (j := 0) rfl) rfl) (tO (tY rfl (yL hm 0 isAgg3 rfl) (tAs hS (tP rfl (fun w => yB rfl) (tO (gb fun dJ bp => tf rfl rfl (fun a hf => e_call hf rfl call41 rfl (spec_l1In_ok _ ap.to 0 (w64 (aB.regs - 1)) _ bp)) ?_))))))))))))
    rintro dK w ⟨rfl, hB⟩
    replace hm := hm.below' hB; clear hB
    exact tAn rfl (tP rfl (fun w => yN rfl) (tP rfl (fun w => yKf rfl) (tE (gz hm [0, 1, 2] rfl))))
   repeat clear hm
   intro ae w hm
   refine gs 135 rfl (fun bq => ?_) fun bq => ?_
   ·exact gct rfl (gS (gR (gA rfl (gE (gRt (gLr bg bf (gr1 results86 rfl ⟨rfl, hm.below⟩)))))))
   exact gcf rfl (gSk (gR (gM rfl (gP (by omega) (by omega) rfl (gA rfl (gE (gze hm [0, 1, 2] rfl)))))))
  repeat clear hm
  intro dL dM w hm dN dO
  refine gS (gS (gR (gM rfl (gF fo_63_0 rfl (gL hm 1 isAgg60 rfl ?_)))))
  obtain ⟨dP, dQ, rfl, dR⟩ := ro_slice aR
  exact gY (yV st_60 rfl) (gB rfl (gE (go _ 95 rfl (decide_eq_false (by omega)) (gcf rfl (gXt (gHh (gS (gR (gA rfl (gE (gRt (gr1 results86 rfl ⟨rfl, hm.below⟩))))))))))))
theorem spec_UnitValid_ok (w0 : World) (u : Unit_) (v1 : Value) (h1 : GT.rep (hp w0) [v1] u.codes) :
    ConM Tryz.prog 39 [(.agg #[v1])] w0 (spec_UnitValid u) fun r v w' => v = (.bool (r)) ∧ Below w0.heap.size w0 w' := by
  unfold spec_UnitValid
  refine gcon func39 rfl fun r => ?_
  have hm := Mem.start w0
  refine gS (gR (gBx hm rfl fun aB w hm => gA rfl (gE (gS (gS (gR (gF fo_28_0 rfl (gL hm 0 isAgg26 rfl ?_))))))))
  obtain ⟨aX, aE, rfl, ap⟩ := ro_slice h1
  refine gY (yV st_26 rfl) (gC hm rfl call41 (spec_l1In_ok _ (u.codes.length : Int) 1 4) fun aq ar w hm => gN rfl (gE (gsn 11 rfl (fun aY => ?_) fun aY => ?_)))
  ·exact gct rfl (gS (gR (gA rfl (gE (gRt (gr1 results39 rfl ⟨rfl, hm.below⟩))))))
  refine gcf rfl (gSk (gS (gR (gA rfl (gE (gS (gS (gR (gA rfl (gE (gBk (gNf hm (fun aC aJ => [(1, (pV aB)), (3, (nV aJ)), (4, (nV aC))]) (fun aC aJ => [blk aB [.slice aX u.codes.length aE] 28]) [0] rfl ?_ ?_))))))))))))
  ·repeat clear hm
   intro au aP aC aJ w hm av aw ax aQ
   refine gS (gS (gR (gM rfl (gF fo_28_0 rfl (gL hm 0 isAgg26 rfl (gY (yV st_26 rfl) (gB rfl (gE (go _ 16 rfl (decide_eq_true (by omega)) (gct rfl (gSk (gS (gBk (gS (gR (gF fo_28_0 rfl (gL hm 0 isAgg26 rfl (gM rfl (gg fun aA aZ aO => ?_)))))))))))))))))))
   obtain ⟨aG, aH, ay, he⟩ := idx_form' h1 aO
   obtain ⟨rfl, _, rfl⟩ := sl3 he
   obtain ⟨aR, aa, aF⟩ := rk_Code_ h1 aO
   refine gI st_26 aZ (idx_lt aO) rfl (gY (yn (aa.mono hm.lez) isAgg49 sizeOf49 rfl) (gAl hm zeroValue49 rfl fun aD w hm => gSN hm 0 sizeOf49 (one_cons rfl (one_cons rfl (one_cons (rep_one aF) one_nil))) rfl fun w hm => gE (gS (gS (gJ hm (fun aK => [(1, (pV aB)), (3, (nV aJ)), (4, (nV aC)), (5, (pV aD)), (42, (.bool (aK)))]) (fun aK => [blk aB [sV aG aH u.codes.length aE] 28, blk aD [nV aA.params, nV aA.regs, aR] 49]) (fun aK => ?_) ?_)))))
   ·refine gR (gF fo_49_0 rfl (gL hm 0 isAgg3 rfl (gC hm rfl call41 (spec_l1In_ok _ aA.params 0 3) fun az bA w hm => gN rfl (gM rfl (gsn 28 rfl (fun ab => ?_) fun ab => ?_)))))
    ·exact gO rfl (gO rfl (gO rfl (gO rfl (gO rfl (gO rfl (gKt rfl (gM rfl (gO rfl (gO rfl (gO rfl (gO rfl (gO rfl (gKt rfl (gE (gz hm [1, 0] rfl)))))))))))))))
    refine gF fo_49_1 rfl (gL hm 0 isAgg3 rfl (gF fo_49_0 rfl (gL hm 0 isAgg3 rfl (gC hm rfl call41 (spec_l1In_ok _ aA.regs aA.params 300) fun bB bC w hm => gN rfl (gKf rfl (gM rfl (gsn 36 rfl (fun ac => ?_) fun ac => ?_)))))))
    ·exact gO rfl (gO rfl (gO rfl (gO rfl (gO rfl (gKt rfl (gE (gz hm [1, 0] rfl)))))))
    refine gF fo_49_2 rfl (gL hm 0 isAgg47 rfl ?_)
    obtain ⟨bD, bE, rfl, bF⟩ := ro_slice aF
    exact gY (yV st_47 rfl) (gC hm rfl call41 (spec_l1In_ok _ (aA.blocks.length : Int) 1 160) fun bG bH w hm => gN rfl (gKf rfl (gE (gz hm [1, 0] rfl))))
   repeat clear hm
   intro aK w hm
   refine gs 42 rfl (fun ae => ?_) fun ae => ?_
   ·exact gct rfl (gS (gR (gA rfl (gE (gRt (gLr aQ aP (gr1 results39 rfl ⟨rfl, hm.below⟩)))))))
   refine gcf rfl (gSk (gS (gR (gA rfl (gE (gBk (gNf hm (fun aI aL => [(1, (pV aB)), (3, (nV aL)), (4, (nV aC)), (5, (pV aD)), (6, (nV aI))]) (fun aI aL => [blk aB [sV aG aH u.codes.length aE] 28, blk aD [nV aA.params, nV aA.regs, aR] 49]) [0, 1] rfl ?_ ?_)))))))
   ·repeat clear hm
    intro bJ af aI aL w hm bK bL bM ah
    refine gS (gS (gR (gM rfl (gF fo_49_2 rfl (gL hm 1 isAgg47 rfl ?_)))))
    obtain ⟨ai, aS, rfl, bN⟩ := ro_slice aF
    refine gY (yV st_47 rfl) (gB rfl (gE (go _ 47 rfl (decide_eq_true (by omega)) (gct rfl (gSk (gS (gBk (gS (gW (.p 0 (.p 1 (.p 3 (.p 9 (.p 11 (.q 2 (.p 4 (.p 5 (.q 6 (.p 7 (.p 8 (.e 10 (.p 12 (.p 13 (.e 14 (.p 15 (.p 16 (.p 17 .fin))) .nil))) .nil)))))))))))) [10, 14] [0, 1, 3, 4, 5, 7, 8, 9, 11, 12, 13, 15, 16, 17] hm [0, 1] [blk aB [sV aG aH u.codes.length aE] 28, blk aD [nV aA.params, nV aA.regs, .slice ai aA.blocks.length aS] 49] rfl mxo (by kernel_rfl) (fun _ _ _ h => h.2) fun w hm hS => tP rfl (fun w => yM rfl) (tP rfl (fun w => yF fo_49_2 rfl) (tP rfl (fun w => yM rfl) (tP rfl (fun w => yF fo_49_2 rfl) (tP rfl (fun w => yM rfl) (tQ rfl hS (fun w hm => yL hm 1 isAgg47 rfl) (gg fun aT aV aM => ?_)))))))))))))))
    obtain ⟨aj, ak, bO, he⟩ := idx_form' aF aM
    obtain ⟨rfl, _, rfl⟩ := sl3 he
    obtain ⟨bP, bQ, bR, aW, al, am, bS⟩ := rk_Block_ aF aM
    refine tP rfl (fun w => yI st_47 aV (idx_lt aM) rfl) (tP rfl (fun w => yF fo_63_1 rfl) (tQ rfl hS (fun w hm => yl isAgg61 ((aW.mono hm.lez).cell (j := 1) rfl) rfl) ?_))
    obtain ⟨bT, bU, rfl, bV⟩ := ro_slice am
    refine tP rfl (fun w => yV st_61 rfl) (tP rfl (fun w => yB rfl) (tO (tY rfl (yL hm 1 isAgg47 rfl) (tAs hS (tP rfl (fun w => yI st_47 aV (idx_lt aM) rfl) (tP rfl (fun w => yF fo_63_0 rfl) (tO (tY rfl (yl isAgg60 ((aW.mono hm.lez).cell (j := 0) rfl) rfl) (tAs hS ?_)))))))))
    obtain ⟨bW, bX, rfl, bY⟩ := ro_slice al
    refine tP rfl (fun w => yV st_60 rfl) (tP rfl (fun w => yB rfl) (tP rfl (fun w => yA rfl) (tE (gS (gJ hm (fun aN => [(1, (pV aB)), (3, (nV (w64 ((w64 (aL + ((aT.ins.length : Int)))) + ((aT.phis.length : Int)))))), (4, (nV aC)), (5, (pV aD)), (6, (nV aI)), (75, (.bool (aN)))]) (fun aN => [blk aB [sV aG aH u.codes.length aE] 28, blk aD [nV aA.params, nV aA.regs, sV aj ak aA.blocks.length aS] 49]) (fun aN => ?_) ?_)))))
    ·refine gR (gM rfl (gB rfl (gM rfl (gsd 69 rfl (fun an => ?_) fun an => ?_))))
     ·exact gO rfl (gO rfl (gO rfl (gO rfl (gO rfl (gKt rfl (gE (gz hm [0, 1] rfl)))))))
     exact gY (yn (hm.blk_at 0 rfl) isAgg28 sizeOf28 rfl) (gM rfl (gM rfl (gC hm rfl call86 (spec_l7Block_ok _ u (sV aG aH u.codes.length aE) (hm.now h1) aC aI) fun bZ b6 w hm => gN rfl (gKf rfl (gE (gz hm [0, 1] rfl))))))
    repeat clear hm
    intro aN w hm
    refine gs 75 rfl (fun ao => ?_) fun ao => ?_
    ·exact gct rfl (gS (gR (gA rfl (gE (gRt (gLr ah af (gLr aQ aP (gr1 results39 rfl ⟨rfl, hm.below⟩))))))))
    exact gcf rfl (gSk (gR (gM rfl (gP (by omega) (by omega) rfl (gA rfl (gE (gze hm [0, 1] rfl)))))))
   repeat clear hm
   intro b7 b8 w hm b9 ba
   refine gS (gS (gR (gM rfl (gF fo_49_2 rfl (gL hm 1 isAgg47 rfl ?_)))))
   obtain ⟨bc, bd, rfl, be⟩ := ro_slice aF
   exact gY (yV st_47 rfl) (gB rfl (gE (go _ 47 rfl (decide_eq_false (by omega)) (gcf rfl (gXt (gHh (gR (gM rfl (gP (by omega) (by omega) rfl (gA rfl (gE (gze hm [0] rfl))))))))))))
  repeat clear hm
  intro bf bg w hm bh bi
  exact gS (gS (gR (gM rfl (gF fo_28_0 rfl (gL hm 0 isAgg26 rfl (gY (yV st_26 rfl) (gB rfl (gE (go _ 16 rfl (decide_eq_false (by omega)) (gcf rfl (gXt (gHh (gS (gR (gA rfl (gE (gRt (gr1 results39 rfl ⟨rfl, hm.below⟩))))))))))))))))))
theorem spec_PhiCount_ok (w0 : World) (u : Unit_) (v1 : Value) (h1 : GT.rep (hp w0) [v1] u.codes) :
    ConM Tryz.prog 40 [(.agg #[v1])] w0 (spec_PhiCount u) fun r v w' => v = (nV r) ∧ Below w0.heap.size w0 w' := by
  unfold spec_PhiCount
  refine gcon func40 rfl fun r => ?_
  have hm := Mem.start w0
  refine gS (gR (gBx hm rfl fun aA w hm => gA rfl (gE (gS (gS (gR (gY (yn (hm.blk_at 0 rfl) isAgg28 sizeOf28 rfl) (gC hm rfl call39 (spec_UnitValid_ok _ u v1 (hm.now h1)) fun aT aV w hm => gN rfl (gE (gsn 8 rfl (fun aM => ?_) fun aM => ?_))))))))))
  ·exact gct rfl (gS (gR (gA rfl (gE (gRt (gr1 results40 rfl ⟨rfl, hm.below⟩))))))
  refine gcf rfl (gSk (gS (gR (gA rfl (gE (gS (gS (gR (gA rfl (gE (gBk (gNf hm (fun aB aF => [(1, (pV aA)), (3, (nV aF)), (4, (nV aB))]) (fun aB aF => [blk aA [v1] 28]) [0] rfl ?_ ?_))))))))))))
  ·repeat clear hm
   intro _ _ aB aF w hm aW aX aY _
   refine gS (gS (gR (gM rfl (gF fo_28_0 rfl (gL hm 0 isAgg26 rfl ?_)))))
   obtain ⟨aI, aJ, rfl, aZ⟩ := ro_slice h1
   refine gY (yV st_26 rfl) (gB rfl (gE (go _ 13 rfl (decide_eq_true (by omega)) (gct rfl (gSk (gS (gBk (gS (gR (gA rfl (gE (gJ hm (fun aC => [(1, (pV aA)), (3, (nV aC)), (4, (nV aB))]) (fun aC => [blk aA [.slice aI u.codes.length aJ] 28]) (fun aC => ?_) ?_))))))))))))
   ·refine gBk (gMf hm (fun aD => [(1, (pV aA)), (3, (nV aD.1)), (4, (nV aB)), (5, (nV aD.2))]) (fun aD => [blk aA [.slice aI u.codes.length aJ] 28]) [0] rfl ?_)
    repeat clear hm
    intro aa aN aD w hm ab aO
    refine gS (gS (gR (gM rfl (gF fo_28_0 rfl (gL hm 0 isAgg26 rfl (gM rfl (gg fun ac aK aE => ?_)))))))
    obtain ⟨ae, af, ah, he⟩ := idx_form' h1 aE
    obtain ⟨rfl, _, rfl⟩ := sl3 he
    obtain ⟨ai, aL, aG⟩ := rk_Code_ h1 aE
    refine gI st_26 aK (idx_lt aE) rfl (gF fo_49_2 rfl (gY (yl isAgg47 ((aL.mono hm.lez).cell (j := 2) rfl) rfl) ?_))
    obtain ⟨aj, ak, rfl, al⟩ := ro_slice aG
    refine gY (yV st_47 rfl) (gB rfl (gE (gsd 24 rfl (fun aP => ?_) fun aP => ?_)))
    ·refine gct rfl (gSk (gS (gBk (gR (gM rfl (gF fo_28_0 rfl (gL hm 0 isAgg26 rfl (gM rfl (gI st_26 aK (idx_lt aE) rfl (gF fo_49_2 rfl (gY (yl isAgg47 ((aL.mono hm.lez).cell (j := 2) rfl) rfl) (gM rfl (gg fun am aQ aH => ?_)))))))))))))
     obtain ⟨an, ao, ap, he⟩ := idx_form' aG aH
     obtain ⟨rfl, _, rfl⟩ := sl3 he
     obtain ⟨aq, ar, au, aR, aS, av, aw⟩ := rk_Block_ aG aH
     refine gI st_47 aQ (idx_lt aH) rfl (gF fo_63_0 rfl (gY (yl isAgg60 ((aR.mono hm.lez).cell (j := 0) rfl) rfl) ?_))
     obtain ⟨ax, ay, rfl, az⟩ := ro_slice aS
     exact gY (yV st_60 rfl) (gB rfl (gA rfl (gE (gR (gM rfl (gB rfl (gA rfl (gE (gze hm [0] rfl)))))))))
    exact gcf rfl (gXt (gHh (gLp aO aN (gz hm [0] rfl))))
   repeat clear hm
   intro aC w hm
   exact gR (gM rfl (gP (by omega) (by omega) rfl (gA rfl (gE (gze hm [0] rfl)))))
  repeat clear hm
  intro bA bB w hm bC bD
  refine gS (gS (gR (gM rfl (gF fo_28_0 rfl (gL hm 0 isAgg26 rfl ?_)))))
  obtain ⟨bE, bF, rfl, bG⟩ := ro_slice h1
  exact gY (yV st_26 rfl) (gB rfl (gE (go _ 13 rfl (decide_eq_false (by omega)) (gcf rfl (gXt (gHh (gS (gR (gM rfl (gA rfl (gE (gRt (gr1 results40 rfl ⟨rfl, hm.below⟩)))))))))))))
theorem spec_l10At_ok (w0 : World) (list : List Int) (v1 : Value) (h1 : GT.rep (hp w0) [v1] list) (n_ : Int) :
    ConM Tryz.prog 176 [v1, nV n_] w0 (spec_l10At list n_) fun r v w' => v = (nV r) ∧ Below w0.heap.size w0 w' := by
  unfold spec_l10At
  refine gcon func176 rfl fun r => ?_
  have hm := Mem.start w0
  refine gS (gR (gA rfl (gE (gS (gS (gR (gA rfl (gE (gBk (gNf hm (fun aA aC => [(0, v1), (1, (nV n_)), (5, (nV aA))]) (fun aA aC => []) [] rfl ?_ ?_))))))))))
  ·repeat clear hm
   intro aI aD aA aC w hm aJ aK aL aE
   refine gS (gS (gR (gM rfl (gM rfl ?_))))
   obtain ⟨aM, aN, rfl, aO⟩ := ro_slice h1
   refine gY (yV st_43 rfl) (gB rfl (gE (go _ 9 rfl (decide_eq_true (by omega)) (gct rfl (gSk (gS (gBk (gS (gR (gM rfl (gM rfl (gg fun aF aG aB => ?_))))))))))))
   obtain ⟨aP, aQ, aR, he⟩ := idx_form h1 aB
   obtain ⟨rfl, _, rfl⟩ := sl3 he
   refine gI st_43 aG (idx_lt aB) rfl (gY (yl isAgg3 ((flat_cells (cs := [nV aF]) (hm.now h1) aB rfl).cell (j := 0) rfl) rfl) (gM rfl (gB rfl (gE (gsd 17 rfl (fun aH => ?_) fun aH => ?_)))))
   ·exact gct rfl (gS (gR (gM rfl (gA rfl (gE (gRt (gLr aE aD (gr1 results176 rfl ⟨rfl, hm.below⟩))))))))
   exact gcf rfl (gSk (gR (gM rfl (gP (by omega) (by omega) rfl (gA rfl (gE (gze hm [] rfl)))))))
  repeat clear hm
  intro aS aT w hm aV aW
  refine gS (gS (gR (gM rfl (gM rfl ?_))))
  obtain ⟨aX, aY, rfl, aZ⟩ := ro_slice h1
  exact gY (yV st_43 rfl) (gB rfl (gE (go _ 9 rfl (decide_eq_false (by omega)) (gcf rfl (gXt (gHh (gS (gR (gA rfl (gE (gRt (gr1 results176 rfl ⟨rfl, hm.below⟩))))))))))))
theorem spec_l12Flow_ok (w0 : World) (hz : Heap) (c_ : Code_) (v1 : Value) (h1 : GT.rep hz [v1] c_.blocks) (s_ : l12Sets) (v2 : Value) (h2 : GT.rep hz [v2] s_.ins) (v3 : Value) (b_ : Int) (next_ : Int) (hm0 : Mem w0 hz w0 [ow [v3] s_.outs]) :
    ConM Tryz.prog 155 [(.agg #[nV c_.params, nV c_.regs, v1]), (.agg #[v2, v3]), nV b_, nV next_] w0 (spec_l12Flow c_ s_ b_ next_) fun r v w' => v = (.bool (r.1)) ∧ Mem w0 hz w' [ow [v3] r.2] := by
  unfold spec_l12Flow
  refine gcon func155 rfl fun r => ?_
  have hm := hm0
  refine gS (gR (gBx hm rfl fun aB w hm => gBx hm rfl fun aC w hm => gA rfl (gE (gS (gR (gf rfl (fun a hf => e_build0 (α := Bool) et_90 hm rfl) ?_))))))
  rintro bs w hm
  refine gF fo_93_0 rfl (gL hm 1 isAgg45 rfl (gM rfl (gg fun bG bH am => ?_)))
  obtain ⟨aG, aH, aI, he⟩ := idx_form' h2 am
  subst he
  obtain ⟨_, _, an, bJ⟩ := ro_get' h2 am
  have ac := bJ
  obtain ⟨ax, rfl, -⟩ := id ac
  replace ac : GT.rep hz [ax] bG := ac
  replace an : CellsAt hz aG (aH + (next_).toNat * 1) [ax] := an
  refine gI st_45 bH (idx_lt am) rfl (gY (yl isAgg90 ((an.mono hm.lez).cell (j := 0) rfl) rfl) (gb fun aD bK => ?_))
  obtain ⟨bL, bM⟩ := appM_some.1 bK
  refine gf rfl (fun a hf => e_append 0 et_90 hf hm rfl (hm.now ac) rfl rfl rfl bL) ?_
  rintro bt w hm
  rw [bM] at hm
  refine gA rfl (gE (gS (gR (gY (yn (hm.blk_at 2 rfl) isAgg49 sizeOf49 rfl) (gM rfl (gCg rfl call129 (spec_l7Preds_ok _ c_ v1 (hm.now h1) next_) ?_))))))
  rintro bN bu bO w ⟨_, rfl, hB⟩
  replace hm := hm.give hB; clear hB
  refine gM rfl (gC hm rfl call176 (spec_l10At_ok _ bN bO (hm.ow_rep 0 rfl) b_) fun bP bv w hm => gA rfl (gE (gS (gS (gR (gA rfl (gE ?_)))))))
  obtain ⟨aJ, aA, rfl, bx⟩ := ro_slice (hm.ow_rep 4 rfl)
  obtain ⟨aP, aE, rfl, bz⟩ := ro_slice (hm.ow_rep 1 rfl)
  refine gJ hm (fun aF => [(2, (nV b_)), (4, (pV aB)), (5, (pV aC)), (9, (.slice aP aD.length aE))]) (fun aF => [blk aB [nV c_.params, nV c_.regs, v1] 49, blk aC [sV aG aH s_.ins.length aI, .slice aJ s_.outs.length aA] 93, ow [.slice aJ s_.outs.length aA] s_.outs, ow [.slice aP aD.length aE] aF]) (fun aF => ?_) ?_
  ·refine gBk (gMf hm (fun ae => [(2, (nV b_)), (3, (nV next_)), (4, (pV aB)), (5, (pV aC)), (9, (.slice aP aD.length aE)), (10, (nV bP)), (11, (nV ae.2))]) (fun ae => [blk aB [nV c_.params, nV c_.regs, v1] 49, blk aC [sV aG aH s_.ins.length aI, .slice aJ s_.outs.length aA] 93, ow [.slice aJ s_.outs.length aA] s_.outs, ow [.slice aP aD.length aE] ae.1]) [3, 2, 4, 1] rfl ?_)
   repeat clear hm
   intro cA bQ ae w hm cB bR
   refine gS (gS (gR (gM rfl (gF fo_49_2 rfl (gL hm 0 isAgg47 rfl (gM rfl (gg fun cC ay af => ?_)))))))
   obtain ⟨cD, cE, cF, he⟩ := idx_form' h1 af
   subst he
   obtain ⟨cG, cH, cI, az, ao, cJ, cK⟩ := rk_Block_ h1 af
   refine gI st_47 ay (idx_lt af) rfl (gF fo_63_0 rfl (gY (yl isAgg60 ((az.mono hm.lez).cell (j := 0) rfl) rfl) ?_))
   obtain ⟨cL, cM, rfl, cN⟩ := ro_slice ao
   refine gY (yV st_60 rfl) (gB rfl (gE (gsd 34 rfl (fun bS => ?_) fun bS => ?_)))
   ·refine gct rfl (gSk (gS (gBk (gR (gM rfl (gF fo_49_2 rfl (gL hm 0 isAgg47 rfl (gM rfl (gI st_47 ay (idx_lt af) rfl (gF fo_63_0 rfl (gY (yl isAgg60 ((az.mono hm.lez).cell (j := 0) rfl) rfl) (gM rfl (gg fun cO bT ap => ?_)))))))))))))
    obtain ⟨cP, cQ, cR, he⟩ := idx_form' ao ap
    obtain ⟨rfl, _, rfl⟩ := sl3 he
    obtain ⟨cS, bU, bA⟩ := rk_Phi_ ao ap
    refine gI st_60 bT (idx_lt ap) rfl (gF fo_127_1 rfl (gY (yl isAgg43 ((bU.mono hm.lez).cell (j := 1) rfl) rfl) (gM rfl (gg fun bV bW aq => ?_))))
    obtain ⟨cT, cU, cV, he⟩ := idx_form bA aq
    subst he
    refine gI st_43 bW (idx_lt aq) rfl (gY (yl isAgg3 ((flat_cells (cs := [nV bV]) (hm.now bA) aq rfl).cell (j := 0) rfl) rfl) (gg fun cW bX ah => ?_))
    obtain ⟨cX, cY, cZ, he⟩ := idx_form (hm.ow_rep 3 rfl) ah
    obtain ⟨rfl, _, rfl⟩ := sl3 he
    have hL2_1 := rep_slice_len (hm.ow_rep 3 rfl)
    refine gI st_90 bX (idx_lt2 ah hL2_1) rfl (gf0 rfl (fun a hf => e_setElem (x1 := true) (j := 0) (vs := [(.bool (true))]) 3 hf hm rfl ah rfl sizeOf4 rfl rfl rfl (one_cons rfl one_nil) rfl rfl) ?_)
    rintro _ w hm
    have c5 := List.getElem?_set_self (a := true) (idx_lt ah)
    exact gE (gR (gM rfl (gB rfl (gA rfl (gE (gze hm [0, 1, 2, 3] rfl))))))
   exact gcf rfl (gXt (gHh (gLp bR bQ (gz hm [0, 1, 2, 3] rfl))))
  repeat clear hm
  intro aF w hm
  refine gS (gR (gA rfl (gE (gS (gS (gR (gA rfl (gE (gBk (gb fun _ bB => ?_))))))))))
  replace bB := fitI_some.1 bB
  refine gNf hm (fun aL aK => [(2, (nV b_)), (4, (pV aB)), (5, (pV aC)), (9, (.slice aP aD.length aE)), (12, (.bool (aK.2))), (13, (nV aL))]) (fun aL aK => [blk aB [nV c_.params, nV c_.regs, v1] 49, blk aC [sV aG aH s_.ins.length aI, .slice aJ s_.outs.length aA] 93, ow [.slice aJ s_.outs.length aA] aK.1, ow [.slice aP aD.length aE] aF]) [0, 1, 2, 3] rfl ?_ ?_
  ·repeat clear hm
   intro _ _ aL aK w hm c6 c7 c8 _
   refine gS (gS (gR (gM rfl (gF fo_49_1 rfl (gL hm 0 isAgg3 rfl (gB rfl (gE (go _ 55 rfl (decide_eq_true (by omega)) (gct rfl (gSk (gS (gJ hm (fun aW => [(2, (nV b_)), (4, (pV aB)), (5, (pV aC)), (9, (.slice aP aD.length aE)), (12, (.bool (aW.2))), (13, (nV aL))]) (fun aW => [blk aB [nV c_.params, nV c_.regs, v1] 49, blk aC [sV aG aH s_.ins.length aI, .slice aJ s_.outs.length aA] 93, ow [.slice aJ s_.outs.length aA] aW.1, ow [.slice aP aD.length aE] aF]) (fun aW => ?_) ?_))))))))))))
   ·refine gBk (gS (gR (gM rfl (gM rfl (gg fun bY bZ ar => ?_)))))
    obtain ⟨aM, aN, c9, he⟩ := idx_form (hm.ow_rep 3 rfl) ar
    obtain ⟨rfl, _, rfl⟩ := sl3 he
    have hL2_2 := rep_slice_len (hm.ow_rep 3 rfl)
    refine gI st_90 bZ (idx_lt2 ar hL2_2) rfl (gY (yl isAgg4 ((flat_cells (cs := [(.bool (bY))]) (hm.ow_rep 3 rfl) ar rfl).cell (j := 0) rfl) rfl) (gE (gJ hm (fun aX => [(2, (nV b_)), (4, (pV aB)), (5, (pV aC)), (9, (sV aM aN aD.length aE)), (12, (.bool (aX.2))), (13, (nV aL))]) (fun aX => [blk aB [nV c_.params, nV c_.regs, v1] 49, blk aC [sV aG aH s_.ins.length aI, .slice aJ s_.outs.length aA] 93, ow [.slice aJ s_.outs.length aA] aX.1, ow [sV aM aN aD.length aE] aF]) (fun aX => ?_) ?_)))
    ·refine gs 61 rfl (fun b6 => ?_) fun b6 => ?_
     ·refine gct rfl (gS (gJ hm (fun ai => [(2, (nV b_)), (4, (pV aB)), (5, (pV aC)), (9, (sV aM aN aD.length aE)), (12, (.bool (ai))), (13, (nV aL))]) (fun ai => [blk aB [nV c_.params, nV c_.regs, v1] 49, blk aC [sV aG aH s_.ins.length aI, .slice aJ s_.outs.length aA] 93, ow [.slice aJ s_.outs.length aA] aK.1, ow [sV aM aN aD.length aE] aF]) (fun ai => ?_) ?_))
      ·refine gR (gM rfl (gM rfl (gs 63 rfl (fun b7 => ?_) fun b7 => ?_)))
       ·exact gO rfl (gO rfl (gO rfl (gO rfl (gO rfl (gO rfl (gO rfl (gO rfl (gO rfl (gKt rfl (gA rfl (gE (gz hm [0, 1, 2, 3] rfl))))))))))))
       refine gF fo_93_1 rfl (gL hm 1 isAgg45 rfl (gM rfl (gg fun aQ b8 aY => ?_)))
       obtain ⟨aR, aS, ca, he⟩ := idx_form' (hm.ow_rep 2 rfl) aY
       obtain ⟨rfl, _, rfl⟩ := sl3 he
       obtain ⟨_, _, bC, b9⟩ := ro_get' (hm.ow_rep 2 rfl) aY
       have au := b9
       obtain ⟨bD, rfl, -⟩ := id au
       replace au : GT.rep (hp _) [bD] aQ := au
       replace bC : CellsAt (hp _) aR (aS + (b_).toNat * 1) [bD] := bC
       have hL4_1 := rep_slice_len (hm.ow_rep 2 rfl)
       refine gI st_45 b8 (idx_lt2 aY hL4_1) rfl ?_
       obtain ⟨_, ba, hm⟩ := hm.openE 2 rfl aY
       have bc := hm.ow_rep 0 rfl
       have aj := bc
       obtain ⟨aZ, rfl, -⟩ := id aj
       replace aj : GT.rep (hp _) [aZ] aQ := aj
       clear ba aj
       replace hm : Mem w0 hz _ [ow [aZ] (aQ : List Bool), blk aB [nV c_.params, nV c_.regs, v1] 49, blk aC [sV aG aH s_.ins.length aI, sV aR aS s_.outs.length aA] 93, holeE aR aS s_.outs.length aA (aK.1 : List (List Bool)) (b_).toNat [aZ], ow [sV aM aN aD.length aE] aF] := hm
       replace hm := hm.pk (L' := [ow [aZ] aQ, blk aB [nV c_.params, nV c_.regs, v1] 49, blk aC [sV aG aH s_.ins.length aI, sV aR aS s_.outs.length aA] 93, holeE aR aS s_.outs.length aA (aK.1 : List (List Bool)) (b_).toNat [aZ], ow [sV aM aN aD.length aE] aF]) [0, 1, 2, 3, 4] rfl rfl
       refine gY (yl isAgg90 ((hm.holeE_at 3 rfl).cell (j := 0) rfl) rfl) (gM rfl (gg fun bd be av => ?_))
       obtain ⟨bf, bg, bh, he⟩ := idx_form (hm.ow_rep 0 rfl) av
       subst he
       refine gI st_90 be (idx_lt av) rfl (gY (yl isAgg4 ((flat_cells (cs := [(.bool (bd))]) (hm.ow_rep 0 rfl) av rfl).cell (j := 0) rfl) rfl) (gN rfl (gKf rfl (gA rfl (gE ?_)))))
       replace hm := hm.imp (c' := ow [sV bf bg aQ.length bh] (aQ : List Bool)) 0 rfl (fun F h0 => h0)
       replace hm := (hm.shutE (y := (aQ : List Bool)) 3 0 (by decide) rfl rfl).pk (L' := [blk aB [nV c_.params, nV c_.regs, v1] 49, blk aC [sV aG aH s_.ins.length aI, sV aR aS s_.outs.length aA] 93, ow [sV aR aS s_.outs.length aA] (aK.1.set (b_).toNat aQ), ow [sV aM aN aD.length aE] aF]) [1, 2, 3, 4] rfl rfl
       rw [set_same aY] at hm
       exact gz hm [0, 1, 2, 3] rfl
      repeat clear hm
      intro ai w hm
      refine gR (gF fo_93_1 rfl (gL hm 1 isAgg45 rfl (gM rfl (gg fun aO bi aa => ?_))))
      obtain ⟨aT, aV, cb, he⟩ := idx_form' (hm.ow_rep 2 rfl) aa
      obtain ⟨rfl, _, rfl⟩ := sl3 he
      obtain ⟨_, _, bE, bj⟩ := ro_get' (hm.ow_rep 2 rfl) aa
      have aw := bj
      obtain ⟨bF, rfl, -⟩ := id aw
      replace aw : GT.rep (hp _) [bF] aO := aw
      replace bE : CellsAt (hp _) aT (aV + (b_).toNat * 1) [bF] := bE
      have hL3_1 := rep_slice_len (hm.ow_rep 2 rfl)
      refine gI st_45 bi (idx_lt2 aa hL3_1) rfl ?_
      obtain ⟨_, bk, hm⟩ := hm.openE 2 rfl aa
      have bm := hm.ow_rep 0 rfl
      have ak := bm
      obtain ⟨ab, rfl, -⟩ := id ak
      replace ak : GT.rep (hp _) [ab] aO := ak
      clear bk ak
      replace hm : Mem w0 hz _ [ow [ab] (aO : List Bool), blk aB [nV c_.params, nV c_.regs, v1] 49, blk aC [sV aG aH s_.ins.length aI, sV aT aV s_.outs.length aA] 93, holeE aT aV s_.outs.length aA (aK.1 : List (List Bool)) (b_).toNat [ab], ow [sV aM aN aD.length aE] aF] := hm
      replace hm := hm.pk (L' := [ow [ab] aO, blk aB [nV c_.params, nV c_.regs, v1] 49, blk aC [sV aG aH s_.ins.length aI, sV aT aV s_.outs.length aA] 93, holeE aT aV s_.outs.length aA (aK.1 : List (List Bool)) (b_).toNat [ab], ow [sV aM aN aD.length aE] aF]) [0, 1, 2, 3, 4] rfl rfl
      refine gY (yl isAgg90 ((hm.holeE_at 3 rfl).cell (j := 0) rfl) rfl) (gM rfl (gg fun cd bo al => ?_))
      obtain ⟨bp, bq, br, he⟩ := idx_form (hm.ow_rep 0 rfl) al
      subst he
      refine gI st_90 bo (idx_lt al) rfl (gf0 rfl (fun a hf => e_setElem (x1 := true) (j := 0) (vs := [(.bool (true))]) 0 hf hm rfl al rfl sizeOf4 rfl rfl rfl (one_cons rfl one_nil) rfl rfl) ?_)
      rintro _ w hm
      have ce := List.getElem?_set_self (a := true) (idx_lt al)
      refine gE ?_
      replace hm := hm.imp (c' := ow [sV bp bq aO.length br] ((aO.set (aL).toNat true) : List Bool)) 0 rfl (fun F h0 => h0)
      replace hm := (hm.shutE (y := ((aO.set (aL).toNat true) : List Bool)) 3 0 (by decide) rfl rfl).pk (L' := [blk aB [nV c_.params, nV c_.regs, v1] 49, blk aC [sV aG aH s_.ins.length aI, sV aT aV s_.outs.length aA] 93, ow [sV aT aV s_.outs.length aA] (aK.1.set (b_).toNat (aO.set (aL).toNat true)), ow [sV aM aN aD.length aE] aF]) [1, 2, 3, 4] rfl rfl
      have cf := List.getElem?_set_self (a := ((aO.set (aL).toNat true) : List Bool)) (idx_lt aa)
      exact gz hm [0, 1, 2, 3] rfl
     exact gcf rfl (gSk (gz hm [0, 1, 2, 3] rfl))
    repeat clear hm
    intro aX w hm
    exact gz hm [0, 1, 2, 3] rfl
   repeat clear hm
   intro aW w hm
   exact gR (gM rfl (gP (by omega) (by omega) rfl (gA rfl (gE (gze hm [0, 1, 2, 3] rfl)))))
  repeat clear hm
  intro cg ci w hm cj ck
  exact gS (gS (gR (gM rfl (gF fo_49_1 rfl (gL hm 0 isAgg3 rfl (gB rfl (gE (go _ 55 rfl (decide_eq_false (by omega)) (gcf rfl (gXt (gHh (gS (gR (gM rfl (gA rfl (gE (gRt (gr1 results155 rfl ⟨rfl, hm.pk [2] rfl rfl⟩))))))))))))))))))
theorem spec_MadeBy_ok (w0 : World) (x_ : Ins_) (v1 : Value) (h1 : GT.rep (hp w0) [v1] x_.args) :
    ConM Tryz.prog 140 [(.agg #[nV x_.op, nV x_.to, v1, nV x_.n_])] w0 (spec_MadeBy x_) fun r v w' => v = (nV r) ∧ Below w0.heap.size w0 w' := by
  unfold spec_MadeBy
  refine gcon func140 rfl fun r => ?_
  have hm := Mem.start w0
  refine gS (gR (gBx hm rfl fun aB w hm => gA rfl (gE (gS (gS (gR (gF fo_65_0 rfl (gL hm 0 isAgg3 rfl (gC hm rfl call89 (spec_l7Makes_ok _ x_.op) fun aC aD w hm => gE (gs 5 rfl (fun aA => ?_) fun aA => ?_))))))))))
  ·exact gct rfl (gS (gR (gF fo_65_1 rfl (gL hm 0 isAgg3 rfl (gA rfl (gE (gRt (gr1 results140 rfl ⟨rfl, hm.below⟩))))))))
  exact gcf rfl (gSk (gS (gR (gA rfl (gE (gRt (gr1 results140 rfl ⟨rfl, hm.below⟩)))))))
theorem spec_l12Behind_ok (w0 : World) (c_ : Code_) (v1 : Value) (h1 : GT.rep (hp w0) [v1] c_.blocks) (s_ : l12Sets) (v2 : Value) (h2 : GT.rep (hp w0) [v2] s_.ins) (v3 : Value) (h3 : GT.rep (hp w0) [v3] s_.outs) (b_ : Int) (i_ : Int) :
    ConM Tryz.prog 90 [(.agg #[nV c_.params, nV c_.regs, v1]), (.agg #[v2, v3]), nV b_, nV i_] w0 (spec_l12Behind c_ s_ b_ i_) fun r v w' => ∃ (x1 : Value), v = x1 ∧ Mem w0 (hp w0) w' [ow [x1] r] := by
  unfold spec_l12Behind
  refine gcon func90 rfl fun r => ?_
  have hm := Mem.start w0
  refine gS (gR (gBx hm rfl fun bK w hm => gBx hm rfl fun bL w hm => gA rfl (gE (gS (gR (gf rfl (fun a hf => e_build0 (α := Bool) et_90 hm rfl) ?_))))))
  rintro bM w hm
  refine gF fo_93_1 rfl (gL hm 1 isAgg45 rfl (gM rfl (gg fun ah ai aT => ?_)))
  obtain ⟨aj, ak, bN, he⟩ := idx_form' h3 aT
  subst he
  obtain ⟨_, _, aV, al⟩ := ro_get' h3 aT
  have aI := al
  obtain ⟨ab, rfl, -⟩ := id aI
  replace aI : GT.rep (hp w0) [ab] ah := aI
  replace aV : CellsAt (hp w0) aj (ak + (b_).toNat * 1) [ab] := aV
  refine gI st_45 ai (idx_lt aT) rfl (gY (yl isAgg90 ((aV.mono hm.lez).cell (j := 0) rfl) rfl) (gb fun bO am => ?_))
  obtain ⟨an, ao⟩ := appM_some.1 am
  refine gf rfl (fun a hf => e_append 0 et_90 hf hm rfl (hm.now aI) rfl rfl rfl an) ?_
  rintro ac w hm
  rw [ao] at hm
  refine gA rfl (gE (gS (gR (gF fo_49_2 rfl (gL hm 2 isAgg47 rfl (gM rfl (gg fun aB ap aW => ?_)))))))
  obtain ⟨bP, bQ, bR, he⟩ := idx_form' h1 aW
  subst he
  obtain ⟨aJ, aq, aK, ar, au, aL, av⟩ := rk_Block_ h1 aW
  refine gI st_47 ap (idx_lt aW) rfl (gY (yn (ar.mono hm.lez) isAgg63 sizeOf63 rfl) (gAl hm zeroValue63 rfl fun aE w hm => gSN hm 0 sizeOf63 (one_cons (rep_one au) (one_cons (rep_one aL) (one_cons rfl (one_cons rfl (one_cons (rep_one av) one_nil))))) rfl fun w hm => gE (gS (gS (gR (gF fo_63_2 rfl (gL hm 0 isAgg3 rfl (gB rfl (gE (gJ hm (fun aA => [(3, (nV i_)), (9, ac), (10, (pV aE))]) (fun aA => [ow [ac] aA, blk aE [aJ, aq, nV aB.jump, nV aB.on, aK] 63]) (fun aA => ?_) ?_))))))))))
  ·refine gsd 28 rfl (fun aw => ?_) fun aw => ?_
   ·refine gct rfl (gR (gM rfl (gF fo_63_3 rfl (gL hm 0 isAgg3 rfl (gg fun bS ax aM => ?_)))))
    obtain ⟨bT, bU, bV, he⟩ := idx_form (hm.ow_rep 1 rfl) aM
    subst he
    refine gI st_90 ax (idx_lt aM) rfl (gf0 rfl (fun a hf => e_setElem (x1 := true) (j := 0) (vs := [(.bool (true))]) 1 hf hm rfl aM rfl sizeOf4 rfl rfl rfl (one_cons rfl one_nil) rfl rfl) ?_)
    rintro _ w hm
    have bW := List.getElem?_set_self (a := true) (idx_lt aM)
    exact gE (gz hm [1, 0] rfl)
   exact gcf rfl (gSk (gz hm [1, 0] rfl))
  repeat clear hm
  intro aA w hm
  refine gS (gS (gR (gF fo_63_1 rfl (gL hm 1 isAgg61 rfl ?_))))
  obtain ⟨ay, aX, rfl, bX⟩ := ro_slice aL
  refine gY (yV st_61 rfl) (gY (yS (by omega) (by omega) rfl) (gA rfl (gE ?_)))
  obtain ⟨aC, aD, rfl, bY⟩ := ro_slice (hm.ow_rep 0 rfl)
  refine gJ hm (fun aN => [(9, (.slice aC aA.length aD))]) (fun aN => [ow [.slice aC aA.length aD] aN]) (fun aN => ?_) ?_
  ·refine gBk (gMf hm (fun aF => [(3, (nV i_)), (9, (.slice aC aA.length aD)), (10, (pV aE)), (11, (nV aF.2))]) (fun aF => [ow [.slice aC aA.length aD] aF.1, blk aE [aJ, .slice ay aB.ins.length aX, nV aB.jump, nV aB.on, aK] 63]) [0, 1] rfl ?_)
   repeat clear hm
   intro bZ az aF w hm b6 bA
   refine gS (gS (gR (gM rfl (gM rfl (gB rfl (gE (gsd 39 rfl (fun bB => ?_) fun bB => ?_)))))))
   ·refine gct rfl (gSk (gS (gBk (gS (gR (gF fo_63_1 rfl (gL hm 1 isAgg61 rfl (gM rfl (gg fun bC aO aG => ?_)))))))))
    obtain ⟨ae, af, b7, he⟩ := idx_form' aL aG
    obtain ⟨rfl, _, rfl⟩ := sl3 he
    obtain ⟨bD, aP, aH⟩ := rk_Ins_ aL aG
    refine gI st_61 aO (idx_lt aG) rfl (gY (yn (aP.mono hm.lez) isAgg65 sizeOf65 rfl) (gC hm rfl call140 (spec_MadeBy_ok _ bC bD (hm.now aH)) fun b8 b9 w hm => gA rfl (gE (gS (gS (gR (gM rfl (gB rfl (gE (gJ hm (fun aQ => [(3, (nV i_)), (9, (.slice aC aA.length aD)), (10, (pV aE)), (11, (nV aF.2))]) (fun aQ => [ow [.slice aC aA.length aD] aQ, blk aE [aJ, sV ae af aB.ins.length aX, nV aB.jump, nV aB.on, aK] 63]) (fun aQ => ?_) ?_))))))))))
    ·refine gsd 49 rfl (fun bE => ?_) fun bE => ?_
     ·refine gct rfl (gR (gM rfl (gM rfl (gg fun ba bF aR => ?_))))
      obtain ⟨bc, bd, be, he⟩ := idx_form (hm.ow_rep 0 rfl) aR
      obtain ⟨rfl, _, rfl⟩ := sl3 he
      have hL3_1 := rep_slice_len (hm.ow_rep 0 rfl)
      refine gI st_90 bF (idx_lt2 aR hL3_1) rfl (gf0 rfl (fun a hf => e_setElem (x1 := false) (j := 0) (vs := [(.bool (false))]) 0 hf hm rfl aR rfl sizeOf4 rfl rfl rfl (one_cons rfl one_nil) rfl rfl) ?_)
      rintro _ w hm
      have bf := List.getElem?_set_self (a := false) (idx_lt aR)
      exact gE (gz hm [0, 1] rfl)
     exact gcf rfl (gSk (gz hm [0, 1] rfl))
    repeat clear hm
    intro aQ w hm
    refine gS (gR (gA rfl (gE (gBk (gNf hm (fun aY aZ => [(3, (nV i_)), (9, (.slice aC aA.length aD)), (10, (pV aE)), (11, (nV aF.2)), (13, (nV aY))]) (fun aY aZ => [ow [.slice aC aA.length aD] aZ, blk aE [aJ, sV ae af aB.ins.length aX, nV aB.jump, nV aB.on, aK] 63]) [0, 1] rfl ?_ ?_)))))
    ·repeat clear hm
     intro _ _ aY aZ w hm bg bh bi _
     refine gS (gS (gR (gM rfl (gF fo_63_1 rfl (gL hm 1 isAgg61 rfl (gM rfl (gI st_61 aO (idx_lt aG) rfl (gF fo_65_2 rfl (gY (yl isAgg43 ((aP.mono hm.lez).cell (j := 2) rfl) rfl) ?_)))))))))
     obtain ⟨bj, bk, rfl, bm⟩ := ro_slice aH
     refine gY (yV st_43 rfl) (gB rfl (gE (go _ 61 rfl (decide_eq_true (by omega)) (gct rfl (gSk (gS (gBk (gR (gM rfl (gF fo_63_1 rfl (gL hm 1 isAgg61 rfl (gM rfl (gI st_61 aO (idx_lt aG) rfl (gF fo_65_2 rfl (gY (yl isAgg43 ((aP.mono hm.lez).cell (j := 2) rfl) rfl) (gM rfl (gg fun bG bH aa => ?_)))))))))))))))))
     obtain ⟨bo, bp, bq, he⟩ := idx_form aH aa
     obtain ⟨rfl, _, rfl⟩ := sl3 he
     refine gI st_43 bH (idx_lt aa) rfl (gY (yl isAgg3 ((flat_cells (cs := [nV bG]) (hm.now aH) aa rfl).cell (j := 0) rfl) rfl) (gg fun br bJ aS => ?_))
     obtain ⟨bs, bt, bu, he⟩ := idx_form (hm.ow_rep 0 rfl) aS
     obtain ⟨rfl, _, rfl⟩ := sl3 he
     have hL3_2 := rep_slice_len (hm.ow_rep 0 rfl)
     refine gI st_90 bJ (idx_lt2 aS hL3_2) rfl (gf0 rfl (fun a hf => e_setElem (x1 := true) (j := 0) (vs := [(.bool (true))]) 0 hf hm rfl aS rfl sizeOf4 rfl rfl rfl (one_cons rfl one_nil) rfl rfl) ?_)
     rintro _ w hm
     have bv := List.getElem?_set_self (a := true) (idx_lt aS)
     exact gE (gR (gM rfl (gP (by omega) (by omega) rfl (gA rfl (gE (gze hm [0, 1] rfl))))))
    repeat clear hm
    intro bx bz w hm cA cB
    refine gS (gS (gR (gM rfl (gF fo_63_1 rfl (gL hm 1 isAgg61 rfl (gM rfl (gI st_61 aO (idx_lt aG) rfl (gF fo_65_2 rfl (gY (yl isAgg43 ((aP.mono hm.lez).cell (j := 2) rfl) rfl) ?_)))))))))
    obtain ⟨cC, cD, rfl, cE⟩ := ro_slice aH
    exact gY (yV st_43 rfl) (gB rfl (gE (go _ 61 rfl (decide_eq_false (by omega)) (gcf rfl (gXt (gHh (gR (gM rfl (gB rfl (gA rfl (gE (gze hm [0, 1] rfl))))))))))))
   exact gcf rfl (gXt (gHh (gLp bA az (gz hm [0] rfl))))
  repeat clear hm
  intro aN w hm
  exact gS (gR (gM rfl (gA rfl (gE (gRt (gr1 results90 rfl ⟨.slice aC aA.length aD, rfl, hm.pk [0] rfl rfl⟩))))))
theorem spec_l12Live_ok (w0 : World) (c_ : Code_) (v1 : Value) (h1 : GT.rep (hp w0) [v1] c_.blocks) :
    ConM Tryz.prog 88 [(.agg #[nV c_.params, nV c_.regs, v1])] w0 (spec_l12Live c_) fun r v w' => ∃ (x1 : Value) (x2 : Value), v = (.agg #[x1, x2]) ∧ Mem w0 (hp w0) w' [ow [x1] r.ins, ow [x2] r.outs] := by
  unfold spec_l12Live
  refine gcon func88 rfl fun r => ?_
  have hm := Mem.start w0
  refine gS (gR (gBx hm rfl fun aD w hm => gAl hm zeroValue93 rfl fun aB w hm => gE (gS (gR (gY (yG rfl (y_build (vs := []) (cs := #[.slice none 0 0, .slice none 0 0]) rfl rfl (by kernel_rfl))) (gAl hm zeroValue93 rfl fun aC w hm => gSN hm 0 sizeOf93 (one_cons rfl (one_cons rfl one_nil)) rfl fun w hm => gE (gS (gR (gF fo_49_2 rfl (gL hm 2 isAgg47 rfl ?_))))))))))
  obtain ⟨aK, aJ, rfl, cR⟩ := ro_slice h1
  refine gY (yV st_47 rfl) (gA rfl (gE (gS (gS (gR (gA rfl (gE (gBk ?_))))))))
  replace hm := hm.nilow (α := List Bool)
  replace hm := hm.nilow (α := List Bool)
  refine gNg (fun bK aM a w => ∃ (aR aL : Value), St 126 [(1, (pV aD)), (2, (pV aB)), (3, (pV aC)), (4, (nV ((c_.blocks.length : Int)))), (5, (nV bK))] w0 (hp w0) [blk aD [nV c_.params, nV c_.regs, .slice aK c_.blocks.length aJ] 49, blk aB [.slice none 0 0, .slice none 0 0] 93, blk aC [aR, aL] 93, ow [aR] aM.1, ow [aL] aM.2] a w) (fun a hf => ⟨.slice none 0 0, .slice none 0 0, hf.sb rfl, hm.pk [4, 3, 2, 1, 0] rfl rfl⟩) ?_ ?_
  ·repeat clear hm
   rintro _ _ bK aM a w ⟨aR, aL, hf, hm⟩ cS cT cU _
   refine gv hf (gS (gS (gR (gM rfl (gM rfl (gB rfl (gE (go _ 18 rfl (decide_eq_true (by omega)) (gct rfl (gSk (gS (gBk (gS (gW (.p 0 (.p 2 (.q 1 (.e 3 (.e 4 (.e 5 (.e 6 (.p 7 (.e 8 .fin .nil)) .nil) .nil) .nil) .nil)))) [3, 4, 5] [0, 2, 7] hm [0, 1, 2, 3, 4] [blk aD [nV c_.params, nV c_.regs, .slice aK c_.blocks.length aJ] 49, blk aB [.slice none 0 0, .slice none 0 0] 93, blk aC [aR, aL] 93, ow [aR] aM.1, ow [aL] aM.2] rfl mxo (by kernel_rfl) (fun _ _ _ h => h.2) fun w hm hS => tP rfl (fun w => yF fo_93_0 rfl) (tP rfl (fun w => yF fo_49_1 rfl) (tQ rfl hS (fun w hm => yL hm 2 isAgg45 rfl) (tO (tY rfl (yL hm 0 isAgg3 rfl) (tAs hS (tO (gb fun aS bW => ?_)))))))))))))))))))))
   obtain ⟨⟨bX, bY⟩, bL⟩ := makeM_some.1 bW
   refine tf rfl rfl (fun a hf => e_make (x0 := (false : Bool)) et_90 (fun _ => (Flat.own_iff.2 rfl)) hf hm rfl rfl rfl bX (Int.le_refl _) bY) ?_
   rintro cV w hm
   rw [bL] at hm
   have h1_1l : (aS.length : Int) = c_.regs := by rw [← bL]; simp only [List.length_replicate]; omega
   refine tAk hm [1, 2, 3, 4, 5] rfl fun hS => tO ?_
   obtain ⟨aZ, aa, rfl, cW⟩ := ro_slice (hm.ow_rep 0 rfl)
   refine tf rfl rfl (fun a hf => e_build (vs := #[(0, (.slice aZ aS.length aa))]) (cs := [.slice aZ aS.length aa]) et_45 hf hm rfl rfl (by kernel_rfl) rfl rfl) ?_
   rintro _ w ⟨av, rfl, hm⟩
   replace hm := hm.els_nil (α := List Bool)
   replace hm := hm.imp (c' := ow [.slice aZ aS.length aa] (aS : List Bool)) 2 rfl (fun F h0 => h0)
   replace hm := (hm.els_cons 0 2 (by decide) rfl rfl).pk (L' := [els [.slice aZ aS.length aa] ([aS] : List (List Bool)), blk av [.slice aZ aS.length aa] 90, blk aD [nV c_.params, nV c_.regs, .slice aK c_.blocks.length aJ] 49, blk aB [.slice none 0 0, .slice none 0 0] 93, blk aC [aR, aL] 93, ow [aR] aM.1, ow [aL] aM.2]) [0, 1, 3, 4, 5, 6, 7] rfl rfl
   replace hm := (hm.lit_els 1 0 (by decide) rfl rfl rfl rfl).pk (L' := [ow [sV av 0 1 1] ([aS] : List (List Bool)), blk aD [nV c_.params, nV c_.regs, .slice aK c_.blocks.length aJ] 49, blk aB [.slice none 0 0, .slice none 0 0] 93, blk aC [aR, aL] 93, ow [aR] aM.1, ow [aL] aM.2]) [1, 2, 3, 4, 5, 6] rfl rfl
   refine tAk hm [1, 2, 3, 4, 5] rfl fun hS => tO (gb fun ak bZ => ?_)
   obtain ⟨b6, b7⟩ := appM_some.1 bZ
   replace hm := (hm.both 4 0 (by decide) rfl rfl).pk (L' := [blk aD [nV c_.params, nV c_.regs, .slice aK c_.blocks.length aJ] 49, blk aB [.slice none 0 0, .slice none 0 0] 93, blk aC [aR, aL] 93, both (ow [aR] aM.1) (ow [sV av 0 1 1] ([aS] : List (List Bool))), ow [aL] aM.2]) [1, 2, 3, 4, 5] rfl rfl
   refine tf rfl rfl (fun a hf => e_appendD (xs := aM.1) (ys := ([aS] : List (List Bool))) 3 et_45 hf hm rfl rfl rfl rfl b6) ?_
   rintro aW w hm
   rw [b7] at hm
   refine tAn rfl (tP rfl (fun w => yF fo_93_0 rfl) (tO (tf0 rfl rfl (fun a hf => e_store1 2 hf hm rfl sizeOf45 rfl rfl rfl (rep_one (hm.ow_rep 3 rfl)) rfl) ?_)))
   rintro _ w hm
   refine tAn rfl (tE (gW (.p 0 (.p 2 (.q 1 (.e 3 (.e 4 (.e 5 (.e 6 (.p 7 (.e 8 .fin .nil)) .nil) .nil) .nil) .nil)))) [3, 4, 5] [0, 2, 7] hm [0, 1, 2, 3, 4] [blk aD [nV c_.params, nV c_.regs, .slice aK c_.blocks.length aJ] 49, blk aB [.slice none 0 0, .slice none 0 0] 93, blk aC [aW, aL] 93, ow [aW] ak, ow [aL] aM.2] rfl mxo (by kernel_rfl) (fun _ _ _ h => h.2) fun w hm hS => tP rfl (fun w => yF fo_93_1 rfl) (tP rfl (fun w => yF fo_49_1 rfl) (tQ rfl hS (fun w hm => yL hm 2 isAgg45 rfl) (tO (tY rfl (yL hm 0 isAgg3 rfl) (tAs hS (tO (gb fun aT b8 => ?_)))))))))
   obtain ⟨⟨b9, ba⟩, bM⟩ := makeM_some.1 b8
   refine tf rfl rfl (fun a hf => e_make (x0 := (false : Bool)) et_90 (fun _ => (Flat.own_iff.2 rfl)) hf hm rfl rfl rfl b9 (Int.le_refl _) ba) ?_
   rintro cX w hm
   rw [bM] at hm
   have h1_3l : (aT.length : Int) = c_.regs := by rw [← bM]; simp only [List.length_replicate]; omega
   refine tAk hm [1, 2, 3, 4, 5] rfl fun hS => tO ?_
   obtain ⟨ab, ac, rfl, cY⟩ := ro_slice (hm.ow_rep 0 rfl)
   refine tf rfl rfl (fun a hf => e_build (vs := #[(0, (.slice ab aT.length ac))]) (cs := [.slice ab aT.length ac]) et_45 hf hm rfl rfl (by kernel_rfl) rfl rfl) ?_
   rintro _ w ⟨aw, rfl, hm⟩
   replace hm := hm.els_nil (α := List Bool)
   replace hm := hm.imp (c' := ow [.slice ab aT.length ac] (aT : List Bool)) 2 rfl (fun F h0 => h0)
   replace hm := (hm.els_cons 0 2 (by decide) rfl rfl).pk (L' := [els [.slice ab aT.length ac] ([aT] : List (List Bool)), blk aw [.slice ab aT.length ac] 90, blk aD [nV c_.params, nV c_.regs, .slice aK c_.blocks.length aJ] 49, blk aB [.slice none 0 0, .slice none 0 0] 93, blk aC [aW, aL] 93, ow [aW] ak, ow [aL] aM.2]) [0, 1, 3, 4, 5, 6, 7] rfl rfl
   replace hm := (hm.lit_els 1 0 (by decide) rfl rfl rfl rfl).pk (L' := [ow [sV aw 0 1 1] ([aT] : List (List Bool)), blk aD [nV c_.params, nV c_.regs, .slice aK c_.blocks.length aJ] 49, blk aB [.slice none 0 0, .slice none 0 0] 93, blk aC [aW, aL] 93, ow [aW] ak, ow [aL] aM.2]) [1, 2, 3, 4, 5, 6] rfl rfl
   refine tAk hm [1, 2, 3, 4, 5] rfl fun hS => tO (gb fun cZ bc => ?_)
   obtain ⟨bd, be⟩ := appM_some.1 bc
   replace hm := (hm.both 5 0 (by decide) rfl rfl).pk (L' := [blk aD [nV c_.params, nV c_.regs, .slice aK c_.blocks.length aJ] 49, blk aB [.slice none 0 0, .slice none 0 0] 93, blk aC [aW, aL] 93, ow [aW] ak, both (ow [aL] aM.2) (ow [sV aw 0 1 1] ([aT] : List (List Bool)))]) [1, 2, 3, 4, 5] rfl rfl
   refine tf rfl rfl (fun a hf => e_appendD (xs := aM.2) (ys := ([aT] : List (List Bool))) 4 et_45 hf hm rfl rfl rfl rfl bd) ?_
   rintro bf w hm
   rw [be] at hm
   refine tAn rfl (tP rfl (fun w => yF fo_93_1 rfl) (tO (tf0 rfl rfl (fun a hf => e_store1 2 hf hm rfl sizeOf45 rfl rfl rfl (rep_one (hm.ow_rep 4 rfl)) rfl) ?_)))
   rintro _ w hm
   exact tAn rfl (tE (gR (gM rfl (gP (by omega) (by omega) rfl (gA rfl (gE (gZe fun a hf => ⟨aW, bf, hf.sb rfl, hm.pk [0, 1, 2, 3, 4] rfl rfl⟩)))))))
  repeat clear hm
  rintro c5 aA a w ⟨c6, c7, hf, hm⟩ c8 c9
  refine gv hf (gS (gS (gR (gM rfl (gM rfl (gB rfl (gE (go _ 18 rfl (decide_eq_false (by omega)) (gcf rfl (gXt (gHh (gS (gS (gR (gA rfl (gE ?_))))))))))))))))
  obtain ⟨aH, aE, rfl, ca⟩ := ro_slice (hm.ow_rep 3 rfl)
  obtain ⟨aF, aG, rfl, cb⟩ := ro_slice (hm.ow_rep 4 rfl)
  refine gJ hm (fun ae => [(2, (pV aB)), (3, (pV aC))]) (fun ae => [blk aB [.slice none 0 0, .slice none 0 0] 93, blk aC [.slice aH aA.1.length aE, .slice aF aA.2.length aG] 93, ow [.slice aH aA.1.length aE] ae.1, ow [.slice aF aA.2.length aG] ae.2]) (fun ae => ?_) ?_
  ·refine gBk (gMf hm (fun af => [(1, (pV aD)), (2, (pV aB)), (3, (pV aC)), (4, (nV ((c_.blocks.length : Int)))), (6, (.bool (af.2.2)))]) (fun af => [blk aD [nV c_.params, nV c_.regs, .slice aK c_.blocks.length aJ] 49, blk aB [.slice none 0 0, .slice none 0 0] 93, blk aC [.slice aH aA.1.length aE, .slice aF aA.2.length aG] 93, ow [.slice aH aA.1.length aE] af.1, ow [.slice aF aA.2.length aG] af.2.1]) [0, 1, 2, 3, 4] rfl ?_)
   repeat clear hm
   intro cd bg af w hm ce bh
   refine gS (gS (gR (gM rfl (gE (gs 37 rfl (fun bi => ?_) fun bi => ?_)))))
   ·refine gct rfl (gSk (gBk (gS (gR (gA rfl (gE (gS (gR (gM rfl (gY (yS (by omega) (by omega) rfl) (gA rfl (gE (gJ hm (fun aY => [(1, (pV aD)), (2, (pV aB)), (3, (pV aC)), (4, (nV ((c_.blocks.length : Int)))), (6, (.bool (aY.2.2)))]) (fun aY => [blk aD [nV c_.params, nV c_.regs, .slice aK c_.blocks.length aJ] 49, blk aB [.slice none 0 0, .slice none 0 0] 93, blk aC [.slice aH aA.1.length aE, .slice aF aA.2.length aG] 93, ow [.slice aH aA.1.length aE] aY.1, ow [.slice aF aA.2.length aG] aY.2.1]) (fun aY => ?_) ?_)))))))))))))
    ·refine gBk (gMf hm (fun aI => [(1, (pV aD)), (2, (pV aB)), (3, (pV aC)), (4, (nV ((c_.blocks.length : Int)))), (6, (.bool (aI.2.2.1))), (7, (nV aI.2.2.2))]) (fun aI => [blk aD [nV c_.params, nV c_.regs, .slice aK c_.blocks.length aJ] 49, blk aB [.slice none 0 0, .slice none 0 0] 93, blk aC [.slice aH aA.1.length aE, .slice aF aA.2.length aG] 93, ow [.slice aH aA.1.length aE] aI.1, ow [.slice aF aA.2.length aG] aI.2.1]) [0, 1, 2, 3, 4] rfl ?_)
     repeat clear hm
     intro cf bj aI w hm cg bk
     refine gS (gS (gR (gM rfl (gB rfl (gE (gsd 41 rfl (fun bm => ?_) fun bm => ?_))))))
     ·refine gct rfl (gSk (gS (gBk (gS (gS (gR (gA rfl (gE (gJ hm (fun aN => [(1, (pV aD)), (2, (pV aB)), (3, (pV aC)), (4, (nV ((c_.blocks.length : Int)))), (6, (.bool (aN.2))), (7, (nV aI.2.2.2))]) (fun aN => [blk aD [nV c_.params, nV c_.regs, .slice aK c_.blocks.length aJ] 49, blk aB [.slice none 0 0, .slice none 0 0] 93, blk aC [.slice aH aA.1.length aE, .slice aF aA.2.length aG] 93, ow [.slice aH aA.1.length aE] aI.1, ow [.slice aF aA.2.length aG] aN.1]) (fun aN => ?_) ?_)))))))))
      ·refine gBk (gMf hm (fun aX => [(1, (pV aD)), (2, (pV aB)), (3, (pV aC)), (4, (nV ((c_.blocks.length : Int)))), (6, (.bool (aX.2.1))), (7, (nV aI.2.2.2)), (8, (nV aX.2.2))]) (fun aX => [blk aD [nV c_.params, nV c_.regs, .slice aK c_.blocks.length aJ] 49, blk aB [.slice none 0 0, .slice none 0 0] 93, blk aC [.slice aH aA.1.length aE, .slice aF aA.2.length aG] 93, ow [.slice aH aA.1.length aE] aI.1, ow [.slice aF aA.2.length aG] aX.1]) [0, 1, 2, 3, 4] rfl ?_)
       repeat clear hm
       intro ci bo aX w hm cj bp
       refine gS (gS (gR (gM rfl (gF fo_49_2 rfl (gL hm 0 isAgg47 rfl (gM rfl (gg fun ck bN al => ?_)))))))
       obtain ⟨am, an, cl, he⟩ := idx_form' h1 al
       obtain ⟨rfl, _, rfl⟩ := sl3 he
       obtain ⟨cm, cn, co, bO, cq, cr, ax⟩ := rk_Block_ h1 al
       refine gI st_47 bN (idx_lt al) rfl (gF fo_63_4 rfl (gY (yl isAgg43 ((bO.mono hm.lez).cell (j := 4) rfl) rfl) ?_))
       obtain ⟨ct, cu, rfl, cv⟩ := ro_slice ax
       refine gY (yV st_43 rfl) (gB rfl (gE (gsd 52 rfl (fun bq => ?_) fun bq => ?_)))
       ·refine gct rfl (gSk (gS (gBk (gJ hm (fun ah => [(1, (pV aD)), (2, (pV aB)), (3, (pV aC)), (4, (nV ((c_.blocks.length : Int)))), (6, (.bool (ah.2))), (7, (nV aI.2.2.2)), (8, (nV aX.2.2))]) (fun ah => [blk aD [nV c_.params, nV c_.regs, sV am an c_.blocks.length aJ] 49, blk aB [.slice none 0 0, .slice none 0 0] 93, blk aC [.slice aH aA.1.length aE, .slice aF aA.2.length aG] 93, ow [.slice aH aA.1.length aE] aI.1, ow [.slice aF aA.2.length aG] ah.1]) (fun ah => ?_) ?_))))
        ·refine gW (.p 2 (.p 3 (.p 5 (.p 9 (.q 0 (.q 1 (.e 4 (.p 6 (.p 7 (.e 8 (.p 10 (.e 11 (.e 12 (.p 13 (.p 14 (.p 15 (.p 16 .fin)))) .nil) .nil)) .nil))) .nil))))))) [0, 1, 4, 8, 11] [2, 3, 5, 6, 7, 9, 10, 13, 14, 15, 16] hm [0, 1, 2, 3, 4] [blk aD [nV c_.params, nV c_.regs, sV am an c_.blocks.length aJ] 49, blk aB [.slice none 0 0, .slice none 0 0] 93, blk aC [.slice aH aA.1.length aE, .slice aF aA.2.length aG] 93, ow [.slice aH aA.1.length aE] aI.1, ow [.slice aF aA.2.length aG] aX.1] rfl mxo (by kernel_rfl) (fun _ _ _ h => h.2) fun w hm hS => tP rfl (fun w => yM rfl) (tP rfl (fun w => yF fo_49_2 rfl) (tP rfl (fun w => yM rfl) (tP rfl (fun w => yM rfl) (tQ rfl hS (fun w hm => yn (hm.blk_at 0 rfl) isAgg49 sizeOf49 rfl) (tQ rfl hS (fun w hm => yn (hm.blk_at 2 rfl) isAgg93 sizeOf93 rfl) (tO (tY rfl (yL hm 0 isAgg47 rfl) (tAs hS (tP rfl (fun w => yI st_47 bN (idx_lt al) rfl) (tP rfl (fun w => yF fo_63_4 rfl) (tO (tY rfl (yl isAgg43 ((bO.mono hm.lez).cell (j := 4) rfl) rfl) (tAs hS (gg fun bP br ay => ?_))))))))))))))
         obtain ⟨cw, cx, cy, he⟩ := idx_form ax ay
         obtain ⟨rfl, _, rfl⟩ := sl3 he
         refine tP rfl (fun w => yI st_43 br (idx_lt ay) rfl) (tO (tY rfl (yl isAgg3 ((flat_cells (cs := [nV bP]) (hm.now ax) ay rfl).cell (j := 0) rfl) rfl) (tAs hS (tO (gb fun cz bs => ?_)))))
         obtain ⟨bt, hle, hm1, hsub, bu⟩ := hm.take2 (L1 := [ow [.slice aF aA.2.length aG] aX.1]) (L2 := [blk aD [nV c_.params, nV c_.regs, sV am an c_.blocks.length aJ] 49, blk aB [.slice none 0 0, .slice none 0 0] 93, blk aC [.slice aH aA.1.length aE, .slice aF aA.2.length aG] 93, ow [.slice aH aA.1.length aE] aI.1]) [4] [0, 1, 2, 3] (by decide) rfl rfl
         refine tf rfl rfl (fun a hf => e_call hf rfl call155 rfl (spec_l12Flow_ok _ bt c_ (sV am an c_.blocks.length aJ) (GT.mono hle h1) (⟨aI.1, aX.1⟩ : l12Sets) (.slice aH aA.1.length aE) (fz_ow (hsub 3 _ rfl)) (.slice aF aA.2.length aG) aI.2.2.2 bP hm1  _ bs)) ?_
         rintro dA w ⟨rfl, hB⟩
         replace hm := bu _ _ hB; clear hB
         refine tAn rfl (tP rfl (fun w => yM rfl) (gs 68 rfl (fun bv => ?_) fun bv => ?_))
         ·exact tPo rfl rfl (tP rfl (fun w => yKt rfl) (tP rfl (fun w => yA rfl) (tE (gz hm [1, 2, 3, 4, 0] rfl))))
         exact tP rfl (fun w => yM rfl) (tP rfl (fun w => yKf rfl) (tP rfl (fun w => yA rfl) (tE (gz hm [1, 2, 3, 4, 0] rfl))))
        repeat clear hm
        intro ah w hm
        exact gR (gM rfl (gB rfl (gA rfl (gE (gze hm [0, 1, 2, 3, 4] rfl)))))
       exact gcf rfl (gXt (gHh (gLp bp bo (gz hm [0, 1, 2, 3, 4] rfl))))
      repeat clear hm
      intro aN w hm
      refine gS (gR (gY (yn (hm.blk_at 0 rfl) isAgg49 sizeOf49 rfl) (gY (yn (hm.blk_at 2 rfl) isAgg93 sizeOf93 rfl) (gM rfl (gCg rfl call90 (spec_l12Behind_ok _ c_ (.slice aK c_.blocks.length aJ) (hm.now h1) (⟨aI.1, aN.1⟩ : l12Sets) (.slice aH aA.1.length aE) (hm.ow_rep 3 rfl) (.slice aF aA.2.length aG) (hm.ow_rep 4 rfl) aI.2.2.2 (-1)) ?_)))))
      rintro aO dB dC w ⟨_, rfl, hB⟩
      replace hm := hm.give hB; clear hB
      refine gA rfl (gE (gS (gS (gR (gA rfl (gE ?_))))))
      obtain ⟨aP, aQ, rfl, dD⟩ := ro_slice (hm.ow_rep 0 rfl)
      refine gJ hm (fun aV => [(1, (pV aD)), (2, (pV aB)), (3, (pV aC)), (4, (nV ((c_.blocks.length : Int)))), (6, (.bool (aN.2))), (7, (nV aI.2.2.2)), (9, (.slice aP aO.length aQ))]) (fun aV => [blk aD [nV c_.params, nV c_.regs, .slice aK c_.blocks.length aJ] 49, blk aB [.slice none 0 0, .slice none 0 0] 93, blk aC [.slice aH aA.1.length aE, .slice aF aA.2.length aG] 93, ow [.slice aH aA.1.length aE] aI.1, ow [.slice aF aA.2.length aG] aN.1, ow [.slice aP aO.length aQ] aV]) (fun aV => ?_) ?_
      ·refine gBk (gMf hm (fun ao => [(1, (pV aD)), (2, (pV aB)), (3, (pV aC)), (4, (nV ((c_.blocks.length : Int)))), (6, (.bool (aN.2))), (7, (nV aI.2.2.2)), (9, (.slice aP aO.length aQ)), (10, (nV ao.2))]) (fun ao => [blk aD [nV c_.params, nV c_.regs, .slice aK c_.blocks.length aJ] 49, blk aB [.slice none 0 0, .slice none 0 0] 93, blk aC [.slice aH aA.1.length aE, .slice aF aA.2.length aG] 93, ow [.slice aH aA.1.length aE] aI.1, ow [.slice aF aA.2.length aG] aN.1, ow [.slice aP aO.length aQ] ao.1]) [1, 2, 3, 4, 5, 0] rfl ?_)
       repeat clear hm
       intro dE bx ao w hm dF bz
       refine gS (gS (gR (gM rfl (gF fo_49_2 rfl (gL hm 0 isAgg47 rfl (gM rfl (gg fun dG bQ ap => ?_)))))))
       obtain ⟨dH, dI, dJ, he⟩ := idx_form' h1 ap
       obtain ⟨rfl, _, rfl⟩ := sl3 he
       obtain ⟨dK, dL, dM, bR, az, dN, dO⟩ := rk_Block_ h1 ap
       refine gI st_47 bQ (idx_lt ap) rfl (gF fo_63_0 rfl (gY (yl isAgg60 ((bR.mono hm.lez).cell (j := 0) rfl) rfl) ?_))
       obtain ⟨dP, dQ, rfl, dR⟩ := ro_slice az
       refine gY (yV st_60 rfl) (gB rfl (gE (gsd 83 rfl (fun cA => ?_) fun cA => ?_)))
       ·refine gct rfl (gSk (gS (gBk (gR (gM rfl (gF fo_49_2 rfl (gL hm 0 isAgg47 rfl (gM rfl (gI st_47 bQ (idx_lt ap) rfl (gF fo_63_0 rfl (gY (yl isAgg60 ((bR.mono hm.lez).cell (j := 0) rfl) rfl) (gM rfl (gg fun dS cB bA => ?_)))))))))))))
        obtain ⟨dT, dU, dV, he⟩ := idx_form' az bA
        obtain ⟨rfl, _, rfl⟩ := sl3 he
        obtain ⟨dW, cC, dX⟩ := rk_Phi_ az bA
        refine gI st_60 cB (idx_lt bA) rfl (gF fo_127_0 rfl (gY (yl isAgg3 ((cC.mono hm.lez).cell (j := 0) rfl) rfl) (gg fun dY cD aq => ?_)))
        obtain ⟨dZ, d4, d5, he⟩ := idx_form (hm.ow_rep 5 rfl) aq
        obtain ⟨rfl, _, rfl⟩ := sl3 he
        have hL6_1 := rep_slice_len (hm.ow_rep 5 rfl)
        refine gI st_90 cD (idx_lt2 aq hL6_1) rfl (gf0 rfl (fun a hf => e_setElem (x1 := false) (j := 0) (vs := [(.bool (false))]) 5 hf hm rfl aq rfl sizeOf4 rfl rfl rfl (one_cons rfl one_nil) rfl rfl) ?_)
        rintro _ w hm
        have d6 := List.getElem?_set_self (a := false) (idx_lt aq)
        exact gE (gR (gM rfl (gB rfl (gA rfl (gE (gze hm [0, 1, 2, 3, 4, 5] rfl))))))
       exact gcf rfl (gXt (gHh (gLp bz bx (gz hm [0, 1, 2, 3, 4, 5] rfl))))
      repeat clear hm
      intro aV w hm
      refine gS (gS (gR (gA rfl (gE (gBk (gb fun _ bS => ?_))))))
      replace bS := fitI_some.1 bS
      refine gNf hm (fun ar bB => [(1, (pV aD)), (2, (pV aB)), (3, (pV aC)), (4, (nV ((c_.blocks.length : Int)))), (6, (.bool (bB))), (7, (nV aI.2.2.2)), (9, (.slice aP aO.length aQ)), (11, (nV ar))]) (fun ar bB => [blk aD [nV c_.params, nV c_.regs, .slice aK c_.blocks.length aJ] 49, blk aB [.slice none 0 0, .slice none 0 0] 93, blk aC [.slice aH aA.1.length aE, .slice aF aA.2.length aG] 93, ow [.slice aH aA.1.length aE] aI.1, ow [.slice aF aA.2.length aG] aN.1, ow [.slice aP aO.length aQ] aV]) [0, 1, 2, 3, 4, 5] rfl ?_ ?_
      ·repeat clear hm
       intro _ _ ar bB w hm d7 d8 d9 _
       refine gS (gS (gR (gM rfl (gF fo_49_1 rfl (gL hm 0 isAgg3 rfl (gB rfl (gE (go _ 101 rfl (decide_eq_true (by omega)) (gct rfl (gSk (gS (gBk (gJ hm (fun au => [(1, (pV aD)), (2, (pV aB)), (3, (pV aC)), (4, (nV ((c_.blocks.length : Int)))), (6, (.bool (au))), (7, (nV aI.2.2.2)), (9, (.slice aP aO.length aQ)), (11, (nV ar))]) (fun au => [blk aD [nV c_.params, nV c_.regs, .slice aK c_.blocks.length aJ] 49, blk aB [.slice none 0 0, .slice none 0 0] 93, blk aC [.slice aH aA.1.length aE, .slice aF aA.2.length aG] 93, ow [.slice aH aA.1.length aE] aI.1, ow [.slice aF aA.2.length aG] aN.1, ow [.slice aP aO.length aQ] aV]) (fun au => ?_) ?_)))))))))))))
       ·refine gW (.p 0 (.p 1 (.p 2 (.p 3 (.p 4 (.p 6 (.p 8 (.p 11 (.q 5 (.e 7 (.p 9 (.e 10 (.p 12 (.e 13 (.p 14 (.p 15 (.p 16 .fin))) .nil)) .nil)) .nil)))))))))) [7, 10, 13] [0, 1, 2, 3, 4, 6, 8, 9, 11, 12, 14, 15, 16] hm [0, 1, 2, 3, 4, 5] [blk aD [nV c_.params, nV c_.regs, .slice aK c_.blocks.length aJ] 49, blk aB [.slice none 0 0, .slice none 0 0] 93, blk aC [.slice aH aA.1.length aE, .slice aF aA.2.length aG] 93, ow [.slice aH aA.1.length aE] aI.1, ow [.slice aF aA.2.length aG] aN.1, ow [.slice aP aO.length aQ] aV] rfl mxo (by kernel_rfl) (fun _ _ _ h => h.2) fun w hm hS => tP rfl (fun w => yM rfl) (tP rfl (fun w => yM rfl) (gs 105 rfl (fun cE => ?_) fun cE => ?_))
        ·exact tPo rfl rfl (tPo rfl rfl (tPo rfl rfl (tPo rfl rfl (tPo rfl rfl (tPo rfl rfl (tQo rfl hS rfl (tO (tEo rfl rfl (tAs hS (tPo rfl rfl (tO (tEo rfl rfl (tAs hS (tPo rfl rfl (tO (tEo rfl rfl (tAs hS (tPo rfl rfl (tP rfl (fun w => yKt rfl) (tP rfl (fun w => yA rfl) (tE (gz hm [0, 1, 2, 3, 4, 5] rfl))))))))))))))))))))))
        refine tP rfl (fun w => yM rfl) (tP rfl (fun w => yM rfl) (gg fun cF cG bC => ?_))
        obtain ⟨da, db, dc, he⟩ := idx_form (hm.ow_rep 5 rfl) bC
        obtain ⟨rfl, _, rfl⟩ := sl3 he
        have hL6_2 := rep_slice_len (hm.ow_rep 5 rfl)
        refine tP rfl (fun w => yI st_90 cG (idx_lt2 bC hL6_2) rfl) (tP rfl (fun w => yF fo_93_0 rfl) (tP rfl (fun w => yM rfl) (tP rfl (fun w => yM rfl) (tQ rfl hS (fun w hm => yl isAgg4 ((flat_cells (cs := [(.bool (cF))]) (hm.ow_rep 5 rfl) bC rfl).cell (j := 0) rfl) rfl) (tO (tY rfl (yL hm 2 isAgg45 rfl) (tAs hS (gg fun cH cI bD => ?_))))))))
        obtain ⟨cJ, cK, dd, he⟩ := idx_form' (hm.ow_rep 3 rfl) bD
        obtain ⟨rfl, _, rfl⟩ := sl3 he
        obtain ⟨_, _, bE, cL⟩ := ro_get' (hm.ow_rep 3 rfl) bD
        have ai := cL
        obtain ⟨bT, rfl, -⟩ := id ai
        replace ai : GT.rep (hp _) [bT] cH := ai
        replace bE : CellsAt (hp _) cJ (cK + (aI.2.2.2).toNat * 1) [bT] := bE
        have hL6_3 := rep_slice_len (hm.ow_rep 3 rfl)
        refine tP rfl (fun w => yI st_45 cI (idx_lt2 bD hL6_3) rfl) (tO (tY rfl (yl isAgg90 (bE.cell (j := 0) rfl) rfl) (tAs hS (gg fun cM cN bF => ?_))))
        obtain ⟨de, df, dg, he⟩ := idx_form ai bF
        subst he
        exact tP rfl (fun w => yI st_90 cN (idx_lt bF) rfl) (tO (tY rfl (yl isAgg4 ((flat_cells (cs := [(.bool (cM))]) ai bF rfl).cell (j := 0) rfl) rfl) (tAs hS (tP rfl (fun w => yG rfl (y_neqb underlying4 rfl rfl rfl)) (tP rfl (fun w => yKf rfl) (tP rfl (fun w => yA rfl) (tE (gz hm [0, 1, 2, 3, 4, 5] rfl))))))))
       repeat clear hm
       intro au w hm
       exact gR (gM rfl (gP (by omega) (by omega) rfl (gA rfl (gE (gze hm [0, 1, 2, 3, 4, 5] rfl)))))
      repeat clear hm
      intro dh di w hm dk dl
      refine gS (gS (gR (gM rfl (gF fo_49_1 rfl (gL hm 0 isAgg3 rfl (gB rfl (gE (go _ 101 rfl (decide_eq_false (by omega)) (gcf rfl (gXt (gHh (gR (gF fo_93_0 rfl (gL hm 2 isAgg45 rfl (gM rfl (gM rfl (gg fun cO cP aj => ?_)))))))))))))))))
      obtain ⟨bG, bH, dm, he⟩ := idx_form' (hm.ow_rep 3 rfl) aj
      obtain ⟨rfl, _, rfl⟩ := sl3 he
      obtain ⟨_, _, bU, cQ⟩ := ro_get' (hm.ow_rep 3 rfl) aj
      have bJ := cQ
      obtain ⟨bV, rfl, -⟩ := id bJ
      replace bJ : GT.rep (hp _) [bV] cO := bJ
      replace bU : CellsAt (hp _) bG (bH + (aI.2.2.2).toNat * 1) [bV] := bU
      have hL4_1 := rep_slice_len (hm.ow_rep 3 rfl)
      refine gI st_45 cP (idx_lt2 aj hL4_1) rfl ?_
      replace hm := hm.imp (c' := ow [.slice aP aO.length aQ] (aV : List Bool)) 5 rfl (fun F h0 => h0)
      replace hm := (hm.both 3 5 (by decide) rfl rfl).pk (L' := [blk aD [nV c_.params, nV c_.regs, .slice aK c_.blocks.length aJ] 49, blk aB [.slice none 0 0, .slice none 0 0] 93, blk aC [sV bG bH aA.1.length aE, .slice aF aA.2.length aG] 93, both (ow [sV bG bH aA.1.length aE] aI.1) (ow [.slice aP aO.length aQ] (aV : List Bool)), ow [.slice aF aA.2.length aG] aN.1]) [0, 1, 2, 3, 4] rfl rfl
      refine gf0 rfl (fun a hf => e_putElem (x1 := (aV : List Bool)) (vs := [.slice aP aO.length aQ]) 3 hf hm rfl aj rfl sizeOf90 rfl rfl rfl rfl) ?_
      rintro _ w hm
      have dp := List.getElem?_set_self (a := (aV : List Bool)) (idx_lt aj)
      exact gE (gR (gM rfl (gB rfl (gA rfl (gE (gze hm [0, 1, 2, 3, 4] rfl))))))
     exact gcf rfl (gXt (gHh (gLp bk bj (gz hm [0, 1, 2, 3, 4] rfl))))
    repeat clear hm
    intro aY w hm
    exact gze hm [0, 1, 2, 3, 4] rfl
   exact gcf rfl (gXt (gHh (gLp bh bg (gz hm [1, 2, 3, 4] rfl))))
  repeat clear hm
  intro ae w hm
  exact gS (gR (gY (yn (hm.blk_at 1 rfl) isAgg93 sizeOf93 rfl) (gSN hm 0 sizeOf93 (one_cons rfl (one_cons rfl one_nil)) rfl fun w hm => gE (gRt (grc 0 results88 hm rfl isAgg93 sizeOf93 ⟨.slice aH aA.1.length aE, .slice aF aA.2.length aG, rfl, hm.pk [2, 3] rfl rfl⟩)))))
theorem spec_l21Table_ok (w0 : World) (c_ : Code_) (v1 : Value) (h1 : GT.rep (hp w0) [v1] c_.blocks) :
    ConM Tryz.prog 43 [(.agg #[nV c_.params, nV c_.regs, v1])] w0 (spec_l21Table c_) fun r v w' => ∃ (x1 : Value), v = x1 ∧ Mem w0 (hp w0) w' [ow [x1] r] := by
  unfold spec_l21Table
  refine gcon func43 rfl fun r => ?_
  have hm := Mem.start w0
  refine gS (gR (gBx hm rfl fun aF w hm => gA rfl (gE (gS (gR (gf rfl (fun a hf => e_build0 (α := List Bool) et_45 hm rfl) ?_))))))
  rintro dX w hm
  refine gA rfl (gE (gS (gS (gR (gA rfl (gE ?_))))))
  obtain ⟨cL, cM, rfl, dY⟩ := ro_slice (hm.ow_rep 0 rfl)
  refine gBk (gb fun _ bj => ?_)
  replace bj := fitI_some.1 bj
  refine gNg (fun bk aq a w => ∃ (ar : Value), St 154 [(1, (pV aF)), (3, ar), (4, (nV bk))] w0 (hp w0) [blk aF [nV c_.params, nV c_.regs, v1] 49, ow [ar] aq] a w) (fun a hf => ⟨.slice cL ([] : List (List Bool)).length cM, hf.sb rfl, hm.pk [1, 0] rfl rfl⟩) ?_ ?_
  ·repeat clear hm
   rintro _ _ bk aq a w ⟨ar, hf, hm⟩ dZ d4 d5 _
   refine gv hf (gS (gS (gR (gM rfl (gF fo_49_1 rfl (gL hm 0 isAgg3 rfl (gB rfl (gE (go _ 17 rfl (decide_eq_true (by omega)) (gct rfl (gSk (gS (gBk (gR (gM rfl (gF fo_49_1 rfl (gL hm 0 isAgg3 rfl (gb fun aa cN => ?_))))))))))))))))))
   obtain ⟨⟨cO, cP⟩, bm⟩ := makeM_some.1 cN
   refine gf rfl (fun a hf => e_make (x0 := (false : Bool)) et_90 (fun _ => (Flat.own_iff.2 rfl)) hf hm rfl rfl rfl cO (Int.le_refl _) cP) ?_
   rintro d6 w hm
   rw [bm] at hm
   have h1_1l : (aa.length : Int) = c_.regs := by rw [← bm]; simp only [List.length_replicate]; omega
   obtain ⟨au, av, rfl, d7⟩ := ro_slice (hm.ow_rep 0 rfl)
   refine gf rfl (fun a hf => e_build (vs := #[(0, (.slice au aa.length av))]) (cs := [.slice au aa.length av]) et_45 hf hm rfl rfl (by kernel_rfl) rfl rfl) ?_
   rintro _ w ⟨bY, rfl, hm⟩
   replace hm := hm.els_nil (α := List Bool)
   replace hm := hm.imp (c' := ow [.slice au aa.length av] (aa : List Bool)) 2 rfl (fun F h0 => h0)
   replace hm := (hm.els_cons 0 2 (by decide) rfl rfl).pk (L' := [els [.slice au aa.length av] ([aa] : List (List Bool)), blk bY [.slice au aa.length av] 90, blk aF [nV c_.params, nV c_.regs, v1] 49, ow [ar] aq]) [0, 1, 3, 4] rfl rfl
   replace hm := (hm.lit_els 1 0 (by decide) rfl rfl rfl rfl).pk (L' := [ow [sV bY 0 1 1] ([aa] : List (List Bool)), blk aF [nV c_.params, nV c_.regs, v1] 49, ow [ar] aq]) [1, 2, 3] rfl rfl
   refine gb fun d8 cQ => ?_
   obtain ⟨cR, cS⟩ := appM_some.1 cQ
   replace hm := (hm.both 2 0 (by decide) rfl rfl).pk (L' := [blk aF [nV c_.params, nV c_.regs, v1] 49, both (ow [ar] aq) (ow [sV bY 0 1 1] ([aa] : List (List Bool)))]) [1, 2] rfl rfl
   refine gf rfl (fun a hf => e_appendD (xs := aq) (ys := ([aa] : List (List Bool))) 1 et_45 hf hm rfl rfl rfl rfl cR) ?_
   rintro cT w hm
   rw [cS] at hm
   exact gA rfl (gE (gR (gM rfl (gP (by omega) (by omega) rfl (gA rfl (gE (gZe fun a hf => ⟨cT, hf.sb rfl, hm.pk [0, 1] rfl rfl⟩)))))))
  repeat clear hm
  rintro d9 aH a w ⟨da, hf, hm⟩ db dc
  refine gv hf (gS (gS (gR (gM rfl (gF fo_49_1 rfl (gL hm 0 isAgg3 rfl (gB rfl (gE (go _ 17 rfl (decide_eq_false (by omega)) (gcf rfl (gXt (gHh (gS (gR (gY (yn (hm.blk_at 0 rfl) isAgg49 sizeOf49 rfl) (gCg rfl call88 (spec_l12Live_ok _ c_ v1 (hm.now h1)) ?_))))))))))))))))
  rintro aA dd de w ⟨df, dg, rfl, hB⟩
  replace hm := hm.give hB; clear hB
  refine gAl hm zeroValue93 rfl fun aI w hm => gSN hm 0 sizeOf93 (one_cons (rep_one (hm.ow_rep 1 rfl)) (one_cons (rep_one (hm.ow_rep 2 rfl)) one_nil)) rfl fun w hm => gE (gS (gS (gR (gA rfl (gE ?_)))))
  obtain ⟨aK, aJ, rfl, dh⟩ := ro_slice (hm.ow_rep 4 rfl)
  obtain ⟨aE, aB, rfl, di⟩ := ro_slice (hm.ow_rep 1 rfl)
  obtain ⟨aC, aD, rfl, dk⟩ := ro_slice (hm.ow_rep 2 rfl)
  refine gBk (gb fun _ bo => ?_)
  replace bo := fitI_some.1 bo
  refine gNf hm (fun aM bZ => [(1, (pV aF)), (3, (.slice aK aH.length aJ)), (5, (pV aI)), (6, (nV aM))]) (fun aM bZ => [blk aF [nV c_.params, nV c_.regs, v1] 49, ow [.slice aK aH.length aJ] bZ, blk aI [.slice aE aA.ins.length aB, .slice aC aA.outs.length aD] 93, ow [.slice aE aA.ins.length aB] aA.ins, ow [.slice aC aA.outs.length aD] aA.outs]) [3, 4, 0, 1, 2] rfl ?_ ?_
  ·repeat clear hm
   intro _ _ aM bZ w hm dl dm dp _
   refine gS (gS (gR (gM rfl (gF fo_49_0 rfl (gL hm 0 isAgg3 rfl (gB rfl (gE (go _ 31 rfl (decide_eq_true (by omega)) (gct rfl (gSk (gS (gBk (gS (gR (gA rfl (gE (gBk (gb fun _ bp => ?_))))))))))))))))))
   replace bp := fitI_some.1 bp
   refine gNf hm (fun aN aT => [(1, (pV aF)), (3, (.slice aK aH.length aJ)), (5, (pV aI)), (6, (nV aM)), (7, (nV aN))]) (fun aN aT => [blk aF [nV c_.params, nV c_.regs, v1] 49, ow [.slice aK aH.length aJ] aT, blk aI [.slice aE aA.ins.length aB, .slice aC aA.outs.length aD] 93, ow [.slice aE aA.ins.length aB] aA.ins, ow [.slice aC aA.outs.length aD] aA.outs]) [0, 1, 2, 3, 4] rfl ?_ ?_
   ·repeat clear hm
    intro _ _ aN aT w hm dq dr dt _
    refine gS (gS (gR (gM rfl (gF fo_49_1 rfl (gL hm 0 isAgg3 rfl (gB rfl (gE (go _ 37 rfl (decide_eq_true (by omega)) (gct rfl (gSk (gS (gJ hm (fun bD => [(1, (pV aF)), (3, (.slice aK aH.length aJ)), (5, (pV aI)), (6, (nV aM)), (7, (nV aN))]) (fun bD => [blk aF [nV c_.params, nV c_.regs, v1] 49, ow [.slice aK aH.length aJ] bD, blk aI [.slice aE aA.ins.length aB, .slice aC aA.outs.length aD] 93, ow [.slice aE aA.ins.length aB] aA.ins, ow [.slice aC aA.outs.length aD] aA.outs]) (fun bD => ?_) ?_))))))))))))
    ·refine gBk (gS (gJ hm (fun bE => [(1, (pV aF)), (3, (.slice aK aH.length aJ)), (5, (pV aI)), (6, (nV aM)), (7, (nV aN)), (60, (.bool (bE)))]) (fun bE => [blk aF [nV c_.params, nV c_.regs, v1] 49, ow [.slice aK aH.length aJ] aT, blk aI [.slice aE aA.ins.length aB, .slice aC aA.outs.length aD] 93, ow [.slice aE aA.ins.length aB] aA.ins, ow [.slice aC aA.outs.length aD] aA.outs]) (fun bE => ?_) ?_))
     ·refine gR (gM rfl (gM rfl (gB rfl (gM rfl (gsd 43 rfl (fun cU => ?_) fun cU => ?_)))))
      ·refine gF fo_93_0 rfl (gL hm 2 isAgg45 rfl (gg fun aX bq ap => ?_))
       obtain ⟨ah, ai, du, he⟩ := idx_form' (hm.ow_rep 3 rfl) ap
       obtain ⟨rfl, _, rfl⟩ := sl3 he
       obtain ⟨_, _, br, cV⟩ := ro_get' (hm.ow_rep 3 rfl) ap
       have b6 := cV
       obtain ⟨bs, rfl, -⟩ := id b6
       replace b6 : GT.rep (hp _) [bs] aX := b6
       replace br : CellsAt (hp _) ah (ai + (0 : Int).toNat * 1) [bs] := br
       refine gI st_45 bq (idx_lt ap) rfl ?_
       obtain ⟨_, cW, hm⟩ := hm.openE 3 rfl ap
       have cX := hm.ow_rep 0 rfl
       have bF := cX
       obtain ⟨aw, rfl, -⟩ := id bF
       replace bF : GT.rep (hp _) [aw] aX := bF
       clear cW bF
       replace hm : Mem w0 (hp w0) _ [ow [aw] (aX : List Bool), blk aF [nV c_.params, nV c_.regs, v1] 49, ow [.slice aK aH.length aJ] aT, blk aI [sV ah ai aA.ins.length aB, .slice aC aA.outs.length aD] 93, holeE ah ai aA.ins.length aB (aA.ins : List (List Bool)) (0 : Int).toNat [aw], ow [.slice aC aA.outs.length aD] aA.outs] := hm
       replace hm := hm.pk (L' := [ow [aw] aX, blk aF [nV c_.params, nV c_.regs, v1] 49, ow [.slice aK aH.length aJ] aT, blk aI [sV ah ai aA.ins.length aB, .slice aC aA.outs.length aD] 93, holeE ah ai aA.ins.length aB (aA.ins : List (List Bool)) (0 : Int).toNat [aw], ow [.slice aC aA.outs.length aD] aA.outs]) [0, 1, 2, 3, 4, 5] rfl rfl
       refine gY (yl isAgg90 ((hm.holeE_at 4 rfl).cell (j := 0) rfl) rfl) (gM rfl (gg fun cY cZ b7 => ?_))
       obtain ⟨bt, bu, bv, he⟩ := idx_form (hm.ow_rep 0 rfl) b7
       subst he
       refine gI st_90 cZ (idx_lt b7) rfl (gY (yl isAgg4 ((flat_cells (cs := [(.bool (cY))]) (hm.ow_rep 0 rfl) b7 rfl).cell (j := 0) rfl) rfl) (gKt rfl (gM rfl (gs 52 rfl (fun c5 => ?_) fun c5 => ?_))))
       ·refine gF fo_93_0 rfl (gL hm 3 isAgg45 rfl ?_)
        have hL4_1 := hm.holeE_len 4 rfl
        refine gI st_45 bq (idx_lt2 ap hL4_1) rfl (gY (yl isAgg90 ((hm.holeE_at 4 rfl).cell (j := 0) rfl) rfl) (gM rfl (gg fun c6 c7 bx => gI st_90 c7 (idx_lt bx) rfl (gY (yl isAgg4 ((flat_cells (cs := [(.bool (c6))]) (hm.ow_rep 0 rfl) bx rfl).cell (j := 0) rfl) rfl) (gKt rfl (gE ?_))))))
        replace hm := hm.imp (c' := ow [sV bt bu aX.length bv] (aX : List Bool)) 0 rfl (fun F h0 => h0)
        replace hm := (hm.shutE (y := (aX : List Bool)) 4 0 (by decide) rfl rfl).pk (L' := [blk aF [nV c_.params, nV c_.regs, v1] 49, ow [.slice aK aH.length aJ] aT, blk aI [sV ah ai aA.ins.length aB, .slice aC aA.outs.length aD] 93, ow [sV ah ai aA.ins.length aB] (aA.ins.set (0 : Int).toNat aX), ow [.slice aC aA.outs.length aD] aA.outs]) [1, 2, 3, 4, 5] rfl rfl
        rw [set_same ap] at hm
        exact gz hm [0, 1, 2, 3, 4] rfl
       refine gO rfl (gO rfl (gO rfl (gO rfl (gO rfl (gO rfl (gO rfl (gKf rfl (gE ?_))))))))
       replace hm := hm.imp (c' := ow [sV bt bu aX.length bv] (aX : List Bool)) 0 rfl (fun F h0 => h0)
       replace hm := (hm.shutE (y := (aX : List Bool)) 4 0 (by decide) rfl rfl).pk (L' := [blk aF [nV c_.params, nV c_.regs, v1] 49, ow [.slice aK aH.length aJ] aT, blk aI [sV ah ai aA.ins.length aB, .slice aC aA.outs.length aD] 93, ow [sV ah ai aA.ins.length aB] (aA.ins.set (0 : Int).toNat aX), ow [.slice aC aA.outs.length aD] aA.outs]) [1, 2, 3, 4, 5] rfl rfl
       rw [set_same ap] at hm
       exact gz hm [0, 1, 2, 3, 4] rfl
      exact gO rfl (gO rfl (gO rfl (gO rfl (gO rfl (gO rfl (gO rfl (gKf rfl (gM rfl (gO rfl (gO rfl (gO rfl (gO rfl (gO rfl (gO rfl (gO rfl (gKf rfl (gE (gz hm [0, 1, 2, 3, 4] rfl))))))))))))))))))
     repeat clear hm
     intro bE w hm
     refine gJ hm (fun bG => [(1, (pV aF)), (3, (.slice aK aH.length aJ)), (5, (pV aI)), (6, (nV aM)), (7, (nV aN))]) (fun bG => [blk aF [nV c_.params, nV c_.regs, v1] 49, ow [.slice aK aH.length aJ] bG, blk aI [.slice aE aA.ins.length aB, .slice aC aA.outs.length aD] 93, ow [.slice aE aA.ins.length aB] aA.ins, ow [.slice aC aA.outs.length aD] aA.outs]) (fun bG => ?_) ?_
     ·refine gs 60 rfl (fun c8 => ?_) fun c8 => ?_
      ·refine gct rfl (gS (gR (gM rfl (gM rfl (gg fun aY c9 ax => ?_)))))
       obtain ⟨al, am, dv, he⟩ := idx_form' (hm.ow_rep 1 rfl) ax
       obtain ⟨rfl, _, rfl⟩ := sl3 he
       obtain ⟨_, _, bz, ca⟩ := ro_get' (hm.ow_rep 1 rfl) ax
       have b8 := ca
       obtain ⟨cA, rfl, -⟩ := id b8
       replace b8 : GT.rep (hp _) [cA] aY := b8
       replace bz : CellsAt (hp _) al (am + (aM).toNat * 1) [cA] := bz
       have hL4_2 := rep_slice_len (hm.ow_rep 1 rfl)
       refine gI st_45 c9 (idx_lt2 ax hL4_2) rfl ?_
       obtain ⟨_, cb, hm⟩ := hm.openE 1 rfl ax
       have cd := hm.ow_rep 0 rfl
       have bH := cd
       obtain ⟨ay, rfl, -⟩ := id bH
       replace bH : GT.rep (hp _) [ay] aY := bH
       clear cb bH
       replace hm : Mem w0 (hp w0) _ [ow [ay] (aY : List Bool), blk aF [nV c_.params, nV c_.regs, v1] 49, holeE al am aH.length aJ (aT : List (List Bool)) (aM).toNat [ay], blk aI [.slice aE aA.ins.length aB, .slice aC aA.outs.length aD] 93, ow [.slice aE aA.ins.length aB] aA.ins, ow [.slice aC aA.outs.length aD] aA.outs] := hm
       replace hm := hm.pk (L' := [ow [ay] aY, blk aF [nV c_.params, nV c_.regs, v1] 49, holeE al am aH.length aJ (aT : List (List Bool)) (aM).toNat [ay], blk aI [.slice aE aA.ins.length aB, .slice aC aA.outs.length aD] 93, ow [.slice aE aA.ins.length aB] aA.ins, ow [.slice aC aA.outs.length aD] aA.outs]) [0, 1, 2, 3, 4, 5] rfl rfl
       refine gY (yl isAgg90 ((hm.holeE_at 2 rfl).cell (j := 0) rfl) rfl) (gM rfl (gg fun dw ce bJ => ?_))
       obtain ⟨cf, cg, ci, he⟩ := idx_form (hm.ow_rep 0 rfl) bJ
       subst he
       refine gI st_90 ce (idx_lt bJ) rfl (gf0 rfl (fun a hf => e_setElem (x1 := true) (j := 0) (vs := [(.bool (true))]) 0 hf hm rfl bJ rfl sizeOf4 rfl rfl rfl (one_cons rfl one_nil) rfl rfl) ?_)
       rintro _ w hm
       have dx := List.getElem?_set_self (a := true) (idx_lt bJ)
       refine gE ?_
       replace hm := hm.imp (c' := ow [sV cf cg aY.length ci] ((aY.set (aN).toNat true) : List Bool)) 0 rfl (fun F h0 => h0)
       replace hm := (hm.shutE (y := ((aY.set (aN).toNat true) : List Bool)) 2 0 (by decide) rfl rfl).pk (L' := [blk aF [nV c_.params, nV c_.regs, v1] 49, ow [sV al am aH.length aJ] (aT.set (aM).toNat (aY.set (aN).toNat true)), blk aI [.slice aE aA.ins.length aB, .slice aC aA.outs.length aD] 93, ow [.slice aE aA.ins.length aB] aA.ins, ow [.slice aC aA.outs.length aD] aA.outs]) [1, 2, 3, 4, 5] rfl rfl
       have dy := List.getElem?_set_self (a := ((aY.set (aN).toNat true) : List Bool)) (idx_lt ax)
       refine gR (gM rfl (gM rfl (gg fun aj cj bK => ?_)))
       obtain ⟨_, _, cB, ck⟩ := ro_get' (hm.ow_rep 1 rfl) bK
       have b9 := ck
       obtain ⟨cC, rfl, -⟩ := id b9
       replace b9 : GT.rep (hp _) [cC] aj := b9
       replace cB : CellsAt (hp _) al (am + (aN).toNat * 1) [cC] := cB
       have hL4_3 := rep_slice_len (hm.ow_rep 1 rfl)
       refine gI st_45 cj (idx_lt2 bK hL4_3) rfl ?_
       obtain ⟨_, cl, hm⟩ := hm.openE 1 rfl bK
       have cm := hm.ow_rep 0 rfl
       have bL := cm
       obtain ⟨az, rfl, -⟩ := id bL
       replace bL : GT.rep (hp _) [az] aj := bL
       clear cl bL
       replace hm : Mem w0 (hp w0) _ [ow [az] (aj : List Bool), blk aF [nV c_.params, nV c_.regs, v1] 49, holeE al am aH.length aJ ((aT.set (aM).toNat (aY.set (aN).toNat true)) : List (List Bool)) (aN).toNat [az], blk aI [.slice aE aA.ins.length aB, .slice aC aA.outs.length aD] 93, ow [.slice aE aA.ins.length aB] aA.ins, ow [.slice aC aA.outs.length aD] aA.outs] := hm
       replace hm := hm.pk (L' := [ow [az] aj, blk aF [nV c_.params, nV c_.regs, v1] 49, holeE al am aH.length aJ ((aT.set (aM).toNat (aY.set (aN).toNat true)) : List (List Bool)) (aN).toNat [az], blk aI [.slice aE aA.ins.length aB, .slice aC aA.outs.length aD] 93, ow [.slice aE aA.ins.length aB] aA.ins, ow [.slice aC aA.outs.length aD] aA.outs]) [0, 1, 2, 3, 4, 5] rfl rfl
       refine gY (yl isAgg90 ((hm.holeE_at 2 rfl).cell (j := 0) rfl) rfl) (gM rfl (gg fun dz cn bM => ?_))
       obtain ⟨co, cq, cr, he⟩ := idx_form (hm.ow_rep 0 rfl) bM
       subst he
       refine gI st_90 cn (idx_lt bM) rfl (gf0 rfl (fun a hf => e_setElem (x1 := true) (j := 0) (vs := [(.bool (true))]) 0 hf hm rfl bM rfl sizeOf4 rfl rfl rfl (one_cons rfl one_nil) rfl rfl) ?_)
       rintro _ w hm
       have eA := List.getElem?_set_self (a := true) (idx_lt bM)
       refine gE ?_
       replace hm := hm.imp (c' := ow [sV co cq aj.length cr] ((aj.set (aM).toNat true) : List Bool)) 0 rfl (fun F h0 => h0)
       replace hm := (hm.shutE (y := ((aj.set (aM).toNat true) : List Bool)) 2 0 (by decide) rfl rfl).pk (L' := [blk aF [nV c_.params, nV c_.regs, v1] 49, ow [sV al am aH.length aJ] ((aT.set (aM).toNat (aY.set (aN).toNat true)).set (aN).toNat (aj.set (aM).toNat true)), blk aI [.slice aE aA.ins.length aB, .slice aC aA.outs.length aD] 93, ow [.slice aE aA.ins.length aB] aA.ins, ow [.slice aC aA.outs.length aD] aA.outs]) [1, 2, 3, 4, 5] rfl rfl
       have eB := List.getElem?_set_self (a := ((aj.set (aM).toNat true) : List Bool)) (idx_lt bK)
       exact gz hm [0, 1, 2, 3, 4] rfl
      exact gcf rfl (gSk (gz hm [0, 1, 2, 3, 4] rfl))
     repeat clear hm
     intro bG w hm
     exact gz hm [0, 1, 2, 3, 4] rfl
    repeat clear hm
    intro bD w hm
    exact gR (gM rfl (gP (by omega) (by omega) rfl (gA rfl (gE (gze hm [0, 1, 2, 3, 4] rfl)))))
   repeat clear hm
   intro eC eD w hm eE eF
   exact gS (gS (gR (gM rfl (gF fo_49_1 rfl (gL hm 0 isAgg3 rfl (gB rfl (gE (go _ 37 rfl (decide_eq_false (by omega)) (gcf rfl (gXt (gHh (gR (gM rfl (gP (by omega) (by omega) rfl (gA rfl (gE (gze hm [0, 1, 2, 3, 4] rfl)))))))))))))))))
  repeat clear hm
  intro eG eH w hm eI eJ
  refine gS (gS (gR (gM rfl (gF fo_49_0 rfl (gL hm 0 isAgg3 rfl (gB rfl (gE (go _ 31 rfl (decide_eq_false (by omega)) (gcf rfl (gXt (gHh (gS (gS (gR (gA rfl (gE (gBk (gNf hm (fun ab ba => [(1, (pV aF)), (3, (.slice aK aH.length aJ)), (5, (pV aI)), (8, (nV ab))]) (fun ab ba => [blk aF [nV c_.params, nV c_.regs, v1] 49, ow [.slice aK aH.length aJ] ba, blk aI [.slice aE aA.ins.length aB, .slice aC aA.outs.length aD] 93, ow [.slice aE aA.ins.length aB] aA.ins, ow [.slice aC aA.outs.length aD] aA.outs]) [0, 1, 2, 3, 4] rfl ?_ ?_))))))))))))))))))
  ·repeat clear hm
   intro _ _ ab ba w hm eK eL eM _
   refine gS (gS (gR (gM rfl (gF fo_49_2 rfl (gL hm 0 isAgg47 rfl ?_)))))
   obtain ⟨cD, aP, rfl, eN⟩ := ro_slice h1
   refine gY (yV st_47 rfl) (gB rfl (gE (go _ 77 rfl (decide_eq_true (by omega)) (gct rfl (gSk (gS (gBk (gS (gR (gA rfl (gE (gJ hm (fun bN => [(1, (pV aF)), (3, (.slice aK aH.length aJ)), (5, (pV aI)), (8, (nV ab))]) (fun bN => [blk aF [nV c_.params, nV c_.regs, .slice cD c_.blocks.length aP] 49, ow [.slice aK aH.length aJ] bN, blk aI [.slice aE aA.ins.length aB, .slice aC aA.outs.length aD] 93, ow [.slice aE aA.ins.length aB] aA.ins, ow [.slice aC aA.outs.length aD] aA.outs]) (fun bN => ?_) ?_))))))))))))
   ·refine gBk (gMf hm (fun ae => [(1, (pV aF)), (3, (.slice aK aH.length aJ)), (5, (pV aI)), (8, (nV ab)), (9, (nV ae.2))]) (fun ae => [blk aF [nV c_.params, nV c_.regs, .slice cD c_.blocks.length aP] 49, ow [.slice aK aH.length aJ] ae.1, blk aI [.slice aE aA.ins.length aB, .slice aC aA.outs.length aD] 93, ow [.slice aE aA.ins.length aB] aA.ins, ow [.slice aC aA.outs.length aD] aA.outs]) [0, 1, 2, 3, 4] rfl ?_)
    repeat clear hm
    intro eO ct ae w hm eP cu
    refine gS (gS (gR (gM rfl (gF fo_49_2 rfl (gL hm 0 isAgg47 rfl (gM rfl (gg fun eQ cE bO => ?_)))))))
    obtain ⟨aV, aW, eR, he⟩ := idx_form' h1 bO
    obtain ⟨rfl, _, rfl⟩ := sl3 he
    obtain ⟨eS, eT, eU, cF, eV, bc, eW⟩ := rk_Block_ h1 bO
    refine gI st_47 cE (idx_lt bO) rfl (gF fo_63_1 rfl (gY (yl isAgg61 ((cF.mono hm.lez).cell (j := 1) rfl) rfl) ?_))
    obtain ⟨eX, eY, rfl, eZ⟩ := ro_slice bc
    refine gY (yV st_61 rfl) (gB rfl (gE (gsd 88 rfl (fun cv => ?_) fun cv => ?_)))
    ·refine gct rfl (gSk (gS (gJ hm (fun bP => [(1, (pV aF)), (3, (.slice aK aH.length aJ)), (5, (pV aI)), (8, (nV ab)), (9, (nV ae.2))]) (fun bP => [blk aF [nV c_.params, nV c_.regs, sV aV aW c_.blocks.length aP] 49, ow [.slice aK aH.length aJ] bP, blk aI [.slice aE aA.ins.length aB, .slice aC aA.outs.length aD] 93, ow [.slice aE aA.ins.length aB] aA.ins, ow [.slice aC aA.outs.length aD] aA.outs]) (fun bP => ?_) ?_)))
     ·refine gBk (gS (gR (gF fo_49_2 rfl (gL hm 0 isAgg47 rfl (gM rfl (gI st_47 cE (idx_lt bO) rfl (gF fo_63_1 rfl (gY (yl isAgg61 ((cF.mono hm.lez).cell (j := 1) rfl) rfl) (gM rfl (gg fun aG cw bd => ?_))))))))))
      obtain ⟨ea, eb, ec, he⟩ := idx_form' bc bd
      obtain ⟨rfl, _, rfl⟩ := sl3 he
      obtain ⟨ac, cx, be⟩ := rk_Ins_ bc bd
      refine gI st_61 cw (idx_lt bd) rfl (gY (yn (cx.mono hm.lez) isAgg65 sizeOf65 rfl) (gAl hm zeroValue65 rfl fun aQ w hm => gSN hm 0 sizeOf65 (one_cons rfl (one_cons rfl (one_cons (rep_one be) (one_cons rfl one_nil)))) rfl fun w hm => gE (gS (gS (gR (gF fo_65_0 rfl (gL hm 0 isAgg3 rfl (gC hm rfl call89 (spec_l7Makes_ok _ aG.op) fun ed ee w hm => gN rfl (gE (gsn 103 rfl (fun cy => ?_) fun cy => ?_))))))))))
      ·exact gct rfl (gXt (gHh (gz hm [1, 2, 3, 4, 5] rfl)))
      refine gcf rfl (gSk (gS (gR (gY (yn (hm.blk_at 1 rfl) isAgg49 sizeOf49 rfl) (gY (yn (hm.blk_at 3 rfl) isAgg93 sizeOf93 rfl) (gM rfl (gM rfl (gCg rfl call90 (spec_l12Behind_ok _ c_ (sV aV aW c_.blocks.length aP) (hm.now h1) aA (.slice aE aA.ins.length aB) (hm.ow_rep 4 rfl) (.slice aC aA.outs.length aD) (hm.ow_rep 5 rfl) ab ae.2) ?_))))))))
      rintro aL ef eg w ⟨_, rfl, hB⟩
      replace hm := hm.give hB; clear hB
      refine gA rfl (gE (gS (gR (gA rfl (gE ?_)))))
      obtain ⟨aR, aS, rfl, eh⟩ := ro_slice (hm.ow_rep 0 rfl)
      refine gBk (gb fun _ cG => ?_)
      replace cG := fitI_some.1 cG
      refine gNf hm (fun aO af => [(1, (pV aF)), (3, (.slice aK aH.length aJ)), (5, (pV aI)), (8, (nV ab)), (9, (nV ae.2)), (10, (pV aQ)), (11, (.slice aR aL.length aS)), (12, (nV aO))]) (fun aO af => [blk aF [nV c_.params, nV c_.regs, sV aV aW c_.blocks.length aP] 49, ow [.slice aK aH.length aJ] af, blk aI [.slice aE aA.ins.length aB, .slice aC aA.outs.length aD] 93, ow [.slice aE aA.ins.length aB] aA.ins, ow [.slice aC aA.outs.length aD] aA.outs, blk aQ [nV aG.op, nV aG.to, ac, nV aG.n_] 65, ow [.slice aR aL.length aS] aL]) [2, 3, 4, 5, 6, 1, 0] rfl ?_ ?_
      ·repeat clear hm
       intro _ _ aO af w hm ei ek el _
       refine gS (gS (gR (gM rfl (gF fo_49_1 rfl (gL hm 0 isAgg3 rfl (gB rfl (gE (go _ 112 rfl (decide_eq_true (by omega)) (gct rfl (gSk (gS (gJ hm (fun bQ => [(1, (pV aF)), (3, (.slice aK aH.length aJ)), (5, (pV aI)), (8, (nV ab)), (9, (nV ae.2)), (10, (pV aQ)), (11, (.slice aR aL.length aS)), (12, (nV aO))]) (fun bQ => [blk aF [nV c_.params, nV c_.regs, sV aV aW c_.blocks.length aP] 49, ow [.slice aK aH.length aJ] bQ, blk aI [.slice aE aA.ins.length aB, .slice aC aA.outs.length aD] 93, ow [.slice aE aA.ins.length aB] aA.ins, ow [.slice aC aA.outs.length aD] aA.outs, blk aQ [nV aG.op, nV aG.to, ac, nV aG.n_] 65, ow [.slice aR aL.length aS] aL]) (fun bQ => ?_) ?_))))))))))))
       ·refine gBk (gS (gJ hm (fun bR => [(1, (pV aF)), (3, (.slice aK aH.length aJ)), (5, (pV aI)), (8, (nV ab)), (9, (nV ae.2)), (10, (pV aQ)), (11, (.slice aR aL.length aS)), (12, (nV aO)), (138, (.bool (bR)))]) (fun bR => [blk aF [nV c_.params, nV c_.regs, sV aV aW c_.blocks.length aP] 49, ow [.slice aK aH.length aJ] af, blk aI [.slice aE aA.ins.length aB, .slice aC aA.outs.length aD] 93, ow [.slice aE aA.ins.length aB] aA.ins, ow [.slice aC aA.outs.length aD] aA.outs, blk aQ [nV aG.op, nV aG.to, ac, nV aG.n_] 65, ow [.slice aR aL.length aS] aL]) (fun bR => ?_) ?_))
        ·refine gR (gM rfl (gM rfl (gg fun cz dA bf => ?_)))
         obtain ⟨em, en, eo, he⟩ := idx_form (hm.ow_rep 6 rfl) bf
         obtain ⟨rfl, _, rfl⟩ := sl3 he
         refine gI st_90 dA (idx_lt bf) rfl (gY (yl isAgg4 ((flat_cells (cs := [(.bool (cz))]) (hm.ow_rep 6 rfl) bf rfl).cell (j := 0) rfl) rfl) (gM rfl (gs 119 rfl (fun dB => ?_) fun dB => ?_)))
         ·refine gM rfl (gF fo_65_1 rfl (gL hm 5 isAgg3 rfl (gB rfl (gKt rfl (gM rfl (gsd 125 rfl (fun dC => ?_) fun dC => ?_))))))
          ·refine gF fo_65_0 rfl (gL hm 5 isAgg3 rfl (gB rfl (gM rfl (gsd 129 rfl (fun dD => ?_) fun dD => ?_))))
           ·refine gF fo_65_2 rfl (gL hm 5 isAgg43 rfl (gg fun dE dF bg => ?_))
            obtain ⟨ep, et, eu, he⟩ := idx_form be bg
            subst he
            exact gI st_43 dF (idx_lt bg) rfl (gY (yl isAgg3 ((flat_cells (cs := [nV dE]) (hm.now be) bg rfl).cell (j := 0) rfl) rfl) (gM rfl (gB rfl (gKt rfl (gN rfl (gKt rfl (gE (gz hm [0, 1, 2, 3, 4, 5, 6] rfl))))))))
           exact gO rfl (gO rfl (gO rfl (gO rfl (gO rfl (gO rfl (gKf rfl (gN rfl (gKt rfl (gE (gz hm [0, 1, 2, 3, 4, 5, 6] rfl))))))))))
          exact gO rfl (gO rfl (gO rfl (gO rfl (gO rfl (gO rfl (gO rfl (gO rfl (gO rfl (gO rfl (gO rfl (gO rfl (gKf rfl (gE (gz hm [0, 1, 2, 3, 4, 5, 6] rfl))))))))))))))
         exact gO rfl (gO rfl (gO rfl (gO rfl (gKf rfl (gM rfl (gO rfl (gO rfl (gO rfl (gO rfl (gO rfl (gO rfl (gO rfl (gO rfl (gO rfl (gO rfl (gO rfl (gO rfl (gKf rfl (gE (gz hm [0, 1, 2, 3, 4, 5, 6] rfl))))))))))))))))))))
        repeat clear hm
        intro bR w hm
        refine gJ hm (fun bS => [(1, (pV aF)), (3, (.slice aK aH.length aJ)), (5, (pV aI)), (8, (nV ab)), (9, (nV ae.2)), (10, (pV aQ)), (11, (.slice aR aL.length aS)), (12, (nV aO))]) (fun bS => [blk aF [nV c_.params, nV c_.regs, sV aV aW c_.blocks.length aP] 49, ow [.slice aK aH.length aJ] bS, blk aI [.slice aE aA.ins.length aB, .slice aC aA.outs.length aD] 93, ow [.slice aE aA.ins.length aB] aA.ins, ow [.slice aC aA.outs.length aD] aA.outs, blk aQ [nV aG.op, nV aG.to, ac, nV aG.n_] 65, ow [.slice aR aL.length aS] aL]) (fun bS => ?_) ?_
        ·refine gs 138 rfl (fun dG => ?_) fun dG => ?_
         ·refine gct rfl (gS (gW (.p 0 (.p 1 (.p 2 (.p 4 (.q 5 (.e 3 (.p 6 (.e 7 .fin .nil)) .nil)))))) [3] [0, 1, 2, 4, 6] hm [0, 2, 3, 4, 5, 6] [blk aF [nV c_.params, nV c_.regs, sV aV aW c_.blocks.length aP] 49, blk aI [.slice aE aA.ins.length aB, .slice aC aA.outs.length aD] 93, ow [.slice aE aA.ins.length aB] aA.ins, ow [.slice aC aA.outs.length aD] aA.outs, blk aQ [nV aG.op, nV aG.to, ac, nV aG.n_] 65, ow [.slice aR aL.length aS] aL] rfl mxo (by kernel_rfl) (fun _ _ _ h => h.2) fun w hm hS => tP rfl (fun w => yM rfl) (tP rfl (fun w => yM rfl) (gg fun aZ dH bA => ?_))))
          obtain ⟨an, ao, ew, he⟩ := idx_form' (hm.ow_rep 1 rfl) bA
          obtain ⟨rfl, _, rfl⟩ := sl3 he
          obtain ⟨_, _, cH, dI⟩ := ro_get' (hm.ow_rep 1 rfl) bA
          have bh := dI
          obtain ⟨cI, rfl, -⟩ := id bh
          replace bh : GT.rep (hp _) [cI] aZ := bh
          replace cH : CellsAt (hp _) an (ao + (aO).toNat * 1) [cI] := cH
          have hL7_1 := rep_slice_len (hm.ow_rep 1 rfl)
          refine tP rfl (fun w => yI st_45 dH (idx_lt2 bA hL7_1) rfl) (tP rfl (fun w => yF fo_65_1 rfl) (tQ rfl hS (fun w hm => yL hm 4 isAgg3 rfl) (tO ?_)))
          obtain ⟨_, dJ, hm⟩ := hm.openE 1 rfl bA
          have dK := hm.ow_rep 0 rfl
          have bT := dK
          obtain ⟨bB, rfl, -⟩ := id bT
          replace bT : GT.rep (hp _) [bB] aZ := bT
          clear dJ bT
          replace hm : Mem w0 (hp w0) _ [ow [bB] (aZ : List Bool), blk aF [nV c_.params, nV c_.regs, sV aV aW c_.blocks.length aP] 49, holeE an ao aH.length aJ (af : List (List Bool)) (aO).toNat [bB], blk aI [.slice aE aA.ins.length aB, .slice aC aA.outs.length aD] 93, ow [.slice aE aA.ins.length aB] aA.ins, ow [.slice aC aA.outs.length aD] aA.outs, blk aQ [nV aG.op, nV aG.to, ac, nV aG.n_] 65, ow [.slice aR aL.length aS] aL] := hm
          replace hm := hm.pk (L' := [ow [bB] aZ, blk aF [nV c_.params, nV c_.regs, sV aV aW c_.blocks.length aP] 49, holeE an ao aH.length aJ (af : List (List Bool)) (aO).toNat [bB], blk aI [.slice aE aA.ins.length aB, .slice aC aA.outs.length aD] 93, ow [.slice aE aA.ins.length aB] aA.ins, ow [.slice aC aA.outs.length aD] aA.outs, blk aQ [nV aG.op, nV aG.to, ac, nV aG.n_] 65, ow [.slice aR aL.length aS] aL]) [0, 1, 2, 3, 4, 5, 6, 7] rfl rfl
          refine tY rfl (yl isAgg90 ((hm.holeE_at 2 rfl).cell (j := 0) rfl) rfl) (tAk hm [1, 3, 4, 5, 6, 7] rfl fun hS => gg fun ey dL bU => ?_)
          obtain ⟨dM, dN, dO, he⟩ := idx_form (hm.ow_rep 0 rfl) bU
          subst he
          refine tP rfl (fun w => yI st_90 dL (idx_lt bU) rfl) (tO (tf0 rfl rfl (fun a hf => e_setElem (x1 := true) (j := 0) (vs := [(.bool (true))]) 0 hf hm rfl bU rfl sizeOf4 rfl rfl rfl (one_cons rfl one_nil) rfl rfl) ?_))
          rintro _ w hm
          have ez := List.getElem?_set_self (a := true) (idx_lt bU)
          refine tAn rfl (tE ?_)
          replace hm := hm.imp (c' := ow [sV dM dN aZ.length dO] ((aZ.set (aG.to).toNat true) : List Bool)) 0 rfl (fun F h0 => h0)
          replace hm := (hm.shutE (y := ((aZ.set (aG.to).toNat true) : List Bool)) 2 0 (by decide) rfl rfl).pk (L' := [blk aF [nV c_.params, nV c_.regs, sV aV aW c_.blocks.length aP] 49, ow [sV an ao aH.length aJ] (af.set (aO).toNat (aZ.set (aG.to).toNat true)), blk aI [.slice aE aA.ins.length aB, .slice aC aA.outs.length aD] 93, ow [.slice aE aA.ins.length aB] aA.ins, ow [.slice aC aA.outs.length aD] aA.outs, blk aQ [nV aG.op, nV aG.to, ac, nV aG.n_] 65, ow [.slice aR aL.length aS] aL]) [1, 2, 3, 4, 5, 6, 7] rfl rfl
          have fA := List.getElem?_set_self (a := ((aZ.set (aG.to).toNat true) : List Bool)) (idx_lt bA)
          refine gR (gM rfl (gF fo_65_1 rfl (gL hm 5 isAgg3 rfl (gg fun ak dP bV => ?_))))
          obtain ⟨_, _, cJ, dQ⟩ := ro_get' (hm.ow_rep 1 rfl) bV
          have bi := dQ
          obtain ⟨cK, rfl, -⟩ := id bi
          replace bi : GT.rep (hp _) [cK] ak := bi
          replace cJ : CellsAt (hp _) an (ao + (aG.to).toNat * 1) [cK] := cJ
          have hL7_2 := rep_slice_len (hm.ow_rep 1 rfl)
          refine gI st_45 dP (idx_lt2 bV hL7_2) rfl ?_
          obtain ⟨_, dR, hm⟩ := hm.openE 1 rfl bV
          have dS := hm.ow_rep 0 rfl
          have bW := dS
          obtain ⟨bC, rfl, -⟩ := id bW
          replace bW : GT.rep (hp _) [bC] ak := bW
          clear dR bW
          replace hm : Mem w0 (hp w0) _ [ow [bC] (ak : List Bool), blk aF [nV c_.params, nV c_.regs, sV aV aW c_.blocks.length aP] 49, holeE an ao aH.length aJ ((af.set (aO).toNat (aZ.set (aG.to).toNat true)) : List (List Bool)) (aG.to).toNat [bC], blk aI [.slice aE aA.ins.length aB, .slice aC aA.outs.length aD] 93, ow [.slice aE aA.ins.length aB] aA.ins, ow [.slice aC aA.outs.length aD] aA.outs, blk aQ [nV aG.op, nV aG.to, ac, nV aG.n_] 65, ow [.slice aR aL.length aS] aL] := hm
          replace hm := hm.pk (L' := [ow [bC] ak, blk aF [nV c_.params, nV c_.regs, sV aV aW c_.blocks.length aP] 49, holeE an ao aH.length aJ ((af.set (aO).toNat (aZ.set (aG.to).toNat true)) : List (List Bool)) (aG.to).toNat [bC], blk aI [.slice aE aA.ins.length aB, .slice aC aA.outs.length aD] 93, ow [.slice aE aA.ins.length aB] aA.ins, ow [.slice aC aA.outs.length aD] aA.outs, blk aQ [nV aG.op, nV aG.to, ac, nV aG.n_] 65, ow [.slice aR aL.length aS] aL]) [0, 1, 2, 3, 4, 5, 6, 7] rfl rfl
          refine gY (yl isAgg90 ((hm.holeE_at 2 rfl).cell (j := 0) rfl) rfl) (gM rfl (gg fun fB dT bX => ?_))
          obtain ⟨dU, dV, dW, he⟩ := idx_form (hm.ow_rep 0 rfl) bX
          subst he
          refine gI st_90 dT (idx_lt bX) rfl (gf0 rfl (fun a hf => e_setElem (x1 := true) (j := 0) (vs := [(.bool (true))]) 0 hf hm rfl bX rfl sizeOf4 rfl rfl rfl (one_cons rfl one_nil) rfl rfl) ?_)
          rintro _ w hm
          have fC := List.getElem?_set_self (a := true) (idx_lt bX)
          refine gE ?_
          replace hm := hm.imp (c' := ow [sV dU dV ak.length dW] ((ak.set (aO).toNat true) : List Bool)) 0 rfl (fun F h0 => h0)
          replace hm := (hm.shutE (y := ((ak.set (aO).toNat true) : List Bool)) 2 0 (by decide) rfl rfl).pk (L' := [blk aF [nV c_.params, nV c_.regs, sV aV aW c_.blocks.length aP] 49, ow [sV an ao aH.length aJ] ((af.set (aO).toNat (aZ.set (aG.to).toNat true)).set (aG.to).toNat (ak.set (aO).toNat true)), blk aI [.slice aE aA.ins.length aB, .slice aC aA.outs.length aD] 93, ow [.slice aE aA.ins.length aB] aA.ins, ow [.slice aC aA.outs.length aD] aA.outs, blk aQ [nV aG.op, nV aG.to, ac, nV aG.n_] 65, ow [.slice aR aL.length aS] aL]) [1, 2, 3, 4, 5, 6, 7] rfl rfl
          have fD := List.getElem?_set_self (a := ((ak.set (aO).toNat true) : List Bool)) (idx_lt bV)
          exact gz hm [0, 1, 2, 3, 4, 5, 6] rfl
         exact gcf rfl (gSk (gz hm [0, 1, 2, 3, 4, 5, 6] rfl))
        repeat clear hm
        intro bS w hm
        exact gz hm [0, 1, 2, 3, 4, 5, 6] rfl
       repeat clear hm
       intro bQ w hm
       exact gR (gM rfl (gP (by omega) (by omega) rfl (gA rfl (gE (gze hm [0, 1, 2, 3, 4, 5, 6] rfl)))))
      repeat clear hm
      intro fE fF w hm fG fH
      exact gS (gS (gR (gM rfl (gF fo_49_1 rfl (gL hm 0 isAgg3 rfl (gB rfl (gE (go _ 112 rfl (decide_eq_false (by omega)) (gcf rfl (gXt (gHh (gz hm [0, 1, 2, 3, 4] rfl))))))))))))
     repeat clear hm
     intro bP w hm
     exact gR (gM rfl (gB rfl (gA rfl (gE (gze hm [0, 1, 2, 3, 4] rfl)))))
    exact gcf rfl (gXt (gHh (gLp cu ct (gz hm [0, 1, 2, 3, 4] rfl))))
   repeat clear hm
   intro bN w hm
   exact gR (gM rfl (gP (by omega) (by omega) rfl (gA rfl (gE (gze hm [0, 1, 2, 3, 4] rfl)))))
  repeat clear hm
  intro fI fJ w hm fK fL
  refine gS (gS (gR (gM rfl (gF fo_49_2 rfl (gL hm 0 isAgg47 rfl ?_)))))
  obtain ⟨fM, fN, rfl, fO⟩ := ro_slice h1
  exact gY (yV st_47 rfl) (gB rfl (gE (go _ 77 rfl (decide_eq_false (by omega)) (gcf rfl (gXt (gHh (gS (gR (gM rfl (gA rfl (gE (gRt (gr1 results43 rfl ⟨.slice aK aH.length aJ, rfl, hm.pk [1] rfl rfl⟩)))))))))))))
theorem spec_l5Truth_ok (w0 : World) (is : Bool) :
    ConM Tryz.prog 78 [(.bool (is))] w0 (spec_l5Truth is) fun r v w' => v = (nV r) ∧ Below w0.heap.size w0 w' := by
  unfold spec_l5Truth
  refine gcon func78 rfl fun r => ?_
  have hm := Mem.start w0
  refine gS (gR (gA rfl (gE (gS (gS (gR (gM rfl (gE (gs 3 rfl (fun aA => ?_) fun aA => ?_)))))))))
  ·exact gct rfl (gS (gR (gA rfl (gE (gRt (gr1 results78 rfl ⟨rfl, hm.below⟩))))))
  exact gcf rfl (gSk (gS (gR (gA rfl (gE (gRt (gr1 results78 rfl ⟨rfl, hm.below⟩)))))))
theorem spec_l21Next_ok (w0 : World) (t : List (List Bool)) (v1 : Value) (h1 : GT.rep (hp w0) [v1] t) (left : List Bool) (v2 : Value) (h2 : GT.rep (hp w0) [v2] left) :
    ConM Tryz.prog 87 [v1, v2] w0 (spec_l21Next t left) fun r v w' => v = (nV r) ∧ Below w0.heap.size w0 w' := by
  unfold spec_l21Next
  refine gcon func87 rfl fun r => ?_
  have hm := Mem.start w0
  refine gS (gR (gA rfl (gE (gS (gR (gA rfl (gE (gS (gR (gA rfl (gE (gS (gS (gR (gA rfl (gE (gBk (gNf hm (fun aB aA => [(0, v1), (1, v2), (5, (nV aA.1)), (6, (nV aA.2)), (7, (nV aB))]) (fun aB aA => []) [] rfl ?_ ?_))))))))))))))))))
  ·repeat clear hm
   intro _ _ aB aA w hm an ao ap _
   refine gS (gS (gR (gM rfl (gM rfl ?_))))
   obtain ⟨aC, aD, rfl, aq⟩ := ro_slice h1
   refine gY (yV st_45 rfl) (gB rfl (gE (go _ 13 rfl (decide_eq_true (by omega)) (gct rfl (gSk (gS (gJ hm (fun aE => [(0, (.slice aC t.length aD)), (1, v2), (5, (nV aE.1)), (6, (nV aE.2)), (7, (nV aB))]) (fun aE => []) (fun aE => ?_) ?_)))))))
   ·refine gBk (gS (gS (gR (gM rfl (gM rfl (gg fun aW aX aN => ?_))))))
    obtain ⟨aH, aI, aJ, he⟩ := idx_form h2 aN
    subst he
    refine gI st_90 aX (idx_lt aN) rfl (gY (yl isAgg4 ((flat_cells (cs := [(.bool (aW))]) (hm.now h2) aN rfl).cell (j := 0) rfl) rfl) (gN rfl (gE (gsn 20 rfl (fun aY => ?_) fun aY => ?_))))
    ·exact gct rfl (gXt (gHh (gz hm [] rfl)))
    refine gcf rfl (gSk (gS (gR (gA rfl (gE (gS (gS (gR (gA rfl (gE (gBk (gNf hm (fun aK aO => [(0, (.slice aC t.length aD)), (1, (sV aH aI left.length aJ)), (5, (nV aA.1)), (6, (nV aA.2)), (7, (nV aB)), (8, (nV aO)), (9, (nV aK))]) (fun aK aO => []) [] rfl ?_ ?_))))))))))))
    ·repeat clear hm
     intro _ _ aK aO w hm ar au av _
     refine gS (gS (gR (gM rfl (gM rfl (gY (yV st_45 rfl) (gB rfl (gE (go _ 24 rfl (decide_eq_true (by omega)) (gct rfl (gSk (gS (gBk (gJ hm (fun aL => [(0, (.slice aC t.length aD)), (1, (sV aH aI left.length aJ)), (5, (nV aA.1)), (6, (nV aA.2)), (7, (nV aB)), (8, (nV aL)), (9, (nV aK))]) (fun aL => []) (fun aL => ?_) ?_)))))))))))))
     ·refine gR (gM rfl (gM rfl (gM rfl (gg fun aZ aa aS => gI st_90 aa (idx_lt aS) rfl (gY (yl isAgg4 ((flat_cells (cs := [(.bool (aZ))]) (hm.now h2) aS rfl).cell (j := 0) rfl) rfl) (gM rfl (gs 32 rfl (fun ab => ?_) fun ab => ?_)))))))
      ·refine gM rfl (gM rfl (gg fun ac ae aP => ?_))
       obtain ⟨af, ah, aw, he⟩ := idx_form' h1 aP
       obtain ⟨rfl, _, rfl⟩ := sl3 he
       obtain ⟨_, _, aQ, ai⟩ := ro_get' h1 aP
       have aF := ai
       obtain ⟨aT, rfl, -⟩ := id aF
       replace aF : GT.rep (hp w0) [aT] ac := aF
       replace aQ : CellsAt (hp w0) af (ah + (aB).toNat * 1) [aT] := aQ
       refine gI st_45 ae (idx_lt aP) rfl (gY (yl isAgg90 ((aQ.mono hm.lez).cell (j := 0) rfl) rfl) (gM rfl (gg fun aV aj aR => ?_)))
       obtain ⟨ax, ay, az, he⟩ := idx_form aF aR
       subst he
       exact gI st_90 aj (idx_lt aR) rfl (gY (yl isAgg4 ((flat_cells (cs := [(.bool (aV))]) (hm.now aF) aR rfl).cell (j := 0) rfl) rfl) (gKt rfl (gC hm rfl call78 (spec_l5Truth_ok _ aV) fun bA bB w hm => gB rfl (gA rfl (gE (gz hm [] rfl))))))
      exact gO rfl (gO rfl (gO rfl (gO rfl (gO rfl (gO rfl (gO rfl (gKf rfl (gC hm rfl call78 (spec_l5Truth_ok _ false) fun bC bD w hm => gB rfl (gA rfl (gE (gz hm [] rfl)))))))))))
     repeat clear hm
     intro aL w hm
     exact gR (gM rfl (gP (by omega) (by omega) rfl (gA rfl (gE (gze hm [] rfl)))))
    repeat clear hm
    intro bE ak w hm bF bG
    refine gS (gS (gR (gM rfl (gM rfl (gY (yV st_45 rfl) (gB rfl (gE (go _ 24 rfl (decide_eq_false (by omega)) (gcf rfl (gXt (gHh (gS (gJ hm (fun aM => [(0, (.slice aC t.length aD)), (1, (sV aH aI left.length aJ)), (5, (nV aA.1)), (6, (nV aA.2)), (7, (nV aB)), (8, (nV ak)), (49, (.bool (aM)))]) (fun aM => []) (fun aM => ?_) ?_)))))))))))))
    ·refine gR (gM rfl (gB rfl (gM rfl (gsd 45 rfl (fun al => ?_) fun al => ?_))))
     ·exact gO rfl (gO rfl (gO rfl (gKt rfl (gE (gz hm [] rfl)))))
     exact gM rfl (gM rfl (gB rfl (gKf rfl (gE (gz hm [] rfl)))))
    repeat clear hm
    intro aM w hm
    refine gJ hm (fun aG => [(0, (.slice aC t.length aD)), (1, (sV aH aI left.length aJ)), (5, (nV aG.1)), (6, (nV aG.2)), (7, (nV aB))]) (fun aG => []) (fun aG => ?_) ?_
    ·refine gs 49 rfl (fun am => ?_) fun am => ?_
     ·exact gct rfl (gS (gR (gM rfl (gA rfl (gE (gR (gM rfl (gA rfl (gE (gz hm [] rfl))))))))))
     exact gcf rfl (gSk (gz hm [] rfl))
    repeat clear hm
    intro aG w hm
    exact gz hm [] rfl
   repeat clear hm
   intro aE w hm
   exact gR (gM rfl (gP (by omega) (by omega) rfl (gA rfl (gE (gze hm [] rfl)))))
  repeat clear hm
  intro bH bJ w hm bK bL
  refine gS (gS (gR (gM rfl (gM rfl ?_))))
  obtain ⟨bM, bN, rfl, bO⟩ := ro_slice h1
  exact gY (yV st_45 rfl) (gB rfl (gE (go _ 13 rfl (decide_eq_false (by omega)) (gcf rfl (gXt (gHh (gS (gR (gM rfl (gA rfl (gE (gRt (gr1 results87 rfl ⟨rfl, hm.below⟩)))))))))))))
theorem spec_l21Colours_ok (w0 : World) (t : List (List Bool)) (v1 : Value) (h1 : GT.rep (hp w0) [v1] t) (most : Int) :
    ConM Tryz.prog 42 [v1, nV most] w0 (spec_l21Colours t most) fun r v w' => ∃ (x1 : Value), v = x1 ∧ Mem w0 (hp w0) w' [ow [x1] r] := by
  unfold spec_l21Colours
  refine gcon func42 rfl fun r => ?_
  have hm := Mem.start w0
  refine gS (gR (gA rfl (gE (gS (gR (gM rfl ?_))))))
  obtain ⟨aI, aJ, rfl, cF⟩ := ro_slice h1
  refine gY (yV st_45 rfl) (gb fun aP bG => ?_)
  obtain ⟨⟨bH, bJ⟩, bB⟩ := makeM_some.1 bG
  refine gf rfl (fun a hf => e_make (x0 := (false : Bool)) et_90 (fun _ => (Flat.own_iff.2 rfl)) hf hm rfl rfl rfl bH (Int.le_refl _) bJ) ?_
  rintro cG w hm
  rw [bB] at hm
  have h0_1l : (aP.length : Int) = (t.length : Int) := by rw [← bB]; simp only [List.length_replicate]; omega
  refine gA rfl (gE (gS (gR (gM rfl (gY (yV st_45 rfl) (gb fun aB bK => ?_))))))
  obtain ⟨⟨bL, bM⟩, bC⟩ := makeM_some.1 bK
  refine gf rfl (fun a hf => e_make (x0 := (0 : Int)) et_43 (fun _ => (Flat.own_iff.2 rfl)) hf hm rfl rfl rfl bL (Int.le_refl _) bM) ?_
  rintro cH w hm
  rw [bC] at hm
  have h0_2l : (aB.length : Int) = (t.length : Int) := by rw [← bC]; simp only [List.length_replicate]; omega
  refine gA rfl (gE (gS (gS (gR (gA rfl (gE ?_))))))
  obtain ⟨aT, aR, rfl, cI⟩ := ro_slice (hm.ow_rep 1 rfl)
  obtain ⟨aC, aD, rfl, cJ⟩ := ro_slice (hm.ow_rep 0 rfl)
  refine gBk (gNf hm (fun ap aW => [(0, (.slice aI t.length aJ)), (1, (nV most)), (5, (.slice aT aP.length aR)), (6, (.slice aC aB.length aD)), (7, (nV ap))]) (fun ap aW => [ow [.slice aT aP.length aR] aW.1, ow [.slice aC aB.length aD] aW.2]) [1, 0] rfl ?_ ?_)
  ·repeat clear hm
   intro _ _ ap aW w hm cK cL cM _
   refine gS (gS (gR (gM rfl (gM rfl (gY (yV st_45 rfl) (gB rfl (gE (go _ 24 rfl (decide_eq_true (by omega)) (gct rfl (gSk (gS (gBk (gS (gR (gM rfl (gM rfl (gg fun cN bN aX => ?_)))))))))))))))))
   obtain ⟨cO, cP, cQ, he⟩ := idx_form (hm.ow_rep 0 rfl) aX
   obtain ⟨rfl, _, rfl⟩ := sl3 he
   have hL1_1 := rep_slice_len (hm.ow_rep 0 rfl)
   refine gI st_90 bN (idx_lt2 aX hL1_1) rfl (gf0 rfl (fun a hf => e_setElem (x1 := true) (j := 0) (vs := [(.bool (true))]) 0 hf hm rfl aX rfl sizeOf4 rfl rfl rfl (one_cons rfl one_nil) rfl rfl) ?_)
   rintro _ w hm
   have cR := List.getElem?_set_self (a := true) (idx_lt aX)
   refine gE (gR (gM rfl (gM rfl (gg fun cS bO aY => ?_))))
   obtain ⟨cT, cU, cV, he⟩ := idx_form (hm.ow_rep 1 rfl) aY
   obtain ⟨rfl, _, rfl⟩ := sl3 he
   have hL1_2 := rep_slice_len (hm.ow_rep 1 rfl)
   refine gI st_43 bO (idx_lt2 aY hL1_2) rfl (gf0 rfl (fun a hf => e_setElem (x1 := -1) (j := 0) (vs := [nV (-1)]) 1 hf hm rfl aY rfl sizeOf3 rfl rfl rfl (one_cons rfl one_nil) rfl rfl) ?_)
   rintro _ w hm
   have cW := List.getElem?_set_self (a := -1) (idx_lt aY)
   exact gE (gR (gM rfl (gP (by omega) (by omega) rfl (gA rfl (gE (gze hm [0, 1] rfl))))))
  repeat clear hm
  intro cX aq w hm cY cZ
  refine gS (gS (gR (gM rfl (gM rfl (gY (yV st_45 rfl) (gB rfl (gE (go _ 24 rfl (decide_eq_false (by omega)) (gcf rfl (gXt (gHh (gS (gR (gf rfl (fun a hf => e_build0 (α := Int) et_43 hm rfl) ?_))))))))))))))
  rintro c5 w hm
  refine gA rfl (gE (gS (gS (gR (gM rfl (gM rfl (gC hm rfl call87 (spec_l21Next_ok _ t (.slice aI t.length aJ) (hm.now h1) aq.1 (.slice aT aP.length aR) (hm.ow_rep 1 rfl)) fun c6 c7 w hm => gA rfl (gE ?_))))))))
  obtain ⟨bP, bQ, rfl, c8⟩ := ro_slice (hm.ow_rep 0 rfl)
  refine gJg (fun aA a w => ∃ (ar : Value), St 108 [(0, (.slice aI t.length aJ)), (1, (nV most)), (6, (.slice aC aB.length aD)), (8, ar)] w0 (hp w0) [ow [.slice aC aB.length aD] aq.2, ow [ar] aA] a w) (fun aA => ?_) ?_
  ·refine gBk (gMg (fun aN a w => ∃ (aZ : Value), St 108 [(0, (.slice aI t.length aJ)), (1, (nV most)), (5, (.slice aT aP.length aR)), (6, (.slice aC aB.length aD)), (8, aZ), (9, (nV aN.2.2))] w0 (hp w0) [ow [.slice aT aP.length aR] aN.1, ow [.slice aC aB.length aD] aq.2, ow [aZ] aN.2.1] a w) (fun a hf => ⟨.slice bP ([] : List Int).length bQ, hf.sb rfl, hm.pk [1, 2, 0] rfl rfl⟩) ?_)
   repeat clear hm
   rintro c9 bR aN a w ⟨aZ, hf, hm⟩ ca bS
   refine gv hf (gS (gS (gR (gM rfl (gB rfl (gE (gsd 38 rfl (fun bT => ?_) fun bT => ?_)))))))
   ·refine gct rfl (gSk (gS (gBk (gS (gR (gM rfl (gM rfl (gf rfl (fun a hf => e_build (vs := #[(0, (nV aN.2.2))]) (cs := [nV aN.2.2]) et_43 hf hm rfl rfl (by kernel_rfl) rfl rfl) ?_))))))))
    rintro _ w ⟨cb, rfl, hm⟩
    replace hm := hm.lit (xs := ([aN.2.2] : List Int)) 0 rfl rfl rfl rfl
    refine gb fun cd bU => ?_
    obtain ⟨bV, bW⟩ := appM_some.1 bU
    refine gf rfl (fun a hf => e_append 3 et_43 hf hm rfl (hm.ow_rep 0 rfl) rfl rfl rfl bV) ?_
    rintro bX w hm
    rw [bW] at hm
    refine gA rfl (gE (gR (gM rfl (gM rfl (gg fun ce bY aa => ?_)))))
    obtain ⟨bZ, b6, cf, he⟩ := idx_form (hm.ow_rep 1 rfl) aa
    obtain ⟨rfl, _, rfl⟩ := sl3 he
    have hL2_1 := rep_slice_len (hm.ow_rep 1 rfl)
    refine gI st_90 bY (idx_lt2 aa hL2_1) rfl (gf0 rfl (fun a hf => e_setElem (x1 := false) (j := 0) (vs := [(.bool (false))]) 1 hf hm rfl aa rfl sizeOf4 rfl rfl rfl (one_cons rfl one_nil) rfl rfl) ?_)
    rintro _ w hm
    have cg := List.getElem?_set_self (a := false) (idx_lt aa)
    exact gE (gR (gM rfl (gM rfl (gC hm rfl call87 (spec_l21Next_ok _ t (.slice aI t.length aJ) (hm.now h1) (aN.1.set (aN.2.2).toNat false) (sV bZ b6 aP.length aR) (hm.ow_rep 1 rfl)) fun ci cj w hm => gA rfl (gE (gZe fun a hf => ⟨bX, hf.sb rfl, hm.pk [1, 2, 3] rfl rfl⟩))))))
   exact gcf rfl (gXt (gHh (gLp bS bR (gZ fun a hf => ⟨aZ, hf.sb rfl, hm.pk [1, 2] rfl rfl⟩))))
  repeat clear hm
  rintro aA a w ⟨ar, hf, hm⟩
  refine gv hf (gS (gS (gR (gM rfl ?_))))
  obtain ⟨ab, aE, rfl, ck⟩ := ro_slice (hm.ow_rep 1 rfl)
  refine gY (yV st_43 rfl) (gY (yS (by omega) (by omega) rfl) (gA rfl (gE (gJ hm (fun ac => [(6, (.slice aC aB.length aD))]) (fun ac => [ow [.slice aC aB.length aD] ac]) (fun ac => ?_) ?_))))
  ·refine gBk (gMf hm (fun aF => [(0, (.slice aI t.length aJ)), (1, (nV most)), (6, (.slice aC aB.length aD)), (8, (.slice ab aA.length aE)), (10, (nV aF.2))]) (fun aF => [ow [.slice aC aB.length aD] aF.1, ow [.slice ab aA.length aE] aA]) [0, 1] rfl ?_)
   repeat clear hm
   intro cl b7 aF w hm cm b8
   refine gS (gS (gR (gM rfl (gB rfl (gE (gsd 53 rfl (fun b9 => ?_) fun b9 => ?_))))))
   ·refine gct rfl (gSk (gS (gJ hm (fun ae => [(0, (.slice aI t.length aJ)), (1, (nV most)), (6, (.slice aC aB.length aD)), (8, (.slice ab aA.length aE)), (10, (nV aF.2))]) (fun ae => [ow [.slice aC aB.length aD] ae, ow [.slice ab aA.length aE] aA]) (fun ae => ?_) ?_)))
    ·refine gBk (gS (gR (gM rfl (gM rfl (gg fun aO ba au => ?_)))))
     obtain ⟨aG, aH, cn, he⟩ := idx_form (hm.ow_rep 1 rfl) au
     obtain ⟨rfl, _, rfl⟩ := sl3 he
     refine gI st_43 ba (idx_lt au) rfl (gY (yl isAgg3 ((flat_cells (cs := [nV aO]) (hm.ow_rep 1 rfl) au rfl).cell (j := 0) rfl) rfl) (gA rfl (gE (gS (gR (gM rfl (gB rfl (gb fun aK bc => ?_))))))))
     obtain ⟨⟨bd, be⟩, bD⟩ := makeM_some.1 bc
     refine gf rfl (fun a hf => e_make (x0 := (false : Bool)) et_90 (fun _ => (Flat.own_iff.2 rfl)) hf hm rfl rfl rfl bd (Int.le_refl _) be) ?_
     rintro co w hm
     rw [bD] at hm
     have h3_2l : (aK.length : Int) = w64 (most + 1) := by rw [← bD]; simp only [List.length_replicate]; omega
     refine gA rfl (gE (gS (gS (gR (gA rfl (gE ?_))))))
     obtain ⟨aL, aM, rfl, cq⟩ := ro_slice (hm.ow_rep 0 rfl)
     refine gBk (gNf hm (fun aS af => [(0, (.slice aI t.length aJ)), (1, (nV most)), (6, (.slice aC aB.length aD)), (8, (sV aG aH aA.length aE)), (10, (nV aF.2)), (11, (nV aO)), (12, (.slice aL aK.length aM)), (13, (nV aS))]) (fun aS af => [ow [.slice aC aB.length aD] aF.1, ow [sV aG aH aA.length aE] aA, ow [.slice aL aK.length aM] af]) [1, 2, 0] rfl ?_ ?_)
     ·repeat clear hm
      intro _ _ aS af w hm cr ct cu _
      refine gS (gS (gR (gM rfl (gM rfl (gY (yV st_45 rfl) (gB rfl (gE (go _ 66 rfl (decide_eq_true (by omega)) (gct rfl (gSk (gS (gJ hm (fun ah => [(0, (.slice aI t.length aJ)), (1, (nV most)), (6, (.slice aC aB.length aD)), (8, (sV aG aH aA.length aE)), (10, (nV aF.2)), (11, (nV aO)), (12, (.slice aL aK.length aM)), (13, (nV aS))]) (fun ah => [ow [.slice aC aB.length aD] aF.1, ow [sV aG aH aA.length aE] aA, ow [.slice aL aK.length aM] ah]) (fun ah => ?_) ?_))))))))))))
      ·refine gBk (gS (gJ hm (fun ai => [(0, (.slice aI t.length aJ)), (1, (nV most)), (6, (.slice aC aB.length aD)), (8, (sV aG aH aA.length aE)), (10, (nV aF.2)), (11, (nV aO)), (12, (.slice aL aK.length aM)), (13, (nV aS)), (82, (.bool (ai)))]) (fun ai => [ow [.slice aC aB.length aD] aF.1, ow [sV aG aH aA.length aE] aA, ow [.slice aL aK.length aM] af]) (fun ai => ?_) ?_))
       ·refine gR (gM rfl (gM rfl (gg fun bf bg av => ?_)))
        obtain ⟨bh, bi, cv, he⟩ := idx_form' h1 av
        obtain ⟨rfl, _, rfl⟩ := sl3 he
        obtain ⟨_, _, aw, bj⟩ := ro_get' h1 av
        have aV := bj
        obtain ⟨bE, rfl, -⟩ := id aV
        replace aV : GT.rep (hp w0) [bE] bf := aV
        replace aw : CellsAt (hp w0) bh (bi + (aO).toNat * 1) [bE] := aw
        refine gI st_45 bg (idx_lt av) rfl (gY (yl isAgg90 ((aw.mono hm.lez).cell (j := 0) rfl) rfl) (gM rfl (gg fun bk bm ax => ?_)))
        obtain ⟨cw, cx, cy, he⟩ := idx_form aV ax
        subst he
        refine gI st_90 bm (idx_lt ax) rfl (gY (yl isAgg4 ((flat_cells (cs := [(.bool (bk))]) (hm.now aV) ax rfl).cell (j := 0) rfl) rfl) (gM rfl (gs 76 rfl (fun bo => ?_) fun bo => ?_)))
        ·refine gM rfl (gM rfl (gg fun bp bq ay => ?_))
         obtain ⟨cz, dA, dB, he⟩ := idx_form (hm.ow_rep 0 rfl) ay
         obtain ⟨rfl, _, rfl⟩ := sl3 he
         have hL6_1 := rep_slice_len (hm.ow_rep 0 rfl)
         exact gI st_43 bq (idx_lt2 ay hL6_1) rfl (gY (yl isAgg3 ((flat_cells (cs := [nV bp]) (hm.ow_rep 0 rfl) ay rfl).cell (j := 0) rfl) rfl) (gB rfl (gKt rfl (gE (gz hm [0, 1, 2] rfl)))))
        exact gO rfl (gO rfl (gO rfl (gO rfl (gO rfl (gKf rfl (gE (gz hm [0, 1, 2] rfl)))))))
       repeat clear hm
       intro ai w hm
       refine gJ hm (fun aj => [(0, (.slice aI t.length aJ)), (1, (nV most)), (6, (.slice aC aB.length aD)), (8, (sV aG aH aA.length aE)), (10, (nV aF.2)), (11, (nV aO)), (12, (.slice aL aK.length aM)), (13, (nV aS))]) (fun aj => [ow [.slice aC aB.length aD] aF.1, ow [sV aG aH aA.length aE] aA, ow [.slice aL aK.length aM] aj]) (fun aj => ?_) ?_
       ·refine gs 82 rfl (fun br => ?_) fun br => ?_
        ·refine gct rfl (gR (gM rfl (gM rfl (gM rfl (gg fun bs bt az => ?_)))))
         obtain ⟨dC, dD, dE, he⟩ := idx_form (hm.ow_rep 0 rfl) az
         obtain ⟨rfl, _, rfl⟩ := sl3 he
         have hL6_2 := rep_slice_len (hm.ow_rep 0 rfl)
         refine gI st_43 bt (idx_lt2 az hL6_2) rfl (gY (yl isAgg3 ((flat_cells (cs := [nV bs]) (hm.ow_rep 0 rfl) az rfl).cell (j := 0) rfl) rfl) (gg fun dF bu ak => ?_))
         obtain ⟨dG, dH, dI, he⟩ := idx_form (hm.ow_rep 2 rfl) ak
         obtain ⟨rfl, _, rfl⟩ := sl3 he
         have hL6_3 := rep_slice_len (hm.ow_rep 2 rfl)
         refine gI st_90 bu (idx_lt2 ak hL6_3) rfl (gf0 rfl (fun a hf => e_setElem (x1 := true) (j := 0) (vs := [(.bool (true))]) 2 hf hm rfl ak rfl sizeOf4 rfl rfl rfl (one_cons rfl one_nil) rfl rfl) ?_)
         rintro _ w hm
         have dJ := List.getElem?_set_self (a := true) (idx_lt ak)
         exact gE (gz hm [0, 1, 2] rfl)
        exact gcf rfl (gSk (gz hm [0, 1, 2] rfl))
       repeat clear hm
       intro aj w hm
       exact gz hm [0, 1, 2] rfl
      repeat clear hm
      intro ah w hm
      exact gR (gM rfl (gP (by omega) (by omega) rfl (gA rfl (gE (gze hm [0, 1, 2] rfl)))))
     repeat clear hm
     intro dK bF w hm dL dM
     refine gS (gS (gR (gM rfl (gM rfl (gY (yV st_45 rfl) (gB rfl (gE (go _ 66 rfl (decide_eq_false (by omega)) (gcf rfl (gXt (gHh (gS (gR (gA rfl (gE (gS (gJ hm (fun aQ => [(0, (.slice aI t.length aJ)), (1, (nV most)), (6, (.slice aC aB.length aD)), (8, (sV aG aH aA.length aE)), (10, (nV aF.2)), (11, (nV aO)), (14, (nV aQ))]) (fun aQ => [ow [.slice aC aB.length aD] aF.1, ow [sV aG aH aA.length aE] aA]) (fun aQ => ?_) ?_)))))))))))))))))
     ·refine gBk (gMf hm (fun al => [(0, (.slice aI t.length aJ)), (1, (nV most)), (6, (.slice aC aB.length aD)), (8, (sV aG aH aA.length aE)), (10, (nV aF.2)), (11, (nV aO)), (12, (.slice aL aK.length aM)), (14, (nV al))]) (fun al => [ow [.slice aC aB.length aD] aF.1, ow [sV aG aH aA.length aE] aA, ow [.slice aL aK.length aM] bF]) [0, 1, 2] rfl ?_)
      repeat clear hm
      intro dN bv al w hm dO bx
      refine gS (gS (gJ hm (fun am => [(0, (.slice aI t.length aJ)), (1, (nV most)), (6, (.slice aC aB.length aD)), (8, (sV aG aH aA.length aE)), (10, (nV aF.2)), (11, (nV aO)), (12, (.slice aL aK.length aM)), (14, (nV al)), (97, (.bool (am)))]) (fun am => [ow [.slice aC aB.length aD] aF.1, ow [sV aG aH aA.length aE] aA, ow [.slice aL aK.length aM] bF]) (fun am => ?_) ?_))
      ·refine gR (gM rfl (gM rfl (gB rfl (gM rfl (gsd 92 rfl (fun bz => ?_) fun bz => ?_)))))
       ·refine gM rfl (gM rfl (gg fun cA cB bA => ?_))
        obtain ⟨dP, dQ, dR, he⟩ := idx_form (hm.ow_rep 2 rfl) bA
        obtain ⟨rfl, _, rfl⟩ := sl3 he
        have hL6_4 := rep_slice_len (hm.ow_rep 2 rfl)
        exact gI st_90 cB (idx_lt2 bA hL6_4) rfl (gY (yl isAgg4 ((flat_cells (cs := [(.bool (cA))]) (hm.ow_rep 2 rfl) bA rfl).cell (j := 0) rfl) rfl) (gKt rfl (gE (gz hm [0, 1, 2] rfl))))
       exact gO rfl (gO rfl (gO rfl (gO rfl (gKf rfl (gE (gz hm [0, 1, 2] rfl))))))
      repeat clear hm
      intro am w hm
      refine gs 97 rfl (fun cC => ?_) fun cC => ?_
      ·exact gct rfl (gSk (gBk (gR (gM rfl (gB rfl (gA rfl (gE (gze hm [0, 1, 2] rfl))))))))
      exact gcf rfl (gXt (gHh (gLp bx bv (gz hm [0, 1] rfl))))
     repeat clear hm
     intro aQ w hm
     refine gS (gR (gM rfl (gM rfl (gB rfl (gE (gJ hm (fun an => [(0, (.slice aI t.length aJ)), (1, (nV most)), (6, (.slice aC aB.length aD)), (8, (sV aG aH aA.length aE)), (10, (nV aF.2))]) (fun an => [ow [.slice aC aB.length aD] an, ow [sV aG aH aA.length aE] aA]) (fun an => ?_) ?_))))))
     ·refine gsd 102 rfl (fun cD => ?_) fun cD => ?_
      ·refine gct rfl (gR (gM rfl (gM rfl (gM rfl (gg fun dS cE ao => ?_)))))
       obtain ⟨dT, dU, dV, he⟩ := idx_form (hm.ow_rep 0 rfl) ao
       obtain ⟨rfl, _, rfl⟩ := sl3 he
       have hL4_1 := rep_slice_len (hm.ow_rep 0 rfl)
       refine gI st_43 cE (idx_lt2 ao hL4_1) rfl (gf0 rfl (fun a hf => e_setElem (x1 := aQ) (j := 0) (vs := [nV aQ]) 0 hf hm rfl ao rfl sizeOf3 rfl rfl rfl (one_cons rfl one_nil) rfl rfl) ?_)
       rintro _ w hm
       have dW := List.getElem?_set_self (a := aQ) (idx_lt ao)
       exact gE (gz hm [0, 1] rfl)
      exact gcf rfl (gSk (gz hm [0, 1] rfl))
     repeat clear hm
     intro an w hm
     exact gz hm [0, 1] rfl
    repeat clear hm
    intro ae w hm
    exact gR (gM rfl (gB rfl (gA rfl (gE (gze hm [0, 1] rfl)))))
   exact gcf rfl (gXt (gHh (gLp b8 b7 (gz hm [0] rfl))))
  repeat clear hm
  intro ac w hm
  exact gS (gR (gM rfl (gA rfl (gE (gRt (gr1 results42 rfl ⟨.slice aC aB.length aD, rfl, hm.pk [0] rfl rfl⟩))))))
abbrev od175_1 : Go.Wk.Ord := (.p 10 (.e 12 .fin .nil))
abbrev od175_2 : Go.Wk.Ord := (.p 10 (.e 11 (.e 12 .fin .nil) .nil))
abbrev od175_3 : Go.Wk.Ord := (.e 9 od175_2 (.e 11 (.e 9 od175_1 .nil) .nil))
abbrev od175_4 : Go.Wk.Ord := (.e 6 (.e 9 od175_1 .nil) .nil)
abbrev od175_5 : Go.Wk.Ord := (.e 1 od175_2 (.e 11 (.e 1 od175_1 .nil) .nil))
abbrev od175_6 : Go.Wk.Ord := (.e 1 (.e 9 od175_1 .nil) (.e 9 (.e 1 od175_1 .nil) .nil))
abbrev od175_7 : Go.Wk.Ord := (.e 0 od175_2 (.e 11 (.e 0 od175_1 .nil) .nil))
abbrev od175_8 : Go.Wk.Ord := (.e 0 (.e 9 od175_1 .nil) (.e 9 (.e 0 od175_1 .nil) .nil))
abbrev od175_9 : Go.Wk.Ord := (.e 0 (.e 1 od175_1 .nil) (.e 1 (.e 0 od175_1 .nil) .nil))
abbrev od175_10 : Go.Wk.Ord := (.e 6 od175_3 (.e 11 od175_4 .nil))
abbrev od175_11 : Go.Wk.Ord := (.e 1 od175_3 (.e 9 od175_5 (.e 11 od175_6 .nil)))
abbrev od175_12 : Go.Wk.Ord := (.e 1 od175_4 (.e 6 od175_6 .nil))
abbrev od175_13 : Go.Wk.Ord := (.e 0 od175_3 (.e 9 od175_7 (.e 11 od175_8 .nil)))
abbrev od175_14 : Go.Wk.Ord := (.e 0 od175_4 (.e 6 od175_8 .nil))
abbrev od175_15 : Go.Wk.Ord := (.e 0 od175_6 (.e 1 od175_8 (.e 9 od175_9 .nil)))
theorem spec_l7CopyBlock_ok (w0 : World) (b_ : Block_) (v1 : Value) (h1 : GT.rep (hp w0) [v1] b_.phis) (v2 : Value) (h2 : GT.rep (hp w0) [v2] b_.ins) (v3 : Value) (h3 : GT.rep (hp w0) [v3] b_.next_) :
    ConM Tryz.prog 175 [(.agg #[v1, v2, nV b_.jump, nV b_.on, v3])] w0 (spec_l7CopyBlock b_) fun r v w' => ∃ (x1 : Value) (x2 : Value) (x3 : Value), v = (.agg #[x1, x2, nV r.jump, nV r.on, x3]) ∧ Mem w0 (hp w0) w' [ow [x1] r.phis, ow [x2] r.ins, ow [x3] r.next_] := by
  unfold spec_l7CopyBlock
  refine gcon func175 rfl fun r => ?_
  have hm := Mem.start w0
  refine gS (gR (gBx hm rfl fun aB w hm => gAl hm zeroValue63 rfl fun aC w hm => gE (gS (gJg (fun aD a w => ∃ (aI : Nat) (bu bv bx : Value), St 74 [(1, (pV aB)), (2, (pV aC)), (3, (pV aI))] w0 (hp w0) [blk aB [v1, v2, nV b_.jump, nV b_.on, v3] 63, blk aC [.slice none 0 0, .slice none 0 0, nV 0, nV 0, .slice none 0 0] 63, blk aI [bu, bv, nV b_.jump, nV b_.on, bx] 63, ow [bu] ([] : List Phi_), ow [bv] ([] : List Ins_), ow [bx] aD] a w) (fun aD => ?_) ?_))))
  ·refine gW (.p 2 (.p 4 (.p 7 (.q 3 (.q 5 (.q 8 (.e 0 (.e 1 od175_10 (.e 6 od175_11 (.e 11 od175_12 .nil))) (.e 1 (.e 0 od175_10 (.e 6 od175_13 (.e 11 od175_14 .nil))) (.e 6 (.e 0 od175_11 (.e 1 od175_13 (.e 9 (.e 0 od175_5 (.e 1 od175_7 (.e 11 od175_9 .nil))) (.e 11 od175_15 .nil)))) (.e 11 (.e 0 od175_12 (.e 1 od175_14 (.e 6 od175_15 .nil))) .nil)))))))))) [0, 1, 3, 5, 6, 8, 9, 11] [2, 4, 7, 10] hm [0, 1] [blk aC [.slice none 0 0, .slice none 0 0, nV 0, nV 0, .slice none 0 0] 63, blk aB [v1, v2, nV b_.jump, nV b_.on, v3] 63] rfl mxo (by kernel_rfl) (fun _ _ _ h => h.2) fun w hm hS => tP rfl (fun w => yF fo_63_2 rfl) (tP rfl (fun w => yF fo_63_3 rfl) (tP rfl (fun w => yF fo_63_4 rfl) (tQ rfl hS (fun w hm => yL hm 1 isAgg3 rfl) (tQ rfl hS (fun w hm => yL hm 1 isAgg3 rfl) (tQ rfl hS (fun w hm => yL hm 1 isAgg43 rfl) (gb fun aN aY => tSh ((.e 12 .fin .nil)) (fun a w => ∃ (bW : Nat) (bX bY bZ : Value), St 74 [(1, (pV aB)), (2, (pV aC)), (3, (pV bW)), (17, (.agg #[bX, bY, nV b_.jump, nV b_.on, bZ]))] w0 (hp w0) [blk aB [v1, v2, nV b_.jump, nV b_.on, v3] 63, blk aC [.slice none 0 0, .slice none 0 0, nV 0, nV 0, .slice none 0 0] 63, blk bW [.slice none 0 0, .slice none 0 0, nV 0, nV 0, .slice none 0 0] 63, ow [bX] ([] : List Phi_), ow [bY] ([] : List Ins_), ow [bZ] aN] a w) ?_ fun hT2_1 => ?_))))))
   ·rintro a w ⟨bW, bX, bY, bZ, hf, hm⟩
    refine tSv hf hm [1, 0] rfl fun hS => tO (tf0 rfl rfl (fun a hf => e_storeN 2 hf hm rfl sizeOf63 rfl rfl rfl (one_cons (rep_one (hm.ow_rep 3 rfl)) (one_cons (rep_one (hm.ow_rep 4 rfl)) (one_cons rfl (one_cons rfl (one_cons (rep_one (hm.ow_rep 5 rfl)) one_nil))))) rfl rfl) ?_)
    rintro _ w hm
    exact tAn rfl (tE (gZ fun a hf => ⟨bW, bX, bY, bZ, hf.sb rfl, hm.pk [0, 1, 2, 3, 4, 5] rfl rfl⟩))
   refine tSh (od175_1) (fun a w => ∃ (b6 : Nat) (bz cA cB : Value), St 74 [(1, (pV aB)), (2, (pV aC)), (3, (pV b6)), (7, bz), (8, cA), (10, (nV b_.jump)), (12, (nV b_.on)), (16, cB)] w0 (hp w0) [blk aB [v1, v2, nV b_.jump, nV b_.on, v3] 63, blk aC [.slice none 0 0, .slice none 0 0, nV 0, nV 0, .slice none 0 0] 63, blk b6 [.slice none 0 0, .slice none 0 0, nV 0, nV 0, .slice none 0 0] 63, ow [bz] ([] : List Phi_), ow [cA] ([] : List Ins_), ow [cB] aN] a w) ?_ fun hT2_2 => ?_
   ·rintro a w ⟨b6, bz, cA, cB, hf, hm⟩
    refine tSv hf hm [1, 0] rfl fun hS => ?_
    obtain ⟨ah, ai, rfl, cR⟩ := ro_slice (hm.ow_rep 3 rfl)
    obtain ⟨aj, ak, rfl, cS⟩ := ro_slice (hm.ow_rep 4 rfl)
    obtain ⟨al, am, rfl, cT⟩ := ro_slice (hm.ow_rep 5 rfl)
    exact tP rfl (fun w => yG rfl (y_build (vs := [(0, (.slice ah ([] : List Phi_).length ai)), (1, (.slice aj ([] : List Ins_).length ak)), (2, (nV b_.jump)), (3, (nV b_.on)), (4, (.slice al aN.length am))]) (cs := #[.slice ah ([] : List Phi_).length ai, .slice aj ([] : List Ins_).length ak, nV b_.jump, nV b_.on, .slice al aN.length am]) rfl rfl (by kernel_rfl))) (tUse hT2_1 fun a hf => ⟨b6, .slice ah ([] : List Phi_).length ai, .slice aj ([] : List Ins_).length ak, .slice al aN.length am, hf.sb rfl, hm.pk [0, 1, 2, 3, 4, 5] rfl rfl⟩)
   refine tSh ((.e 0 od175_1 .nil)) (fun a w => ∃ (b7 : Nat) (b8 b9 : Value), St 74 [(1, (pV aB)), (2, (pV aC)), (3, (pV b7)), (8, b8), (10, (nV b_.jump)), (12, (nV b_.on)), (16, b9)] w0 (hp w0) [blk aB [v1, v2, nV b_.jump, nV b_.on, v3] 63, blk aC [.slice none 0 0, .slice none 0 0, nV 0, nV 0, .slice none 0 0] 63, blk b7 [.slice none 0 0, .slice none 0 0, nV 0, nV 0, .slice none 0 0] 63, ow [b8] ([] : List Ins_), ow [b9] aN] a w) ?_ fun hT2_3 => ?_
   ·rintro a w ⟨b7, b8, b9, hf, hm⟩
    refine tSv hf hm [1, 0] rfl fun hS => tO (tf rfl rfl (fun a hf => e_build0 (α := Phi_) et_60 hm rfl) ?_)
    rintro aE w hm
    exact tAk hm [2, 1] rfl fun hS => tUse hT2_2 fun a hf => ⟨b7, aE, b8, b9, hf.sb rfl, hm.pk [1, 2, 3, 0, 4, 5] rfl rfl⟩
   refine tSh ((.e 1 od175_1 .nil)) (fun a w => ∃ (ba : Nat) (bc bd : Value), St 74 [(1, (pV aB)), (2, (pV aC)), (3, (pV ba)), (7, bc), (10, (nV b_.jump)), (12, (nV b_.on)), (16, bd)] w0 (hp w0) [blk aB [v1, v2, nV b_.jump, nV b_.on, v3] 63, blk aC [.slice none 0 0, .slice none 0 0, nV 0, nV 0, .slice none 0 0] 63, blk ba [.slice none 0 0, .slice none 0 0, nV 0, nV 0, .slice none 0 0] 63, ow [bc] ([] : List Phi_), ow [bd] aN] a w) ?_ fun hT2_4 => ?_
   ·rintro a w ⟨ba, bc, bd, hf, hm⟩
    refine tSv hf hm [1, 0] rfl fun hS => tO (tf rfl rfl (fun a hf => e_build0 (α := Ins_) et_61 hm rfl) ?_)
    rintro aE w hm
    exact tAk hm [2, 1] rfl fun hS => tUse hT2_2 fun a hf => ⟨ba, bc, aE, bd, hf.sb rfl, hm.pk [1, 2, 3, 4, 0, 5] rfl rfl⟩
   refine tSh ((.e 9 od175_1 .nil)) (fun a w => ∃ (be : Nat) (bf bg cC : Value), St 74 [(1, (pV aB)), (2, (pV aC)), (3, (pV be)), (7, bf), (8, bg), (10, (nV b_.jump)), (12, (nV b_.on)), (13, cC), (15, v3)] w0 (hp w0) [blk aB [v1, v2, nV b_.jump, nV b_.on, v3] 63, blk aC [.slice none 0 0, .slice none 0 0, nV 0, nV 0, .slice none 0 0] 63, blk be [.slice none 0 0, .slice none 0 0, nV 0, nV 0, .slice none 0 0] 63, ow [bf] ([] : List Phi_), ow [bg] ([] : List Ins_), ow [cC] ([] : List Int)] a w) ?_ fun hT2_5 => ?_
   ·rintro a w ⟨be, bf, bg, cC, hf, hm⟩
    refine tSv hf hm [1, 0] rfl fun hS => tO ?_
    obtain ⟨aK, aL⟩ := appM_some.1 aY
    refine tf rfl rfl (fun a hf => e_append 5 et_43 hf hm rfl (hm.now h3) rfl rfl rfl aK) ?_
    rintro aE w hm
    rw [aL] at hm
    exact tAk hm [1, 0] rfl fun hS => tUse hT2_2 fun a hf => ⟨be, bf, bg, aE, hf.sb rfl, hm.pk [0, 1, 2, 3, 4, 5] rfl rfl⟩
   refine tSh (od175_2) (fun a w => ∃ (cD cE cF : Value), St 74 [(1, (pV aB)), (2, (pV aC)), (7, cD), (8, cE), (10, (nV b_.jump)), (12, (nV b_.on)), (16, cF)] w0 (hp w0) [blk aB [v1, v2, nV b_.jump, nV b_.on, v3] 63, blk aC [.slice none 0 0, .slice none 0 0, nV 0, nV 0, .slice none 0 0] 63, ow [cD] ([] : List Phi_), ow [cE] ([] : List Ins_), ow [cF] aN] a w) ?_ fun hT2_6 => ?_
   ·rintro a w ⟨cD, cE, cF, hf, hm⟩
    refine tSv hf hm [1, 0] rfl fun hS => ?_
    obtain ⟨ah, ai, rfl, cR⟩ := ro_slice (hm.ow_rep 2 rfl)
    obtain ⟨aj, ak, rfl, cS⟩ := ro_slice (hm.ow_rep 3 rfl)
    obtain ⟨al, am, rfl, cT⟩ := ro_slice (hm.ow_rep 4 rfl)
    refine tP rfl (fun w => yG rfl (y_build (vs := [(0, (.slice ah ([] : List Phi_).length ai)), (1, (.slice aj ([] : List Ins_).length ak)), (2, (nV b_.jump)), (3, (nV b_.on)), (4, (.slice al aN.length am))]) (cs := #[.slice ah ([] : List Phi_).length ai, .slice aj ([] : List Ins_).length ak, nV b_.jump, nV b_.on, .slice al aN.length am]) rfl rfl (by kernel_rfl))) (tO (tf rfl rfl (fun a hf => e_alloc hm zeroValue63 rfl rfl) ?_))
    rintro _ w ⟨aM, rfl, hm⟩
    exact tAk hm [2, 1] rfl fun hS => tUse hT2_1 fun a hf => ⟨aM, .slice ah ([] : List Phi_).length ai, .slice aj ([] : List Ins_).length ak, .slice al aN.length am, hf.sb rfl, hm.pk [1, 2, 0, 3, 4, 5] rfl rfl⟩
   refine tSh (od175_9) (fun a w => ∃ (au : Nat) (av : Value), St 74 [(1, (pV aB)), (2, (pV aC)), (3, (pV au)), (10, (nV b_.jump)), (12, (nV b_.on)), (16, av)] w0 (hp w0) [blk aB [v1, v2, nV b_.jump, nV b_.on, v3] 63, blk aC [.slice none 0 0, .slice none 0 0, nV 0, nV 0, .slice none 0 0] 63, blk au [.slice none 0 0, .slice none 0 0, nV 0, nV 0, .slice none 0 0] 63, ow [av] aN] a w) ?_ fun hT2_7 => ?_
   ·rintro a w ⟨au, av, hf, hm⟩
    refine tSv hf hm [1, 0] rfl fun hS => tMo ?_ ?_
    ·refine tf rfl rfl (fun a hf => e_build0 (α := Phi_) et_60 hm rfl) ?_
     rintro aE w hm
     exact tAk hm [2, 1] rfl fun hS => tUse hT2_4 fun a hf => ⟨au, aE, av, hf.sb rfl, hm.pk [1, 2, 3, 0, 4] rfl rfl⟩
    refine tO (tf rfl rfl (fun a hf => e_build0 (α := Ins_) et_61 hm rfl) ?_)
    rintro aJ w hm
    exact tAk hm [2, 1] rfl fun hS => tUse hT2_3 fun a hf => ⟨au, aJ, av, hf.sb rfl, hm.pk [1, 2, 3, 0, 4] rfl rfl⟩
   refine tSh (od175_8) (fun a w => ∃ (aw : Nat) (ax bh : Value), St 74 [(1, (pV aB)), (2, (pV aC)), (3, (pV aw)), (8, ax), (10, (nV b_.jump)), (12, (nV b_.on)), (13, bh), (15, v3)] w0 (hp w0) [blk aB [v1, v2, nV b_.jump, nV b_.on, v3] 63, blk aC [.slice none 0 0, .slice none 0 0, nV 0, nV 0, .slice none 0 0] 63, blk aw [.slice none 0 0, .slice none 0 0, nV 0, nV 0, .slice none 0 0] 63, ow [ax] ([] : List Ins_), ow [bh] ([] : List Int)] a w) ?_ fun hT2_8 => ?_
   ·rintro a w ⟨aw, ax, bh, hf, hm⟩
    refine tSv hf hm [1, 0] rfl fun hS => tMo ?_ ?_
    ·refine tf rfl rfl (fun a hf => e_build0 (α := Phi_) et_60 hm rfl) ?_
     rintro aE w hm
     exact tAk hm [2, 1] rfl fun hS => tUse hT2_5 fun a hf => ⟨aw, aE, ax, bh, hf.sb rfl, hm.pk [1, 2, 3, 0, 4, 5] rfl rfl⟩
    refine tO ?_
    obtain ⟨aK, aL⟩ := appM_some.1 aY
    refine tf rfl rfl (fun a hf => e_append 4 et_43 hf hm rfl (hm.now h3) rfl rfl rfl aK) ?_
    rintro aJ w hm
    rw [aL] at hm
    exact tAk hm [1, 0] rfl fun hS => tUse hT2_3 fun a hf => ⟨aw, ax, aJ, hf.sb rfl, hm.pk [0, 1, 2, 3, 4] rfl rfl⟩
   refine tSh (od175_7) (fun a w => ∃ (ay az : Value), St 74 [(1, (pV aB)), (2, (pV aC)), (8, ay), (10, (nV b_.jump)), (12, (nV b_.on)), (16, az)] w0 (hp w0) [blk aB [v1, v2, nV b_.jump, nV b_.on, v3] 63, blk aC [.slice none 0 0, .slice none 0 0, nV 0, nV 0, .slice none 0 0] 63, ow [ay] ([] : List Ins_), ow [az] aN] a w) ?_ fun hT2_9 => ?_
   ·rintro a w ⟨ay, az, hf, hm⟩
    refine tSv hf hm [1, 0] rfl fun hS => tMo ?_ ?_
    ·refine tf rfl rfl (fun a hf => e_build0 (α := Phi_) et_60 hm rfl) ?_
     rintro aE w hm
     exact tAk hm [2, 1] rfl fun hS => tUse hT2_6 fun a hf => ⟨aE, ay, az, hf.sb rfl, hm.pk [1, 2, 0, 3, 4] rfl rfl⟩
    refine tO (tf rfl rfl (fun a hf => e_alloc hm zeroValue63 rfl rfl) ?_)
    rintro _ w ⟨aM, rfl, hm⟩
    exact tAk hm [2, 1] rfl fun hS => tUse hT2_3 fun a hf => ⟨aM, ay, az, hf.sb rfl, hm.pk [1, 2, 0, 3, 4] rfl rfl⟩
   refine tSh (od175_6) (fun a w => ∃ (bA : Nat) (bB bi : Value), St 74 [(1, (pV aB)), (2, (pV aC)), (3, (pV bA)), (7, bB), (10, (nV b_.jump)), (12, (nV b_.on)), (13, bi), (15, v3)] w0 (hp w0) [blk aB [v1, v2, nV b_.jump, nV b_.on, v3] 63, blk aC [.slice none 0 0, .slice none 0 0, nV 0, nV 0, .slice none 0 0] 63, blk bA [.slice none 0 0, .slice none 0 0, nV 0, nV 0, .slice none 0 0] 63, ow [bB] ([] : List Phi_), ow [bi] ([] : List Int)] a w) ?_ fun hT2_10 => ?_
   ·rintro a w ⟨bA, bB, bi, hf, hm⟩
    refine tSv hf hm [1, 0] rfl fun hS => tMo ?_ ?_
    ·refine tf rfl rfl (fun a hf => e_build0 (α := Ins_) et_61 hm rfl) ?_
     rintro aE w hm
     exact tAk hm [2, 1] rfl fun hS => tUse hT2_5 fun a hf => ⟨bA, bB, aE, bi, hf.sb rfl, hm.pk [1, 2, 3, 4, 0, 5] rfl rfl⟩
    refine tO ?_
    obtain ⟨aK, aL⟩ := appM_some.1 aY
    refine tf rfl rfl (fun a hf => e_append 4 et_43 hf hm rfl (hm.now h3) rfl rfl rfl aK) ?_
    rintro aJ w hm
    rw [aL] at hm
    exact tAk hm [1, 0] rfl fun hS => tUse hT2_4 fun a hf => ⟨bA, bB, aJ, hf.sb rfl, hm.pk [0, 1, 2, 3, 4] rfl rfl⟩
   refine tSh (od175_5) (fun a w => ∃ (bC bD : Value), St 74 [(1, (pV aB)), (2, (pV aC)), (7, bC), (10, (nV b_.jump)), (12, (nV b_.on)), (16, bD)] w0 (hp w0) [blk aB [v1, v2, nV b_.jump, nV b_.on, v3] 63, blk aC [.slice none 0 0, .slice none 0 0, nV 0, nV 0, .slice none 0 0] 63, ow [bC] ([] : List Phi_), ow [bD] aN] a w) ?_ fun hT2_11 => ?_
   ·rintro a w ⟨bC, bD, hf, hm⟩
    refine tSv hf hm [1, 0] rfl fun hS => tMo ?_ ?_
    ·refine tf rfl rfl (fun a hf => e_build0 (α := Ins_) et_61 hm rfl) ?_
     rintro aE w hm
     exact tAk hm [2, 1] rfl fun hS => tUse hT2_6 fun a hf => ⟨bC, aE, bD, hf.sb rfl, hm.pk [1, 2, 3, 0, 4] rfl rfl⟩
    refine tO (tf rfl rfl (fun a hf => e_alloc hm zeroValue63 rfl rfl) ?_)
    rintro _ w ⟨aM, rfl, hm⟩
    exact tAk hm [2, 1] rfl fun hS => tUse hT2_4 fun a hf => ⟨aM, bC, bD, hf.sb rfl, hm.pk [1, 2, 0, 3, 4] rfl rfl⟩
   refine tSh (od175_4) (fun a w => ∃ (bj : Nat) (bk bm : Value), St 74 [(1, (pV aB)), (2, (pV aC)), (3, (pV bj)), (7, bk), (8, bm), (10, (nV b_.jump)), (12, (nV b_.on)), (15, v3)] w0 (hp w0) [blk aB [v1, v2, nV b_.jump, nV b_.on, v3] 63, blk aC [.slice none 0 0, .slice none 0 0, nV 0, nV 0, .slice none 0 0] 63, blk bj [.slice none 0 0, .slice none 0 0, nV 0, nV 0, .slice none 0 0] 63, ow [bk] ([] : List Phi_), ow [bm] ([] : List Ins_)] a w) ?_ fun hT2_12 => ?_
   ·rintro a w ⟨bj, bk, bm, hf, hm⟩
    refine tSv hf hm [1, 0] rfl fun hS => tO (tf rfl rfl (fun a hf => e_build0 (α := Int) et_43 hm rfl) ?_)
    rintro aE w hm
    exact tAk hm [2, 1] rfl fun hS => tUse hT2_5 fun a hf => ⟨bj, bk, bm, aE, hf.sb rfl, hm.pk [1, 2, 3, 4, 5, 0] rfl rfl⟩
   refine tSh (od175_3) (fun a w => ∃ (bE bF bo : Value), St 74 [(1, (pV aB)), (2, (pV aC)), (7, bE), (8, bF), (10, (nV b_.jump)), (12, (nV b_.on)), (13, bo), (15, v3)] w0 (hp w0) [blk aB [v1, v2, nV b_.jump, nV b_.on, v3] 63, blk aC [.slice none 0 0, .slice none 0 0, nV 0, nV 0, .slice none 0 0] 63, ow [bE] ([] : List Phi_), ow [bF] ([] : List Ins_), ow [bo] ([] : List Int)] a w) ?_ fun hT2_13 => ?_
   ·rintro a w ⟨bE, bF, bo, hf, hm⟩
    refine tSv hf hm [1, 0] rfl fun hS => tMo ?_ ?_
    ·obtain ⟨aK, aL⟩ := appM_some.1 aY
     refine tf rfl rfl (fun a hf => e_append 4 et_43 hf hm rfl (hm.now h3) rfl rfl rfl aK) ?_
     rintro aE w hm
     rw [aL] at hm
     exact tAk hm [1, 0] rfl fun hS => tUse hT2_6 fun a hf => ⟨bE, bF, aE, hf.sb rfl, hm.pk [0, 1, 2, 3, 4] rfl rfl⟩
    refine tO (tf rfl rfl (fun a hf => e_alloc hm zeroValue63 rfl rfl) ?_)
    rintro _ w ⟨aM, rfl, hm⟩
    exact tAk hm [2, 1] rfl fun hS => tUse hT2_5 fun a hf => ⟨aM, bE, bF, bo, hf.sb rfl, hm.pk [1, 2, 0, 3, 4, 5] rfl rfl⟩
   refine tSh (od175_15) (fun a w => ∃ (an : Nat) (bG : Value), St 74 [(1, (pV aB)), (2, (pV aC)), (3, (pV an)), (10, (nV b_.jump)), (12, (nV b_.on)), (13, bG), (15, v3)] w0 (hp w0) [blk aB [v1, v2, nV b_.jump, nV b_.on, v3] 63, blk aC [.slice none 0 0, .slice none 0 0, nV 0, nV 0, .slice none 0 0] 63, blk an [.slice none 0 0, .slice none 0 0, nV 0, nV 0, .slice none 0 0] 63, ow [bG] ([] : List Int)] a w) ?_ fun hT2_14 => ?_
   ·rintro a w ⟨an, bG, hf, hm⟩
    refine tSv hf hm [1, 0] rfl fun hS => tMo ?_ ?_
    ·refine tf rfl rfl (fun a hf => e_build0 (α := Phi_) et_60 hm rfl) ?_
     rintro aE w hm
     exact tAk hm [2, 1] rfl fun hS => tUse hT2_10 fun a hf => ⟨an, aE, bG, hf.sb rfl, hm.pk [1, 2, 3, 0, 4] rfl rfl⟩
    refine tMo ?_ ?_
    ·refine tf rfl rfl (fun a hf => e_build0 (α := Ins_) et_61 hm rfl) ?_
     rintro aJ w hm
     exact tAk hm [2, 1] rfl fun hS => tUse hT2_8 fun a hf => ⟨an, aJ, bG, hf.sb rfl, hm.pk [1, 2, 3, 0, 4] rfl rfl⟩
    refine tO ?_
    obtain ⟨aK, aL⟩ := appM_some.1 aY
    refine tf rfl rfl (fun a hf => e_append 3 et_43 hf hm rfl (hm.now h3) rfl rfl rfl aK) ?_
    rintro cG w hm
    rw [aL] at hm
    exact tAk hm [1, 0] rfl fun hS => tUse hT2_7 fun a hf => ⟨an, cG, hf.sb rfl, hm.pk [0, 1, 2, 3] rfl rfl⟩
   refine tSh (od175_14) (fun a w => ∃ (bH : Nat) (bJ : Value), St 74 [(1, (pV aB)), (2, (pV aC)), (3, (pV bH)), (8, bJ), (10, (nV b_.jump)), (12, (nV b_.on)), (15, v3)] w0 (hp w0) [blk aB [v1, v2, nV b_.jump, nV b_.on, v3] 63, blk aC [.slice none 0 0, .slice none 0 0, nV 0, nV 0, .slice none 0 0] 63, blk bH [.slice none 0 0, .slice none 0 0, nV 0, nV 0, .slice none 0 0] 63, ow [bJ] ([] : List Ins_)] a w) ?_ fun hT2_15 => ?_
   ·rintro a w ⟨bH, bJ, hf, hm⟩
    refine tSv hf hm [1, 0] rfl fun hS => tMo ?_ ?_
    ·refine tf rfl rfl (fun a hf => e_build0 (α := Phi_) et_60 hm rfl) ?_
     rintro aE w hm
     exact tAk hm [2, 1] rfl fun hS => tUse hT2_12 fun a hf => ⟨bH, aE, bJ, hf.sb rfl, hm.pk [1, 2, 3, 0, 4] rfl rfl⟩
    refine tO (tf rfl rfl (fun a hf => e_build0 (α := Int) et_43 hm rfl) ?_)
    rintro aJ w hm
    exact tAk hm [2, 1] rfl fun hS => tUse hT2_8 fun a hf => ⟨bH, bJ, aJ, hf.sb rfl, hm.pk [1, 2, 3, 4, 0] rfl rfl⟩
   refine tSh (od175_13) (fun a w => ∃ (ao bK : Value), St 74 [(1, (pV aB)), (2, (pV aC)), (8, ao), (10, (nV b_.jump)), (12, (nV b_.on)), (13, bK), (15, v3)] w0 (hp w0) [blk aB [v1, v2, nV b_.jump, nV b_.on, v3] 63, blk aC [.slice none 0 0, .slice none 0 0, nV 0, nV 0, .slice none 0 0] 63, ow [ao] ([] : List Ins_), ow [bK] ([] : List Int)] a w) ?_ fun hT2_16 => ?_
   ·rintro a w ⟨ao, bK, hf, hm⟩
    refine tSv hf hm [1, 0] rfl fun hS => tMo ?_ ?_
    ·refine tf rfl rfl (fun a hf => e_build0 (α := Phi_) et_60 hm rfl) ?_
     rintro aE w hm
     exact tAk hm [2, 1] rfl fun hS => tUse hT2_13 fun a hf => ⟨aE, ao, bK, hf.sb rfl, hm.pk [1, 2, 0, 3, 4] rfl rfl⟩
    refine tMo ?_ ?_
    ·obtain ⟨aK, aL⟩ := appM_some.1 aY
     refine tf rfl rfl (fun a hf => e_append 3 et_43 hf hm rfl (hm.now h3) rfl rfl rfl aK) ?_
     rintro aJ w hm
     rw [aL] at hm
     exact tAk hm [1, 0] rfl fun hS => tUse hT2_9 fun a hf => ⟨ao, aJ, hf.sb rfl, hm.pk [0, 1, 2, 3] rfl rfl⟩
    refine tO (tf rfl rfl (fun a hf => e_alloc hm zeroValue63 rfl rfl) ?_)
    rintro _ w ⟨aM, rfl, hm⟩
    exact tAk hm [2, 1] rfl fun hS => tUse hT2_8 fun a hf => ⟨aM, ao, bK, hf.sb rfl, hm.pk [1, 2, 0, 3, 4] rfl rfl⟩
   refine tSh (od175_12) (fun a w => ∃ (bL : Nat) (bM : Value), St 74 [(1, (pV aB)), (2, (pV aC)), (3, (pV bL)), (7, bM), (10, (nV b_.jump)), (12, (nV b_.on)), (15, v3)] w0 (hp w0) [blk aB [v1, v2, nV b_.jump, nV b_.on, v3] 63, blk aC [.slice none 0 0, .slice none 0 0, nV 0, nV 0, .slice none 0 0] 63, blk bL [.slice none 0 0, .slice none 0 0, nV 0, nV 0, .slice none 0 0] 63, ow [bM] ([] : List Phi_)] a w) ?_ fun hT2_17 => ?_
   ·rintro a w ⟨bL, bM, hf, hm⟩
    refine tSv hf hm [1, 0] rfl fun hS => tMo ?_ ?_
    ·refine tf rfl rfl (fun a hf => e_build0 (α := Ins_) et_61 hm rfl) ?_
     rintro aE w hm
     exact tAk hm [2, 1] rfl fun hS => tUse hT2_12 fun a hf => ⟨bL, bM, aE, hf.sb rfl, hm.pk [1, 2, 3, 4, 0] rfl rfl⟩
    refine tO (tf rfl rfl (fun a hf => e_build0 (α := Int) et_43 hm rfl) ?_)
    rintro aJ w hm
    exact tAk hm [2, 1] rfl fun hS => tUse hT2_10 fun a hf => ⟨bL, bM, aJ, hf.sb rfl, hm.pk [1, 2, 3, 4, 0] rfl rfl⟩
   refine tSh (od175_11) (fun a w => ∃ (ap bN : Value), St 74 [(1, (pV aB)), (2, (pV aC)), (7, ap), (10, (nV b_.jump)), (12, (nV b_.on)), (13, bN), (15, v3)] w0 (hp w0) [blk aB [v1, v2, nV b_.jump, nV b_.on, v3] 63, blk aC [.slice none 0 0, .slice none 0 0, nV 0, nV 0, .slice none 0 0] 63, ow [ap] ([] : List Phi_), ow [bN] ([] : List Int)] a w) ?_ fun hT2_18 => ?_
   ·rintro a w ⟨ap, bN, hf, hm⟩
    refine tSv hf hm [1, 0] rfl fun hS => tMo ?_ ?_
    ·refine tf rfl rfl (fun a hf => e_build0 (α := Ins_) et_61 hm rfl) ?_
     rintro aE w hm
     exact tAk hm [2, 1] rfl fun hS => tUse hT2_13 fun a hf => ⟨ap, aE, bN, hf.sb rfl, hm.pk [1, 2, 3, 0, 4] rfl rfl⟩
    refine tMo ?_ ?_
    ·obtain ⟨aK, aL⟩ := appM_some.1 aY
     refine tf rfl rfl (fun a hf => e_append 3 et_43 hf hm rfl (hm.now h3) rfl rfl rfl aK) ?_
     rintro aJ w hm
     rw [aL] at hm
     exact tAk hm [1, 0] rfl fun hS => tUse hT2_11 fun a hf => ⟨ap, aJ, hf.sb rfl, hm.pk [0, 1, 2, 3] rfl rfl⟩
    refine tO (tf rfl rfl (fun a hf => e_alloc hm zeroValue63 rfl rfl) ?_)
    rintro _ w ⟨aM, rfl, hm⟩
    exact tAk hm [2, 1] rfl fun hS => tUse hT2_10 fun a hf => ⟨aM, ap, bN, hf.sb rfl, hm.pk [1, 2, 0, 3, 4] rfl rfl⟩
   refine tSh (od175_10) (fun a w => ∃ (bO bP : Value), St 74 [(1, (pV aB)), (2, (pV aC)), (7, bO), (8, bP), (10, (nV b_.jump)), (12, (nV b_.on)), (15, v3)] w0 (hp w0) [blk aB [v1, v2, nV b_.jump, nV b_.on, v3] 63, blk aC [.slice none 0 0, .slice none 0 0, nV 0, nV 0, .slice none 0 0] 63, ow [bO] ([] : List Phi_), ow [bP] ([] : List Ins_)] a w) ?_ fun hT2_19 => ?_
   ·rintro a w ⟨bO, bP, hf, hm⟩
    refine tSv hf hm [1, 0] rfl fun hS => tMo ?_ ?_
    ·refine tf rfl rfl (fun a hf => e_build0 (α := Int) et_43 hm rfl) ?_
     rintro aE w hm
     exact tAk hm [2, 1] rfl fun hS => tUse hT2_13 fun a hf => ⟨bO, bP, aE, hf.sb rfl, hm.pk [1, 2, 3, 4, 0] rfl rfl⟩
    refine tO (tf rfl rfl (fun a hf => e_alloc hm zeroValue63 rfl rfl) ?_)
    rintro _ w ⟨aM, rfl, hm⟩
    exact tAk hm [2, 1] rfl fun hS => tUse hT2_12 fun a hf => ⟨aM, bO, bP, hf.sb rfl, hm.pk [1, 2, 0, 3, 4] rfl rfl⟩
   refine tMo ?_ ?_
   ·refine tf rfl rfl (fun a hf => e_build0 (α := Phi_) et_60 hm rfl) ?_
    rintro aE w hm
    refine tAk hm [1, 2] rfl fun hS => tMo ?_ ?_
    ·refine tf rfl rfl (fun a hf => e_build0 (α := Ins_) et_61 hm rfl) ?_
     rintro aJ w hm
     exact tAk hm [2, 3] rfl fun hS => tUse hT2_19 fun a hf => ⟨aE, aJ, hf.sb rfl, hm.pk [3, 2, 1, 0] rfl rfl⟩
    refine tMo ?_ ?_
    ·refine tf rfl rfl (fun a hf => e_build0 (α := Int) et_43 hm rfl) ?_
     rintro cG w hm
     exact tAk hm [2, 3] rfl fun hS => tUse hT2_18 fun a hf => ⟨aE, cG, hf.sb rfl, hm.pk [3, 2, 1, 0] rfl rfl⟩
    refine tO (tf rfl rfl (fun a hf => e_alloc hm zeroValue63 rfl rfl) ?_)
    rintro _ w ⟨aM, rfl, hm⟩
    exact tAk hm [2, 3] rfl fun hS => tUse hT2_17 fun a hf => ⟨aM, aE, hf.sb rfl, hm.pk [3, 2, 0, 1] rfl rfl⟩
   refine tMo ?_ ?_
   ·refine tf rfl rfl (fun a hf => e_build0 (α := Ins_) et_61 hm rfl) ?_
    rintro cH w hm
    refine tAk hm [1, 2] rfl fun hS => tMo ?_ ?_
    ·refine tf rfl rfl (fun a hf => e_build0 (α := Phi_) et_60 hm rfl) ?_
     rintro cU w hm
     exact tAk hm [2, 3] rfl fun hS => tUse hT2_19 fun a hf => ⟨cU, cH, hf.sb rfl, hm.pk [3, 2, 0, 1] rfl rfl⟩
    refine tMo ?_ ?_
    ·refine tf rfl rfl (fun a hf => e_build0 (α := Int) et_43 hm rfl) ?_
     rintro cV w hm
     exact tAk hm [2, 3] rfl fun hS => tUse hT2_16 fun a hf => ⟨cH, cV, hf.sb rfl, hm.pk [3, 2, 1, 0] rfl rfl⟩
    refine tO (tf rfl rfl (fun a hf => e_alloc hm zeroValue63 rfl rfl) ?_)
    rintro _ w ⟨cW, rfl, hm⟩
    exact tAk hm [2, 3] rfl fun hS => tUse hT2_15 fun a hf => ⟨cW, cH, hf.sb rfl, hm.pk [3, 2, 0, 1] rfl rfl⟩
   refine tMo ?_ ?_
   ·refine tf rfl rfl (fun a hf => e_build0 (α := Int) et_43 hm rfl) ?_
    rintro cI w hm
    refine tAk hm [1, 2] rfl fun hS => tMo ?_ ?_
    ·refine tf rfl rfl (fun a hf => e_build0 (α := Phi_) et_60 hm rfl) ?_
     rintro cX w hm
     exact tAk hm [2, 3] rfl fun hS => tUse hT2_18 fun a hf => ⟨cX, cI, hf.sb rfl, hm.pk [3, 2, 0, 1] rfl rfl⟩
    refine tMo ?_ ?_
    ·refine tf rfl rfl (fun a hf => e_build0 (α := Ins_) et_61 hm rfl) ?_
     rintro cY w hm
     exact tAk hm [2, 3] rfl fun hS => tUse hT2_16 fun a hf => ⟨cY, cI, hf.sb rfl, hm.pk [3, 2, 0, 1] rfl rfl⟩
    refine tMo ?_ ?_
    ·obtain ⟨aK, aL⟩ := appM_some.1 aY
     refine tf rfl rfl (fun a hf => e_append 0 et_43 hf hm rfl (hm.now h3) rfl rfl rfl aK) ?_
     rintro cJ w hm
     rw [aL] at hm
     refine tAk hm [1, 2] rfl fun hS => tMo ?_ ?_
     ·refine tf rfl rfl (fun a hf => e_build0 (α := Phi_) et_60 hm rfl) ?_
      rintro cZ w hm
      exact tAk hm [2, 3] rfl fun hS => tUse hT2_11 fun a hf => ⟨cZ, cJ, hf.sb rfl, hm.pk [3, 2, 0, 1] rfl rfl⟩
     refine tMo ?_ ?_
     ·refine tf rfl rfl (fun a hf => e_build0 (α := Ins_) et_61 hm rfl) ?_
      rintro c5 w hm
      exact tAk hm [2, 3] rfl fun hS => tUse hT2_9 fun a hf => ⟨c5, cJ, hf.sb rfl, hm.pk [3, 2, 0, 1] rfl rfl⟩
     refine tO (tf rfl rfl (fun a hf => e_alloc hm zeroValue63 rfl rfl) ?_)
     rintro _ w ⟨c6, rfl, hm⟩
     exact tAk hm [2, 3] rfl fun hS => tUse hT2_7 fun a hf => ⟨c6, cJ, hf.sb rfl, hm.pk [3, 2, 0, 1] rfl rfl⟩
    refine tO (tf rfl rfl (fun a hf => e_alloc hm zeroValue63 rfl rfl) ?_)
    rintro _ w ⟨c7, rfl, hm⟩
    exact tAk hm [2, 3] rfl fun hS => tUse hT2_14 fun a hf => ⟨c7, cI, hf.sb rfl, hm.pk [3, 2, 0, 1] rfl rfl⟩
   refine tO (tf rfl rfl (fun a hf => e_alloc hm zeroValue63 rfl rfl) ?_)
   rintro _ w ⟨cK, rfl, hm⟩
   refine tAk hm [1, 2] rfl fun hS => tMo ?_ ?_
   ·refine tf rfl rfl (fun a hf => e_build0 (α := Phi_) et_60 hm rfl) ?_
    rintro c8 w hm
    exact tAk hm [2, 3] rfl fun hS => tUse hT2_17 fun a hf => ⟨cK, c8, hf.sb rfl, hm.pk [3, 2, 1, 0] rfl rfl⟩
   refine tMo ?_ ?_
   ·refine tf rfl rfl (fun a hf => e_build0 (α := Ins_) et_61 hm rfl) ?_
    rintro c9 w hm
    exact tAk hm [2, 3] rfl fun hS => tUse hT2_15 fun a hf => ⟨cK, c9, hf.sb rfl, hm.pk [3, 2, 1, 0] rfl rfl⟩
   refine tO (tf rfl rfl (fun a hf => e_build0 (α := Int) et_43 hm rfl) ?_)
   rintro ca w hm
   exact tAk hm [2, 3] rfl fun hS => tUse hT2_14 fun a hf => ⟨cK, ca, hf.sb rfl, hm.pk [3, 2, 1, 0] rfl rfl⟩
  repeat clear hm
  rintro aD a w ⟨aI, bu, bv, bx, hf, hm⟩
  refine gv hf (gS (gS (gR (gA rfl (gE ?_)))))
  obtain ⟨cb, cd, rfl, dA⟩ := ro_slice (hm.ow_rep 3 rfl)
  obtain ⟨aP, aQ, rfl, dB⟩ := ro_slice (hm.ow_rep 4 rfl)
  obtain ⟨aF, aG, rfl, dC⟩ := ro_slice (hm.ow_rep 5 rfl)
  refine gBk (gNg (fun cM aZ a w => ∃ (aR : Value), St 74 [(1, (pV aB)), (2, (pV aC)), (3, (pV aI)), (4, (nV cM))] w0 (hp w0) [blk aB [v1, v2, nV b_.jump, nV b_.on, v3] 63, blk aC [.slice none 0 0, .slice none 0 0, nV 0, nV 0, .slice none 0 0] 63, blk aI [aR, .slice aP ([] : List Ins_).length aQ, nV b_.jump, nV b_.on, .slice aF aD.length aG] 63, ow [aR] aZ, ow [.slice aP ([] : List Ins_).length aQ] ([] : List Ins_), ow [.slice aF aD.length aG] aD] a w) (fun a hf => ⟨.slice cb ([] : List Phi_).length cd, hf.sb rfl, hm.pk [0, 1, 2, 3, 4, 5] rfl rfl⟩) ?_ ?_)
  ·repeat clear hm
   rintro _ _ cM aZ a w ⟨aR, hf, hm⟩ dD dE dF _
   refine gv hf (gS (gS (gR (gM rfl (gF fo_63_0 rfl (gL hm 0 isAgg60 rfl ?_))))))
   obtain ⟨ce, bQ, rfl, dG⟩ := ro_slice h1
   refine gY (yV st_60 rfl) (gB rfl (gE (go _ 22 rfl (decide_eq_true (by omega)) (gct rfl (gSk (gS (gBk (gW (.p 0 (.p 2 (.p 4 (.p 9 (.p 11 (.q 1 (.q 3 (.p 5 (.p 6 (.q 7 (.q 10 (.p 12 (.p 13 (.q 14 (.e 8 (.e 15 (.p 16 (.e 17 (.e 18 (.p 19 (.e 20 .fin .nil)) .nil) .nil)) .nil) .nil))))))))))))))) [1, 3, 7, 8, 10, 14, 15, 17] [0, 2, 4, 5, 6, 9, 11, 12, 13, 16, 19] hm [0, 1, 2, 3, 4, 5] [blk aB [.slice ce b_.phis.length bQ, v2, nV b_.jump, nV b_.on, v3] 63, blk aC [.slice none 0 0, .slice none 0 0, nV 0, nV 0, .slice none 0 0] 63, blk aI [aR, .slice aP ([] : List Ins_).length aQ, nV b_.jump, nV b_.on, .slice aF aD.length aG] 63, ow [aR] aZ, ow [.slice aP ([] : List Ins_).length aQ] ([] : List Ins_), ow [.slice aF aD.length aG] aD] rfl mxo (by kernel_rfl) (fun _ _ _ h => h.2) fun w hm hS => tP rfl (fun w => yF fo_63_0 rfl) (tP rfl (fun w => yF fo_63_0 rfl) (tP rfl (fun w => yM rfl) (tP rfl (fun w => yF fo_63_0 rfl) (tP rfl (fun w => yM rfl) (tQ rfl hS (fun w hm => yL hm 2 isAgg60 rfl) (tQ rfl hS (fun w hm => yL hm 0 isAgg60 rfl) (gg fun aO cN bp => ?_)))))))))))))))
   obtain ⟨bq, br, dH, he⟩ := idx_form' h1 bp
   obtain ⟨rfl, _, rfl⟩ := sl3 he
   obtain ⟨dI, cO, cf⟩ := rk_Phi_ h1 bp
   refine tP rfl (fun w => yI st_60 cN (idx_lt bp) rfl) (tP rfl (fun w => yF fo_127_0 rfl) (tQ rfl hS (fun w hm => yl isAgg3 ((cO.mono hm.lez).cell (j := 0) rfl) rfl) (tQ rfl hS (fun w hm => yL hm 0 isAgg60 rfl) (tP rfl (fun w => yI st_60 cN (idx_lt bp) rfl) (tP rfl (fun w => yF fo_127_1 rfl) (tQ rfl hS (fun w hm => yl isAgg43 ((cO.mono hm.lez).cell (j := 1) rfl) rfl) (tO (tf rfl rfl (fun a hf => e_build0 (α := Int) et_43 hm rfl) ?_))))))))
   rintro dJ w hm
   refine tAk hm [1, 2, 3, 4, 5, 6] rfl fun hS => tO (gb fun aS cg => ?_)
   obtain ⟨ci, cj⟩ := appM_some.1 cg
   refine tf rfl rfl (fun a hf => e_append 0 et_43 hf hm rfl (hm.now cf) rfl rfl rfl ci) ?_
   rintro dK w hm
   rw [cj] at hm
   refine tAk hm [1, 2, 3, 4, 5, 6] rfl fun hS => ?_
   obtain ⟨aa, ab, rfl, dL⟩ := ro_slice (hm.ow_rep 0 rfl)
   refine tP rfl (fun w => yG rfl (y_build (vs := [(0, (nV aO.to)), (1, (.slice aa aS.length ab))]) (cs := #[nV aO.to, .slice aa aS.length ab]) rfl rfl (by kernel_rfl))) (tO (tf rfl rfl (fun a hf => e_build (vs := #[(0, (.agg #[nV aO.to, .slice aa aS.length ab]))]) (cs := [nV aO.to, .slice aa aS.length ab]) et_60 hf hm rfl rfl (by kernel_rfl) rfl rfl) ?_))
   rintro _ w ⟨bs, rfl, hm⟩
   replace hm := hm.els_nil (α := Phi_)
   replace hm : Mem w0 (hp w0) _ [els [] ([] : List Phi_), blk bs [nV aO.to, .slice aa aS.length ab] 127, ow [nV aO.to, .slice aa aS.length ab] ((⟨aO.to, aS⟩ : Phi_) : Phi_), blk aB [sV bq br b_.phis.length bQ, v2, nV b_.jump, nV b_.on, v3] 63, blk aC [.slice none 0 0, .slice none 0 0, nV 0, nV 0, .slice none 0 0] 63, blk aI [aR, .slice aP ([] : List Ins_).length aQ, nV b_.jump, nV b_.on, .slice aF aD.length aG] 63, ow [aR] aZ, ow [.slice aP ([] : List Ins_).length aQ] ([] : List Ins_), ow [.slice aF aD.length aG] aD] := mk_Phi_ aO.to hm 2 rfl
   replace hm := (hm.els_cons 0 2 (by decide) rfl rfl).pk (L' := [els [nV aO.to, .slice aa aS.length ab] ([(⟨aO.to, aS⟩ : Phi_)] : List Phi_), blk bs [nV aO.to, .slice aa aS.length ab] 127, blk aB [sV bq br b_.phis.length bQ, v2, nV b_.jump, nV b_.on, v3] 63, blk aC [.slice none 0 0, .slice none 0 0, nV 0, nV 0, .slice none 0 0] 63, blk aI [aR, .slice aP ([] : List Ins_).length aQ, nV b_.jump, nV b_.on, .slice aF aD.length aG] 63, ow [aR] aZ, ow [.slice aP ([] : List Ins_).length aQ] ([] : List Ins_), ow [.slice aF aD.length aG] aD]) [0, 1, 3, 4, 5, 6, 7, 8] rfl rfl
   replace hm := (hm.lit_els 1 0 (by decide) rfl rfl rfl rfl).pk (L' := [ow [sV bs 0 1 1] ([(⟨aO.to, aS⟩ : Phi_)] : List Phi_), blk aB [sV bq br b_.phis.length bQ, v2, nV b_.jump, nV b_.on, v3] 63, blk aC [.slice none 0 0, .slice none 0 0, nV 0, nV 0, .slice none 0 0] 63, blk aI [aR, .slice aP ([] : List Ins_).length aQ, nV b_.jump, nV b_.on, .slice aF aD.length aG] 63, ow [aR] aZ, ow [.slice aP ([] : List Ins_).length aQ] ([] : List Ins_), ow [.slice aF aD.length aG] aD]) [1, 2, 3, 4, 5, 6, 7] rfl rfl
   refine tAk hm [1, 2, 3, 4, 5, 6] rfl fun hS => tO (gb fun dM ck => ?_)
   obtain ⟨cl, cm⟩ := appM_some.1 ck
   replace hm := (hm.both 4 0 (by decide) rfl rfl).pk (L' := [blk aB [sV bq br b_.phis.length bQ, v2, nV b_.jump, nV b_.on, v3] 63, blk aC [.slice none 0 0, .slice none 0 0, nV 0, nV 0, .slice none 0 0] 63, blk aI [aR, .slice aP ([] : List Ins_).length aQ, nV b_.jump, nV b_.on, .slice aF aD.length aG] 63, both (ow [aR] aZ) (ow [sV bs 0 1 1] ([(⟨aO.to, aS⟩ : Phi_)] : List Phi_)), ow [.slice aP ([] : List Ins_).length aQ] ([] : List Ins_), ow [.slice aF aD.length aG] aD]) [1, 2, 3, 4, 5, 6] rfl rfl
   refine tf rfl rfl (fun a hf => e_appendD (xs := aZ) (ys := ([(⟨aO.to, aS⟩ : Phi_)] : List Phi_)) 3 et_60 hf hm rfl rfl rfl rfl cl) ?_
   rintro cn w hm
   rw [cm] at hm
   refine tAn rfl (tP rfl (fun w => yF fo_63_0 rfl) (tO (tf0 rfl rfl (fun a hf => e_store1 2 hf hm rfl sizeOf60 rfl rfl rfl (rep_one (hm.ow_rep 3 rfl)) rfl) ?_)))
   rintro _ w hm
   exact tAn rfl (tE (gR (gM rfl (gP (by omega) (by omega) rfl (gA rfl (gE (gZe fun a hf => ⟨cn, hf.sb rfl, hm.pk [0, 1, 2, 3, 4, 5] rfl rfl⟩)))))))
  repeat clear hm
  rintro dN aH a w ⟨dO, hf, hm⟩ dP dQ
  refine gv hf (gS (gS (gR (gM rfl (gF fo_63_0 rfl (gL hm 0 isAgg60 rfl ?_))))))
  obtain ⟨aq, ar, rfl, dR⟩ := ro_slice h1
  refine gY (yV st_60 rfl) (gB rfl (gE (go _ 22 rfl (decide_eq_false (by omega)) (gcf rfl (gXt (gHh (gS (gS (gR (gA rfl (gE ?_)))))))))))
  obtain ⟨aT, aV, rfl, dS⟩ := ro_slice (hm.ow_rep 3 rfl)
  refine gBk (gNg (fun cP ac a w => ∃ (aW : Value), St 74 [(1, (pV aB)), (2, (pV aC)), (3, (pV aI)), (5, (nV cP))] w0 (hp w0) [blk aB [.slice aq b_.phis.length ar, v2, nV b_.jump, nV b_.on, v3] 63, blk aC [.slice none 0 0, .slice none 0 0, nV 0, nV 0, .slice none 0 0] 63, blk aI [.slice aT aH.length aV, aW, nV b_.jump, nV b_.on, .slice aF aD.length aG] 63, ow [.slice aT aH.length aV] aH, ow [aW] ac, ow [.slice aF aD.length aG] aD] a w) (fun a hf => ⟨.slice aP ([] : List Ins_).length aQ, hf.sb rfl, hm.pk [0, 1, 2, 3, 4, 5] rfl rfl⟩) ?_ ?_)
  ·repeat clear hm
   rintro _ _ cP ac a w ⟨aW, hf, hm⟩ dT dU dV _
   refine gv hf (gS (gS (gR (gM rfl (gF fo_63_1 rfl (gL hm 0 isAgg61 rfl ?_))))))
   obtain ⟨dW, bR, rfl, dX⟩ := ro_slice h2
   refine gY (yV st_61 rfl) (gB rfl (gE (go _ 49 rfl (decide_eq_true (by omega)) (gct rfl (gSk (gS (gBk (gS (gR (gF fo_63_1 rfl (gL hm 0 isAgg61 rfl (gM rfl (gg fun aA co cL => ?_)))))))))))))
   obtain ⟨bS, bT, dY, he⟩ := idx_form' h2 cL
   obtain ⟨rfl, _, rfl⟩ := sl3 he
   obtain ⟨bU, cq, cQ⟩ := rk_Ins_ h2 cL
   refine gI st_61 co (idx_lt cL) rfl (gY (yn (cq.mono hm.lez) isAgg65 sizeOf65 rfl) (gAl hm zeroValue65 rfl fun bV w hm => gSN hm 0 sizeOf65 (one_cons rfl (one_cons rfl (one_cons (rep_one cQ) (one_cons rfl one_nil)))) rfl fun w hm => gE (gW (.p 0 (.p 2 (.p 4 (.p 7 (.p 10 (.q 1 (.q 3 (.q 5 (.q 8 (.q 11 (.e 6 (.e 9 (.p 12 (.e 13 (.e 14 (.p 15 (.e 16 .fin .nil)) .nil) .nil)) .nil) .nil))))))))))) [1, 3, 5, 6, 8, 9, 11, 13] [0, 2, 4, 7, 10, 12, 15] hm [0, 1, 2, 3, 4, 5, 6] [blk bV [nV aA.op, nV aA.to, bU, nV aA.n_] 65, blk aB [.slice aq b_.phis.length ar, sV bS bT b_.ins.length bR, nV b_.jump, nV b_.on, v3] 63, blk aC [.slice none 0 0, .slice none 0 0, nV 0, nV 0, .slice none 0 0] 63, blk aI [.slice aT aH.length aV, aW, nV b_.jump, nV b_.on, .slice aF aD.length aG] 63, ow [.slice aT aH.length aV] aH, ow [aW] ac, ow [.slice aF aD.length aG] aD] rfl mxo (by kernel_rfl) (fun _ _ _ h => h.2) fun w hm hS => tP rfl (fun w => yF fo_63_1 rfl) (tP rfl (fun w => yF fo_65_0 rfl) (tP rfl (fun w => yF fo_65_1 rfl) (tP rfl (fun w => yF fo_65_2 rfl) (tP rfl (fun w => yF fo_65_3 rfl) (tQ rfl hS (fun w hm => yL hm 3 isAgg61 rfl) (tQ rfl hS (fun w hm => yL hm 0 isAgg3 rfl) (tQ rfl hS (fun w hm => yL hm 0 isAgg3 rfl) (tQ rfl hS (fun w hm => yL hm 0 isAgg43 rfl) (tQ rfl hS (fun w hm => yL hm 0 isAgg3 rfl) (tO (tf rfl rfl (fun a hf => e_build0 (α := Int) et_43 hm rfl) ?_))))))))))))))
   rintro dZ w hm
   refine tAk hm [1, 2, 3, 4, 5, 6, 7] rfl fun hS => tO (gb fun aX cr => ?_)
   obtain ⟨ct, cu⟩ := appM_some.1 cr
   refine tf rfl rfl (fun a hf => e_append 0 et_43 hf hm rfl (hm.now cQ) rfl rfl rfl ct) ?_
   rintro d4 w hm
   rw [cu] at hm
   refine tAk hm [1, 2, 3, 4, 5, 6, 7] rfl fun hS => ?_
   obtain ⟨ae, af, rfl, d5⟩ := ro_slice (hm.ow_rep 0 rfl)
   refine tP rfl (fun w => yG rfl (y_build (vs := [(0, (nV aA.op)), (1, (nV aA.to)), (2, (.slice ae aX.length af)), (3, (nV aA.n_))]) (cs := #[nV aA.op, nV aA.to, .slice ae aX.length af, nV aA.n_]) rfl rfl (by kernel_rfl))) (tO (tf rfl rfl (fun a hf => e_build (vs := #[(0, (.agg #[nV aA.op, nV aA.to, .slice ae aX.length af, nV aA.n_]))]) (cs := [nV aA.op, nV aA.to, .slice ae aX.length af, nV aA.n_]) et_61 hf hm rfl rfl (by kernel_rfl) rfl rfl) ?_))
   rintro _ w ⟨bt, rfl, hm⟩
   replace hm := hm.els_nil (α := Ins_)
   replace hm : Mem w0 (hp w0) _ [els [] ([] : List Ins_), blk bt [nV aA.op, nV aA.to, .slice ae aX.length af, nV aA.n_] 65, ow [nV aA.op, nV aA.to, .slice ae aX.length af, nV aA.n_] ((⟨aA.op, aA.to, aX, aA.n_⟩ : Ins_) : Ins_), blk bV [nV aA.op, nV aA.to, bU, nV aA.n_] 65, blk aB [.slice aq b_.phis.length ar, sV bS bT b_.ins.length bR, nV b_.jump, nV b_.on, v3] 63, blk aC [.slice none 0 0, .slice none 0 0, nV 0, nV 0, .slice none 0 0] 63, blk aI [.slice aT aH.length aV, aW, nV b_.jump, nV b_.on, .slice aF aD.length aG] 63, ow [.slice aT aH.length aV] aH, ow [aW] ac, ow [.slice aF aD.length aG] aD] := mk_Ins_ aA.op aA.to aA.n_ hm 2 rfl
   replace hm := (hm.els_cons 0 2 (by decide) rfl rfl).pk (L' := [els [nV aA.op, nV aA.to, .slice ae aX.length af, nV aA.n_] ([(⟨aA.op, aA.to, aX, aA.n_⟩ : Ins_)] : List Ins_), blk bt [nV aA.op, nV aA.to, .slice ae aX.length af, nV aA.n_] 65, blk bV [nV aA.op, nV aA.to, bU, nV aA.n_] 65, blk aB [.slice aq b_.phis.length ar, sV bS bT b_.ins.length bR, nV b_.jump, nV b_.on, v3] 63, blk aC [.slice none 0 0, .slice none 0 0, nV 0, nV 0, .slice none 0 0] 63, blk aI [.slice aT aH.length aV, aW, nV b_.jump, nV b_.on, .slice aF aD.length aG] 63, ow [.slice aT aH.length aV] aH, ow [aW] ac, ow [.slice aF aD.length aG] aD]) [0, 1, 3, 4, 5, 6, 7, 8, 9] rfl rfl
   replace hm := (hm.lit_els 1 0 (by decide) rfl rfl rfl rfl).pk (L' := [ow [sV bt 0 1 1] ([(⟨aA.op, aA.to, aX, aA.n_⟩ : Ins_)] : List Ins_), blk bV [nV aA.op, nV aA.to, bU, nV aA.n_] 65, blk aB [.slice aq b_.phis.length ar, sV bS bT b_.ins.length bR, nV b_.jump, nV b_.on, v3] 63, blk aC [.slice none 0 0, .slice none 0 0, nV 0, nV 0, .slice none 0 0] 63, blk aI [.slice aT aH.length aV, aW, nV b_.jump, nV b_.on, .slice aF aD.length aG] 63, ow [.slice aT aH.length aV] aH, ow [aW] ac, ow [.slice aF aD.length aG] aD]) [1, 2, 3, 4, 5, 6, 7, 8] rfl rfl
   refine tAk hm [1, 2, 3, 4, 5, 6, 7] rfl fun hS => tO (gb fun d6 cv => ?_)
   obtain ⟨cw, cx⟩ := appM_some.1 cv
   replace hm := (hm.both 6 0 (by decide) rfl rfl).pk (L' := [blk bV [nV aA.op, nV aA.to, bU, nV aA.n_] 65, blk aB [.slice aq b_.phis.length ar, sV bS bT b_.ins.length bR, nV b_.jump, nV b_.on, v3] 63, blk aC [.slice none 0 0, .slice none 0 0, nV 0, nV 0, .slice none 0 0] 63, blk aI [.slice aT aH.length aV, aW, nV b_.jump, nV b_.on, .slice aF aD.length aG] 63, ow [.slice aT aH.length aV] aH, both (ow [aW] ac) (ow [sV bt 0 1 1] ([(⟨aA.op, aA.to, aX, aA.n_⟩ : Ins_)] : List Ins_)), ow [.slice aF aD.length aG] aD]) [1, 2, 3, 4, 5, 6, 7] rfl rfl
   refine tf rfl rfl (fun a hf => e_appendD (xs := ac) (ys := ([(⟨aA.op, aA.to, aX, aA.n_⟩ : Ins_)] : List Ins_)) 5 et_61 hf hm rfl rfl rfl rfl cw) ?_
   rintro cy w hm
   rw [cx] at hm
   refine tAn rfl (tP rfl (fun w => yF fo_63_1 rfl) (tO (tf0 rfl rfl (fun a hf => e_store1 3 hf hm rfl sizeOf61 rfl rfl rfl (rep_one (hm.ow_rep 5 rfl)) rfl) ?_)))
   rintro _ w hm
   exact tAn rfl (tE (gR (gM rfl (gP (by omega) (by omega) rfl (gA rfl (gE (gZe fun a hf => ⟨cy, hf.sb rfl, hm.pk [1, 2, 3, 4, 5, 6] rfl rfl⟩)))))))
  repeat clear hm
  rintro d7 d8 a w ⟨cz, hf, hm⟩ d9 da
  refine gv hf (gS (gS (gR (gM rfl (gF fo_63_1 rfl (gL hm 0 isAgg61 rfl ?_))))))
  obtain ⟨db, dc, rfl, dd⟩ := ro_slice h2
  exact gY (yV st_61 rfl) (gB rfl (gE (go _ 49 rfl (decide_eq_false (by omega)) (gcf rfl (gXt (gHh (gS (gR (gY (yn (hm.blk_at 2 rfl) isAgg63 sizeOf63 rfl) (gSN hm 1 sizeOf63 (one_cons rfl (one_cons (rep_one (hm.ow_rep 4 rfl)) (one_cons rfl (one_cons rfl (one_cons rfl one_nil))))) rfl fun w hm => gE (gRt (grc 1 results175 hm rfl isAgg63 sizeOf63 ⟨.slice aT aH.length aV, cz, .slice aF aD.length aG, rfl, hm.pk [3, 4, 5] rfl rfl⟩))))))))))))
theorem spec_l7Copy_ok (w0 : World) (c_ : Code_) (v1 : Value) (h1 : GT.rep (hp w0) [v1] c_.blocks) :
    ConM Tryz.prog 106 [(.agg #[nV c_.params, nV c_.regs, v1])] w0 (spec_l7Copy c_) fun r v w' => ∃ (x1 : Value), v = (.agg #[nV r.params, nV r.regs, x1]) ∧ Mem w0 (hp w0) w' [ow [x1] r.blocks] := by
  unfold spec_l7Copy
  refine gcon func106 rfl fun r => ?_
  have hm := Mem.start w0
  refine gS (gR (gBx hm rfl fun aD w hm => gAl hm zeroValue49 rfl fun aE w hm => gE (gS (gR (gF fo_49_0 rfl (gL hm 1 isAgg3 rfl (gF fo_49_1 rfl (gL hm 1 isAgg3 rfl (gY (yG rfl (y_build (vs := [(0, (nV c_.params)), (1, (nV c_.regs))]) (cs := #[nV c_.params, nV c_.regs, .slice none 0 0]) rfl rfl (by kernel_rfl))) (gAl hm zeroValue49 rfl fun aF w hm => gSN hm 0 sizeOf49 (one_cons rfl (one_cons rfl (one_cons rfl one_nil))) rfl fun w hm => gE (gS (gS (gR (gA rfl (gE (gBk ?_))))))))))))))))
  replace hm := hm.nilow (α := Block_)
  refine gNg (fun aO aC a w => ∃ (aB : Value), St 29 [(1, (pV aD)), (2, (pV aE)), (3, (pV aF)), (4, (nV aO))] w0 (hp w0) [blk aD [nV c_.params, nV c_.regs, v1] 49, blk aE [nV 0, nV 0, .slice none 0 0] 49, blk aF [nV c_.params, nV c_.regs, aB] 49, ow [aB] aC] a w) (fun a hf => ⟨.slice none 0 0, hf.sb rfl, hm.pk [3, 2, 1, 0] rfl rfl⟩) ?_ ?_
  ·repeat clear hm
   rintro _ _ aO aC a w ⟨aB, hf, hm⟩ ai aj ak _
   refine gv hf (gS (gS (gR (gM rfl (gF fo_49_2 rfl (gL hm 0 isAgg47 rfl ?_))))))
   obtain ⟨aP, aJ, rfl, al⟩ := ro_slice h1
   refine gY (yV st_47 rfl) (gB rfl (gE (go _ 14 rfl (decide_eq_true (by omega)) (gct rfl (gSk (gS (gBk (gW (.p 0 (.p 2 (.p 4 (.q 1 (.e 3 (.p 5 (.e 6 (.e 7 (.e 8 (.e 9 (.p 10 (.e 11 .fin .nil)) .nil) .nil) .nil) .nil)) .nil))))) [3, 6, 7, 8] [0, 2, 4, 5, 10] hm [0, 1, 2, 3] [blk aD [nV c_.params, nV c_.regs, .slice aP c_.blocks.length aJ] 49, blk aE [nV 0, nV 0, .slice none 0 0] 49, blk aF [nV c_.params, nV c_.regs, aB] 49, ow [aB] aC] rfl mxo (by kernel_rfl) (fun _ _ _ h => h.2) fun w hm hS => tP rfl (fun w => yF fo_49_2 rfl) (tP rfl (fun w => yF fo_49_2 rfl) (tP rfl (fun w => yM rfl) (tQ rfl hS (fun w hm => yL hm 2 isAgg47 rfl) (tO (tY rfl (yL hm 0 isAgg47 rfl) (tAs hS (gg fun aQ aR aN => ?_)))))))))))))))
   obtain ⟨aK, aL, am, he⟩ := idx_form' h1 aN
   obtain ⟨rfl, _, rfl⟩ := sl3 he
   obtain ⟨aS, aT, aV, aW, aX, aY, aZ⟩ := rk_Block_ h1 aN
   refine tP rfl (fun w => yI st_47 aR (idx_lt aN) rfl) (tO (tY rfl (yn (aW.mono hm.lez) isAgg63 sizeOf63 rfl) (tAs hS (tO (gb fun aA aa => tf rfl rfl (fun a hf => e_call hf rfl call175 rfl (spec_l7CopyBlock_ok _ aQ aS (hm.now aX) aT (hm.now aY) aV (hm.now aZ) _ aa)) ?_)))))
   rintro an w ⟨aG, aH, aI, rfl, hB⟩
   replace hm := hm.give hB; clear hB
   refine tAk hm [3, 4, 5, 6] rfl fun hS => tO (tf rfl rfl (fun a hf => e_build (vs := #[(0, (.agg #[aG, aH, nV aA.jump, nV aA.on, aI]))]) (cs := [aG, aH, nV aA.jump, nV aA.on, aI]) et_47 hf hm rfl rfl (by kernel_rfl) rfl rfl) ?_)
   rintro _ w ⟨aM, rfl, hm⟩
   replace hm := hm.els_nil (α := Block_)
   replace hm := (mk_Block_ aA.jump aA.on hm 2 3 4 rfl).pk (L' := [els [] ([] : List Block_), blk aM [aG, aH, nV aA.jump, nV aA.on, aI] 63, ow [aG, aH, nV aA.jump, nV aA.on, aI] (aA : Block_), blk aD [nV c_.params, nV c_.regs, sV aK aL c_.blocks.length aJ] 49, blk aE [nV 0, nV 0, .slice none 0 0] 49, blk aF [nV c_.params, nV c_.regs, aB] 49, ow [aB] aC]) [0, 1, 2, 5, 6, 7, 8] rfl rfl
   replace hm := (hm.els_cons 0 2 (by decide) rfl rfl).pk (L' := [els [aG, aH, nV aA.jump, nV aA.on, aI] ([aA] : List Block_), blk aM [aG, aH, nV aA.jump, nV aA.on, aI] 63, blk aD [nV c_.params, nV c_.regs, sV aK aL c_.blocks.length aJ] 49, blk aE [nV 0, nV 0, .slice none 0 0] 49, blk aF [nV c_.params, nV c_.regs, aB] 49, ow [aB] aC]) [0, 1, 3, 4, 5, 6] rfl rfl
   replace hm := (hm.lit_els 1 0 (by decide) rfl rfl rfl rfl).pk (L' := [ow [sV aM 0 1 1] ([aA] : List Block_), blk aD [nV c_.params, nV c_.regs, sV aK aL c_.blocks.length aJ] 49, blk aE [nV 0, nV 0, .slice none 0 0] 49, blk aF [nV c_.params, nV c_.regs, aB] 49, ow [aB] aC]) [1, 2, 3, 4, 5] rfl rfl
   refine tAk hm [1, 2, 3, 4] rfl fun hS => tO (gb fun ao ab => ?_)
   obtain ⟨ac, ae⟩ := appM_some.1 ab
   replace hm := (hm.both 4 0 (by decide) rfl rfl).pk (L' := [blk aD [nV c_.params, nV c_.regs, sV aK aL c_.blocks.length aJ] 49, blk aE [nV 0, nV 0, .slice none 0 0] 49, blk aF [nV c_.params, nV c_.regs, aB] 49, both (ow [aB] aC) (ow [sV aM 0 1 1] ([aA] : List Block_))]) [1, 2, 3, 4] rfl rfl
   refine tf rfl rfl (fun a hf => e_appendD (xs := aC) (ys := ([aA] : List Block_)) 3 et_47 hf hm rfl rfl rfl rfl ac) ?_
   rintro af w hm
   rw [ae] at hm
   refine tAn rfl (tP rfl (fun w => yF fo_49_2 rfl) (tO (tf0 rfl rfl (fun a hf => e_store1 2 hf hm rfl sizeOf47 rfl rfl rfl (rep_one (hm.ow_rep 3 rfl)) rfl) ?_)))
   rintro _ w hm
   exact tAn rfl (tE (gR (gM rfl (gP (by omega) (by omega) rfl (gA rfl (gE (gZe fun a hf => ⟨af, hf.sb rfl, hm.pk [0, 1, 2, 3] rfl rfl⟩)))))))
  repeat clear hm
  rintro ap aq a w ⟨ah, hf, hm⟩ ar au
  refine gv hf (gS (gS (gR (gM rfl (gF fo_49_2 rfl (gL hm 0 isAgg47 rfl ?_))))))
  obtain ⟨av, aw, rfl, ax⟩ := ro_slice h1
  exact gY (yV st_47 rfl) (gB rfl (gE (go _ 14 rfl (decide_eq_false (by omega)) (gcf rfl (gXt (gHh (gS (gR (gY (yn (hm.blk_at 2 rfl) isAgg49 sizeOf49 rfl) (gSN hm 1 sizeOf49 (one_cons rfl (one_cons rfl (one_cons (rep_one (hm.ow_rep 3 rfl)) one_nil))) rfl fun w hm => gE (gRt (grc 1 results106 hm rfl isAgg49 sizeOf49 ⟨ah, rfl, hm.pk [3] rfl rfl⟩))))))))))))
end Go.Proofs.YtabgclojkbijbaaGreat
