/- A part of the proof of FnExactCleanUnitSaid. -/
import Derived.Test.YtabgclojkbijbaaGreatCeModels
import Derived.Test.YtabgclojkbijbaaGreatChecked
import Derived.Test.YtabgclojkbijbaaGreatCeLays
import Derived.Test.YtabgclojkbijbaaGreatWkAd
namespace Go.Proofs.YtabgclojkbijbaaGreat
open Go Go.Wk Go.RowKit
set_option maxRecDepth 4000
set_option maxHeartbeats 4000000
open Tryz
theorem mxo : Tryz.prog.follows .mixedOrders = true := by kernel_rfl
theorem fo_24_0 : FieldOff Tryz.prog 24 0 0 := by have h := FieldOff.mk (k := 0) underlying24 rfl sizeOf22; exact h
theorem fo_28_0 : FieldOff Tryz.prog 28 0 0 := by have h := FieldOff.mk (k := 0) underlying28 rfl sizeOf26; exact h
theorem fo_49_0 : FieldOff Tryz.prog 49 0 0 := by have h := FieldOff.mk (k := 0) underlying49 rfl sizeOf3; exact h
theorem fo_49_1 : FieldOff Tryz.prog 49 1 1 := by have h := FieldOff.mk (k := 1) underlying49 rfl sizeOf3; exact h
theorem fo_49_2 : FieldOff Tryz.prog 49 2 2 := by have h := FieldOff.mk (k := 2) underlying49 rfl sizeOf47; exact h
theorem fo_63_0 : FieldOff Tryz.prog 63 0 0 := by have h := FieldOff.mk (k := 0) underlying63 rfl sizeOf60; exact h
theorem fo_63_1 : FieldOff Tryz.prog 63 1 1 := by have h := FieldOff.mk (k := 1) underlying63 rfl sizeOf61; exact h
theorem fo_63_2 : FieldOff Tryz.prog 63 2 2 := by have h := FieldOff.mk (k := 2) underlying63 rfl sizeOf3; exact h
theorem fo_63_3 : FieldOff Tryz.prog 63 3 3 := by have h := FieldOff.mk (k := 3) underlying63 rfl sizeOf3; exact h
theorem fo_63_4 : FieldOff Tryz.prog 63 4 4 := by have h := FieldOff.mk (k := 4) underlying63 rfl sizeOf43; exact h
theorem fo_65_0 : FieldOff Tryz.prog 65 0 0 := by have h := FieldOff.mk (k := 0) underlying65 rfl sizeOf3; exact h
theorem fo_65_1 : FieldOff Tryz.prog 65 1 1 := by have h := FieldOff.mk (k := 1) underlying65 rfl sizeOf3; exact h
theorem fo_65_2 : FieldOff Tryz.prog 65 2 2 := by have h := FieldOff.mk (k := 2) underlying65 rfl sizeOf43; exact h
theorem fo_65_3 : FieldOff Tryz.prog 65 3 3 := by have h := FieldOff.mk (k := 3) underlying65 rfl sizeOf3; exact h
theorem fo_88_0 : FieldOff Tryz.prog 88 0 0 := by have h := FieldOff.mk (k := 0) underlying88 rfl sizeOf3; exact h
theorem fo_88_1 : FieldOff Tryz.prog 88 1 1 := by have h := FieldOff.mk (k := 1) underlying88 rfl sizeOf3; exact h
theorem fo_88_2 : FieldOff Tryz.prog 88 2 2 := by have h := FieldOff.mk (k := 2) underlying88 rfl sizeOf86; exact h
theorem fo_127_0 : FieldOff Tryz.prog 127 0 0 := by have h := FieldOff.mk (k := 0) underlying127 rfl sizeOf3; exact h
theorem fo_127_1 : FieldOff Tryz.prog 127 1 1 := by have h := FieldOff.mk (k := 1) underlying127 rfl sizeOf43; exact h
theorem fo_198_0 : FieldOff Tryz.prog 198 0 0 := by have h := FieldOff.mk (k := 0) underlying198 rfl sizeOf195; exact h
theorem fo_198_1 : FieldOff Tryz.prog 198 1 1 := by have h := FieldOff.mk (k := 1) underlying198 rfl sizeOf196; exact h
theorem fo_198_2 : FieldOff Tryz.prog 198 2 2 := by have h := FieldOff.mk (k := 2) underlying198 rfl sizeOf3; exact h
theorem fo_198_3 : FieldOff Tryz.prog 198 3 3 := by have h := FieldOff.mk (k := 3) underlying198 rfl sizeOf3; exact h
theorem fo_198_4 : FieldOff Tryz.prog 198 4 4 := by have h := FieldOff.mk (k := 4) underlying198 rfl sizeOf43; exact h
theorem fo_275_0 : FieldOff Tryz.prog 275 0 0 := by have h := FieldOff.mk (k := 0) underlying275 rfl sizeOf3; exact h
theorem fo_275_1 : FieldOff Tryz.prog 275 1 1 := by have h := FieldOff.mk (k := 1) underlying275 rfl sizeOf43; exact h
theorem fo_277_0 : FieldOff Tryz.prog 277 0 0 := by have h := FieldOff.mk (k := 0) underlying277 rfl sizeOf3; exact h
theorem fo_277_1 : FieldOff Tryz.prog 277 1 1 := by have h := FieldOff.mk (k := 1) underlying277 rfl sizeOf3; exact h
theorem fo_277_2 : FieldOff Tryz.prog 277 2 2 := by have h := FieldOff.mk (k := 2) underlying277 rfl sizeOf43; exact h
theorem fo_277_3 : FieldOff Tryz.prog 277 3 3 := by have h := FieldOff.mk (k := 3) underlying277 rfl sizeOf3; exact h
theorem st_22 : SliceTy Tryz.prog 22 88 3 := ⟨underlying22, sizeOf88⟩
theorem st_26 : SliceTy Tryz.prog 26 49 3 := ⟨underlying26, sizeOf49⟩
theorem st_43 : SliceTy Tryz.prog 43 3 1 := ⟨underlying43, sizeOf3⟩
theorem st_47 : SliceTy Tryz.prog 47 63 5 := ⟨underlying47, sizeOf63⟩
theorem st_60 : SliceTy Tryz.prog 60 127 2 := ⟨underlying60, sizeOf127⟩
theorem st_61 : SliceTy Tryz.prog 61 65 4 := ⟨underlying61, sizeOf65⟩
theorem st_86 : SliceTy Tryz.prog 86 198 5 := ⟨underlying86, sizeOf198⟩
theorem st_90 : SliceTy Tryz.prog 90 4 1 := ⟨underlying90, sizeOf4⟩
theorem st_116 : SliceTy Tryz.prog 116 122 1 := ⟨underlying116, sizeOf122⟩
theorem st_122 : SliceTy Tryz.prog 122 123 1 := ⟨underlying122, sizeOf123⟩
theorem st_195 : SliceTy Tryz.prog 195 275 2 := ⟨underlying195, sizeOf275⟩
theorem st_196 : SliceTy Tryz.prog 196 277 4 := ⟨underlying196, sizeOf277⟩
theorem et_26 : ElemTy Tryz.prog 26 49 3 (.agg #[(.int .i64 (0)), (.int .i64 (0)), .slice none 0 0]) := ⟨underlying26, ⟨_, (by kernel_rfl : Tryz.prog.info? 49 = some t49), rfl, by decide, rfl⟩, rfl, by decide⟩
theorem et_43 : ElemTy Tryz.prog 43 3 1 (.int .i64 (0)) := ⟨underlying43, ⟨_, (by kernel_rfl : Tryz.prog.info? 3 = some t3), rfl, by decide, rfl⟩, rfl, by decide⟩
theorem et_47 : ElemTy Tryz.prog 47 63 5 (.agg #[.slice none 0 0, .slice none 0 0, (.int .i64 (0)), (.int .i64 (0)), .slice none 0 0]) := ⟨underlying47, ⟨_, (by kernel_rfl : Tryz.prog.info? 63 = some t63), rfl, by decide, rfl⟩, rfl, by decide⟩
theorem et_60 : ElemTy Tryz.prog 60 127 2 (.agg #[(.int .i64 (0)), .slice none 0 0]) := ⟨underlying60, ⟨_, (by kernel_rfl : Tryz.prog.info? 127 = some t127), rfl, by decide, rfl⟩, rfl, by decide⟩
theorem et_61 : ElemTy Tryz.prog 61 65 4 (.agg #[(.int .i64 (0)), (.int .i64 (0)), .slice none 0 0, (.int .i64 (0))]) := ⟨underlying61, ⟨_, (by kernel_rfl : Tryz.prog.info? 65 = some t65), rfl, by decide, rfl⟩, rfl, by decide⟩
theorem et_90 : ElemTy Tryz.prog 90 4 1 (.bool (false)) := ⟨underlying90, ⟨_, (by kernel_rfl : Tryz.prog.info? 4 = some t4), rfl, by decide, rfl⟩, rfl, by decide⟩
theorem et_116 : ElemTy Tryz.prog 116 122 1 (.slice none 0 0) := ⟨underlying116, ⟨_, (by kernel_rfl : Tryz.prog.info? 122 = some t122), rfl, by decide, rfl⟩, rfl, by decide⟩
theorem et_122 : ElemTy Tryz.prog 122 123 1 (.map none) := ⟨underlying122, ⟨_, (by kernel_rfl : Tryz.prog.info? 123 = some t123), rfl, by decide, rfl⟩, rfl, by decide⟩
theorem laws_szIntS_ok (w0 : World) (a_ : List Int) (v1 : Value) (h1 : GT.rep (hp w0) [v1] a_) (left : Int) :
    ConM Tryz.prog 299 [v1, nV left] w0 (laws_szIntS a_ left) fun r v w' => v = (nV r) ∧ Below w0.heap.size w0 w' := by
  unfold laws_szIntS
  refine gcon func299 rfl fun r => ?_
  have hm := Mem.start w0
  refine gS (gR (gA rfl (gE (gS (gR (gM rfl (gM rfl ?_)))))))
  obtain ⟨aB, aC, rfl, aD⟩ := ro_slice h1
  refine gY (yV st_43 rfl) (gB rfl (gA rfl (gE (gS (gS (gR (gM rfl (gB rfl (gE (gsd 10 rfl (fun aA => ?_) fun aA => ?_))))))))))
  ·exact gct rfl (gS (gR (gA rfl (gE (gRt (gr1 results299 rfl ⟨rfl, hm.below⟩))))))
  exact gcf rfl (gSk (gS (gR (gM rfl (gA rfl (gE (gRt (gr1 results299 rfl ⟨rfl, hm.below⟩))))))))
theorem laws_szPhi_ok (w0 : World) (a_ : Phi_) (v1 : Value) (h1 : GT.rep (hp w0) [v1] a_.args) (left : Int) :
    ConM Tryz.prog 334 [(.agg #[nV a_.to, v1]), nV left] w0 (laws_szPhi a_ left) fun r v w' => v = (nV r) ∧ Below w0.heap.size w0 w' := by
  unfold laws_szPhi
  refine gcon func334 rfl fun r => ?_
  have hm := Mem.start w0
  refine gS (gR (gBx hm rfl fun aB w hm => gA rfl (gE (gS (gR (gF fo_275_1 rfl (gL hm 0 isAgg43 rfl (gM rfl (gC hm rfl call299 (laws_szIntS_ok _ a_.args v1 (hm.now h1) left) fun aC aD w hm => gA rfl (gE (gS (gS (gR (gM rfl (gB rfl (gE (gsd 10 rfl (fun aA => ?_) fun aA => ?_)))))))))))))))))
  ·exact gct rfl (gS (gR (gA rfl (gE (gRt (gr1 results334 rfl ⟨rfl, hm.below⟩))))))
  exact gcf rfl (gSk (gS (gR (gM rfl (gA rfl (gE (gRt (gr1 results334 rfl ⟨rfl, hm.below⟩))))))))
theorem laws_szPhiS_ok (w0 : World) (a_ : List Phi_) (v1 : Value) (h1 : GT.rep (hp w0) [v1] a_) (left : Int) :
    ConM Tryz.prog 297 [v1, nV left] w0 (laws_szPhiS a_ left) fun r v w' => v = (nV r) ∧ Below w0.heap.size w0 w' := by
  unfold laws_szPhiS
  refine gcon func297 rfl fun r => ?_
  have hm := Mem.start w0
  refine gS (gR (gA rfl (gE (gS (gR (gM rfl (gM rfl ?_)))))))
  obtain ⟨aD, aE, rfl, aO⟩ := ro_slice h1
  refine gY (yV st_195 rfl) (gB rfl (gA rfl (gE (gS (gS (gR (gM rfl (gB rfl (gE (gsd 11 rfl (fun aF => ?_) fun aF => ?_))))))))))
  ·exact gct rfl (gS (gR (gA rfl (gE (gRt (gr1 results297 rfl ⟨rfl, hm.below⟩))))))
  refine gcf rfl (gSk (gS (gS (gR (gA rfl (gE (gBk (gNg (fun aC aA a w => 0 ≤ aA ∧ St 27 [(0, (.slice aD a_.length aE)), (1, (nV aA)), (5, (nV aC))] w0 (hp w0) [] a w) (fun a hf => ⟨(by first | omega | (dsimp only; omega)), hf.sb rfl, hm.pk [] rfl rfl⟩) ?_ ?_))))))))
  ·repeat clear hm
   rintro aP aG aC aA a w ⟨aQ, hf, hm⟩ aR aS aT aH
   refine gv hf (gS (gS (gR (gM rfl (gM rfl (gY (yV st_195 rfl) (gB rfl (gE (go _ 15 rfl (decide_eq_true (by omega)) (gct rfl (gSk (gS (gBk (gS (gR (gM rfl (gM rfl (gg fun aI aJ aB => ?_))))))))))))))))))
   obtain ⟨aV, aW, aX, he⟩ := idx_form' h1 aB
   obtain ⟨rfl, _, rfl⟩ := sl3 he
   obtain ⟨aK, aL, aM⟩ := rk_Phi_ h1 aB
   refine gI st_195 aJ (idx_lt aB) rfl (gY (yn (aL.mono hm.lez) isAgg275 sizeOf275 rfl) (gM rfl (gC hm rfl call334 (laws_szPhi_ok _ aI aK (hm.now aM) aA) fun aY aZ w hm => gA rfl (gE (gS (gR (gM rfl (gB rfl (gE (gsd 25 rfl (fun aN => ?_) fun aN => ?_))))))))))
   ·exact gct rfl (gS (gR (gA rfl (gE (gRt (gLr aH aG (gr1 results297 rfl ⟨rfl, hm.below⟩)))))))
   exact gcf rfl (gSk (gR (gM rfl (gP (by omega) (by omega) rfl (gA rfl (gE (gZe fun a hf => ⟨(by first | omega | (dsimp only; omega)), hf.sb rfl, hm.pk [] rfl rfl⟩)))))))
  repeat clear hm
  rintro aa ab a w ⟨ac, hf, hm⟩ ae af
  exact gv hf (gS (gS (gR (gM rfl (gM rfl (gY (yV st_195 rfl) (gB rfl (gE (go _ 15 rfl (decide_eq_false (by omega)) (gcf rfl (gXt (gHh (gS (gR (gM rfl (gA rfl (gE (gRt (gr1 results297 rfl ⟨rfl, hm.below⟩)))))))))))))))))))
theorem laws_szIns_ok (w0 : World) (a_ : Ins_) (v1 : Value) (h1 : GT.rep (hp w0) [v1] a_.args) (left : Int) :
    ConM Tryz.prog 335 [(.agg #[nV a_.op, nV a_.to, v1, nV a_.n_]), nV left] w0 (laws_szIns a_ left) fun r v w' => v = (nV r) ∧ Below w0.heap.size w0 w' := by
  unfold laws_szIns
  refine gcon func335 rfl fun r => ?_
  have hm := Mem.start w0
  refine gS (gR (gBx hm rfl fun aB w hm => gA rfl (gE (gS (gR (gF fo_277_2 rfl (gL hm 0 isAgg43 rfl (gM rfl (gC hm rfl call299 (laws_szIntS_ok _ a_.args v1 (hm.now h1) left) fun aC aD w hm => gA rfl (gE (gS (gS (gR (gM rfl (gB rfl (gE (gsd 10 rfl (fun aA => ?_) fun aA => ?_)))))))))))))))))
  ·exact gct rfl (gS (gR (gA rfl (gE (gRt (gr1 results335 rfl ⟨rfl, hm.below⟩))))))
  exact gcf rfl (gSk (gS (gR (gM rfl (gA rfl (gE (gRt (gr1 results335 rfl ⟨rfl, hm.below⟩))))))))
theorem laws_szInsS_ok (w0 : World) (a_ : List Ins_) (v1 : Value) (h1 : GT.rep (hp w0) [v1] a_) (left : Int) :
    ConM Tryz.prog 298 [v1, nV left] w0 (laws_szInsS a_ left) fun r v w' => v = (nV r) ∧ Below w0.heap.size w0 w' := by
  unfold laws_szInsS
  refine gcon func298 rfl fun r => ?_
  have hm := Mem.start w0
  refine gS (gR (gA rfl (gE (gS (gR (gM rfl (gM rfl ?_)))))))
  obtain ⟨aD, aE, rfl, aO⟩ := ro_slice h1
  refine gY (yV st_196 rfl) (gB rfl (gA rfl (gE (gS (gS (gR (gM rfl (gB rfl (gE (gsd 11 rfl (fun aF => ?_) fun aF => ?_))))))))))
  ·exact gct rfl (gS (gR (gA rfl (gE (gRt (gr1 results298 rfl ⟨rfl, hm.below⟩))))))
  refine gcf rfl (gSk (gS (gS (gR (gA rfl (gE (gBk (gNg (fun aC aA a w => 0 ≤ aA ∧ St 27 [(0, (.slice aD a_.length aE)), (1, (nV aA)), (5, (nV aC))] w0 (hp w0) [] a w) (fun a hf => ⟨(by first | omega | (dsimp only; omega)), hf.sb rfl, hm.pk [] rfl rfl⟩) ?_ ?_))))))))
  ·repeat clear hm
   rintro aP aG aC aA a w ⟨aQ, hf, hm⟩ aR aS aT aH
   refine gv hf (gS (gS (gR (gM rfl (gM rfl (gY (yV st_196 rfl) (gB rfl (gE (go _ 15 rfl (decide_eq_true (by omega)) (gct rfl (gSk (gS (gBk (gS (gR (gM rfl (gM rfl (gg fun aI aJ aB => ?_))))))))))))))))))
   obtain ⟨aV, aW, aX, he⟩ := idx_form' h1 aB
   obtain ⟨rfl, _, rfl⟩ := sl3 he
   obtain ⟨aK, aL, aM⟩ := rk_Ins_ h1 aB
   refine gI st_196 aJ (idx_lt aB) rfl (gY (yn (aL.mono hm.lez) isAgg277 sizeOf277 rfl) (gM rfl (gC hm rfl call335 (laws_szIns_ok _ aI aK (hm.now aM) aA) fun aY aZ w hm => gA rfl (gE (gS (gR (gM rfl (gB rfl (gE (gsd 25 rfl (fun aN => ?_) fun aN => ?_))))))))))
   ·exact gct rfl (gS (gR (gA rfl (gE (gRt (gLr aH aG (gr1 results298 rfl ⟨rfl, hm.below⟩)))))))
   exact gcf rfl (gSk (gR (gM rfl (gP (by omega) (by omega) rfl (gA rfl (gE (gZe fun a hf => ⟨(by first | omega | (dsimp only; omega)), hf.sb rfl, hm.pk [] rfl rfl⟩)))))))
  repeat clear hm
  rintro aa ab a w ⟨ac, hf, hm⟩ ae af
  exact gv hf (gS (gS (gR (gM rfl (gM rfl (gY (yV st_196 rfl) (gB rfl (gE (go _ 15 rfl (decide_eq_false (by omega)) (gcf rfl (gXt (gHh (gS (gR (gM rfl (gA rfl (gE (gRt (gr1 results298 rfl ⟨rfl, hm.below⟩)))))))))))))))))))
theorem laws_szBlock_ok (w0 : World) (a_ : Block_) (v1 : Value) (h1 : GT.rep (hp w0) [v1] a_.phis) (v2 : Value) (h2 : GT.rep (hp w0) [v2] a_.ins) (v3 : Value) (h3 : GT.rep (hp w0) [v3] a_.next_) (left : Int) :
    ConM Tryz.prog 233 [(.agg #[v1, v2, nV a_.jump, nV a_.on, v3]), nV left] w0 (laws_szBlock a_ left) fun r v w' => v = (nV r) ∧ Below w0.heap.size w0 w' := by
  unfold laws_szBlock
  refine gcon func233 rfl fun r => ?_
  have hm := Mem.start w0
  refine gS (gR (gBx hm rfl fun aF w hm => gA rfl (gE (gS (gR (gF fo_198_0 rfl (gL hm 0 isAgg195 rfl (gM rfl (gC hm rfl call297 (laws_szPhiS_ok _ a_.phis v1 (hm.now h1) left) fun aA aG w hm => gA rfl (gE (gS (gS (gR (gM rfl (gB rfl (gE (gsd 10 rfl (fun aB => ?_) fun aB => ?_)))))))))))))))))
  ·exact gct rfl (gS (gR (gA rfl (gE (gRt (gr1 results233 rfl ⟨rfl, hm.below⟩))))))
  refine gcf rfl (gSk (gS (gR (gF fo_198_1 rfl (gL hm 0 isAgg196 rfl (gM rfl (gC hm rfl call298 (laws_szInsS_ok _ a_.ins v2 (hm.now h2) aA) fun aC aH w hm => gA rfl (gE (gS (gS (gR (gM rfl (gB rfl (gE (gsd 16 rfl (fun aD => ?_) fun aD => ?_)))))))))))))))
  ·exact gct rfl (gS (gR (gA rfl (gE (gRt (gr1 results233 rfl ⟨rfl, hm.below⟩))))))
  refine gcf rfl (gSk (gS (gR (gF fo_198_4 rfl (gL hm 0 isAgg43 rfl (gM rfl (gC hm rfl call299 (laws_szIntS_ok _ a_.next_ v3 (hm.now h3) aC) fun aI aJ w hm => gA rfl (gE (gS (gS (gR (gM rfl (gB rfl (gE (gsd 22 rfl (fun aE => ?_) fun aE => ?_)))))))))))))))
  ·exact gct rfl (gS (gR (gA rfl (gE (gRt (gr1 results233 rfl ⟨rfl, hm.below⟩))))))
  exact gcf rfl (gSk (gS (gR (gM rfl (gA rfl (gE (gRt (gr1 results233 rfl ⟨rfl, hm.below⟩))))))))
theorem laws_szBlockS_ok (w0 : World) (a_ : List Block_) (v1 : Value) (h1 : GT.rep (hp w0) [v1] a_) (left : Int) :
    ConM Tryz.prog 152 [v1, nV left] w0 (laws_szBlockS a_ left) fun r v w' => v = (nV r) ∧ Below w0.heap.size w0 w' := by
  unfold laws_szBlockS
  refine gcon func152 rfl fun r => ?_
  have hm := Mem.start w0
  refine gS (gR (gA rfl (gE (gS (gR (gM rfl (gM rfl ?_)))))))
  obtain ⟨aD, aE, rfl, aS⟩ := ro_slice h1
  refine gY (yV st_86 rfl) (gB rfl (gA rfl (gE (gS (gS (gR (gM rfl (gB rfl (gE (gsd 11 rfl (fun aF => ?_) fun aF => ?_))))))))))
  ·exact gct rfl (gS (gR (gA rfl (gE (gRt (gr1 results152 rfl ⟨rfl, hm.below⟩))))))
  refine gcf rfl (gSk (gS (gS (gR (gA rfl (gE (gBk (gNg (fun aC aA a w => 0 ≤ aA ∧ St 27 [(0, (.slice aD a_.length aE)), (1, (nV aA)), (5, (nV aC))] w0 (hp w0) [] a w) (fun a hf => ⟨(by first | omega | (dsimp only; omega)), hf.sb rfl, hm.pk [] rfl rfl⟩) ?_ ?_))))))))
  ·repeat clear hm
   rintro aT aG aC aA a w ⟨aV, hf, hm⟩ aW aX aY aH
   refine gv hf (gS (gS (gR (gM rfl (gM rfl (gY (yV st_86 rfl) (gB rfl (gE (go _ 15 rfl (decide_eq_true (by omega)) (gct rfl (gSk (gS (gBk (gS (gR (gM rfl (gM rfl (gg fun aI aJ aB => ?_))))))))))))))))))
   obtain ⟨aZ, aa, ab, he⟩ := idx_form' h1 aB
   obtain ⟨rfl, _, rfl⟩ := sl3 he
   obtain ⟨aK, aL, aM, aN, aO, aP, aQ⟩ := rk_Block_ h1 aB
   refine gI st_86 aJ (idx_lt aB) rfl (gY (yn (aN.mono hm.lez) isAgg198 sizeOf198 rfl) (gM rfl (gC hm rfl call233 (laws_szBlock_ok _ aI aK (hm.now aO) aL (hm.now aP) aM (hm.now aQ) aA) fun ac ae w hm => gA rfl (gE (gS (gR (gM rfl (gB rfl (gE (gsd 25 rfl (fun aR => ?_) fun aR => ?_))))))))))
   ·exact gct rfl (gS (gR (gA rfl (gE (gRt (gLr aH aG (gr1 results152 rfl ⟨rfl, hm.below⟩)))))))
   exact gcf rfl (gSk (gR (gM rfl (gP (by omega) (by omega) rfl (gA rfl (gE (gZe fun a hf => ⟨(by first | omega | (dsimp only; omega)), hf.sb rfl, hm.pk [] rfl rfl⟩)))))))
  repeat clear hm
  rintro af ag a w ⟨ah, hf, hm⟩ ai aj
  exact gv hf (gS (gS (gR (gM rfl (gM rfl (gY (yV st_86 rfl) (gB rfl (gE (go _ 15 rfl (decide_eq_false (by omega)) (gcf rfl (gXt (gHh (gS (gR (gM rfl (gA rfl (gE (gRt (gr1 results152 rfl ⟨rfl, hm.below⟩)))))))))))))))))))
theorem laws_szCode_ok (w0 : World) (a_ : Code_) (v1 : Value) (h1 : GT.rep (hp w0) [v1] a_.blocks) (left : Int) :
    ConM Tryz.prog 85 [(.agg #[nV a_.params, nV a_.regs, v1]), nV left] w0 (laws_szCode a_ left) fun r v w' => v = (nV r) ∧ Below w0.heap.size w0 w' := by
  unfold laws_szCode
  refine gcon func85 rfl fun r => ?_
  have hm := Mem.start w0
  refine gS (gR (gBx hm rfl fun aB w hm => gA rfl (gE (gS (gR (gF fo_88_2 rfl (gL hm 0 isAgg86 rfl (gM rfl (gC hm rfl call152 (laws_szBlockS_ok _ a_.blocks v1 (hm.now h1) left) fun aC aD w hm => gA rfl (gE (gS (gS (gR (gM rfl (gB rfl (gE (gsd 10 rfl (fun aA => ?_) fun aA => ?_)))))))))))))))))
  ·exact gct rfl (gS (gR (gA rfl (gE (gRt (gr1 results85 rfl ⟨rfl, hm.below⟩))))))
  exact gcf rfl (gSk (gS (gR (gM rfl (gA rfl (gE (gRt (gr1 results85 rfl ⟨rfl, hm.below⟩))))))))
theorem laws_szCodeS_ok (w0 : World) (a_ : List Code_) (v1 : Value) (h1 : GT.rep (hp w0) [v1] a_) (left : Int) :
    ConM Tryz.prog 38 [v1, nV left] w0 (laws_szCodeS a_ left) fun r v w' => v = (nV r) ∧ Below w0.heap.size w0 w' := by
  unfold laws_szCodeS
  refine gcon func38 rfl fun r => ?_
  have hm := Mem.start w0
  refine gS (gR (gA rfl (gE (gS (gR (gM rfl (gM rfl ?_)))))))
  obtain ⟨aD, aE, rfl, aO⟩ := ro_slice h1
  refine gY (yV st_22 rfl) (gB rfl (gA rfl (gE (gS (gS (gR (gM rfl (gB rfl (gE (gsd 11 rfl (fun aF => ?_) fun aF => ?_))))))))))
  ·exact gct rfl (gS (gR (gA rfl (gE (gRt (gr1 results38 rfl ⟨rfl, hm.below⟩))))))
  refine gcf rfl (gSk (gS (gS (gR (gA rfl (gE (gBk (gNg (fun aC aA a w => 0 ≤ aA ∧ St 27 [(0, (.slice aD a_.length aE)), (1, (nV aA)), (5, (nV aC))] w0 (hp w0) [] a w) (fun a hf => ⟨(by first | omega | (dsimp only; omega)), hf.sb rfl, hm.pk [] rfl rfl⟩) ?_ ?_))))))))
  ·repeat clear hm
   rintro aP aG aC aA a w ⟨aQ, hf, hm⟩ aR aS aT aH
   refine gv hf (gS (gS (gR (gM rfl (gM rfl (gY (yV st_22 rfl) (gB rfl (gE (go _ 15 rfl (decide_eq_true (by omega)) (gct rfl (gSk (gS (gBk (gS (gR (gM rfl (gM rfl (gg fun aI aJ aB => ?_))))))))))))))))))
   obtain ⟨aV, aW, aX, he⟩ := idx_form' h1 aB
   obtain ⟨rfl, _, rfl⟩ := sl3 he
   obtain ⟨aK, aL, aM⟩ := rk_Code_ h1 aB
   refine gI st_22 aJ (idx_lt aB) rfl (gY (yn (aL.mono hm.lez) isAgg88 sizeOf88 rfl) (gM rfl (gC hm rfl call85 (laws_szCode_ok _ aI aK (hm.now aM) aA) fun aY aZ w hm => gA rfl (gE (gS (gR (gM rfl (gB rfl (gE (gsd 25 rfl (fun aN => ?_) fun aN => ?_))))))))))
   ·exact gct rfl (gS (gR (gA rfl (gE (gRt (gLr aH aG (gr1 results38 rfl ⟨rfl, hm.below⟩)))))))
   exact gcf rfl (gSk (gR (gM rfl (gP (by omega) (by omega) rfl (gA rfl (gE (gZe fun a hf => ⟨(by first | omega | (dsimp only; omega)), hf.sb rfl, hm.pk [] rfl rfl⟩)))))))
  repeat clear hm
  rintro aa ab a w ⟨ac, hf, hm⟩ ae af
  exact gv hf (gS (gS (gR (gM rfl (gM rfl (gY (yV st_22 rfl) (gB rfl (gE (go _ 15 rfl (decide_eq_false (by omega)) (gcf rfl (gXt (gHh (gS (gR (gM rfl (gA rfl (gE (gRt (gr1 results38 rfl ⟨rfl, hm.below⟩)))))))))))))))))))
theorem laws_szUnit_ok (w0 : World) (a_ : Unit_) (v1 : Value) (h1 : GT.rep (hp w0) [v1] a_.codes) (left : Int) :
    ConM Tryz.prog 13 [(.agg #[v1]), nV left] w0 (laws_szUnit a_ left) fun r v w' => v = (nV r) ∧ Below w0.heap.size w0 w' := by
  unfold laws_szUnit
  refine gcon func13 rfl fun r => ?_
  have hm := Mem.start w0
  refine gS (gR (gBx hm rfl fun aB w hm => gA rfl (gE (gS (gR (gF fo_24_0 rfl (gL hm 0 isAgg22 rfl (gM rfl (gC hm rfl call38 (laws_szCodeS_ok _ a_.codes v1 (hm.now h1) left) fun aC aD w hm => gA rfl (gE (gS (gS (gR (gM rfl (gB rfl (gE (gsd 10 rfl (fun aA => ?_) fun aA => ?_)))))))))))))))))
  ·exact gct rfl (gS (gR (gA rfl (gE (gRt (gr1 results13 rfl ⟨rfl, hm.below⟩))))))
  exact gcf rfl (gSk (gS (gR (gM rfl (gA rfl (gE (gRt (gr1 results13 rfl ⟨rfl, hm.below⟩))))))))
theorem laws_toIntS_ok (w0 : World) (a_ : List Int) (v1 : Value) (h1 : GT.rep (hp w0) [v1] a_) :
    ConM Tryz.prog 302 [v1] w0 (laws_toIntS a_) fun r v w' => ∃ (x1 : Value), v = x1 ∧ Mem w0 (hp w0) w' [ow [x1] r] := by
  unfold laws_toIntS
  refine gcon func302 rfl fun r => ?_
  have hm := Mem.start w0
  refine gS (gR (gA rfl (gE (gS (gR (gM rfl ?_))))))
  obtain ⟨aJ, aK, rfl, aQ⟩ := ro_slice h1
  refine gY (yV st_43 rfl) (gb fun aA aL => ?_)
  obtain ⟨⟨aM, aN⟩, aI⟩ := makeM_some.1 aL
  refine gf rfl (fun a hf => e_make (x0 := (0 : Int)) et_43 (fun _ => (Flat.own_iff.2 rfl)) hf hm rfl rfl rfl aM (Int.le_refl _) aN) ?_
  rintro aR w hm
  rw [aI] at hm
  have h0_1l : (aA.length : Int) = (a_.length : Int) := by rw [← aI]; simp only [List.length_replicate]; omega
  refine gA rfl (gE (gS (gS (gR (gA rfl (gE ?_))))))
  obtain ⟨aD, aE, rfl, aS⟩ := ro_slice (hm.ow_rep 0 rfl)
  refine gBk (gNf hm (fun aF aG => [(0, (.slice aJ a_.length aK)), (3, (.slice aD aA.length aE)), (4, (nV aF))]) (fun aF aG => [ow [.slice aD aA.length aE] aG]) [0] rfl ?_ ?_)
  ·repeat clear hm
   intro _ _ aF aG w hm aT aV aW _
   refine gS (gS (gR (gM rfl (gM rfl (gY (yV st_43 rfl) (gB rfl (gE (go _ 11 rfl (decide_eq_true (by omega)) (gct rfl (gSk (gS (gBk (gR (gM rfl (gM rfl (gM rfl (gM rfl (gg fun aB aO aH => ?_))))))))))))))))))
   obtain ⟨aX, aY, aZ, he⟩ := idx_form h1 aH
   obtain ⟨rfl, _, rfl⟩ := sl3 he
   refine gI st_43 aO (idx_lt aH) rfl (gY (yl isAgg3 ((flat_cells (cs := [nV aB]) (hm.now h1) aH rfl).cell (j := 0) rfl) rfl) (gg fun aa aP aC => ?_))
   obtain ⟨ab, ac, ae, he⟩ := idx_form (hm.ow_rep 0 rfl) aC
   obtain ⟨rfl, _, rfl⟩ := sl3 he
   have hL1_1 := rep_slice_len (hm.ow_rep 0 rfl)
   refine gI st_43 aP (idx_lt2 aC hL1_1) rfl (gf0 rfl (fun a hf => e_setElem (x1 := aB) (j := 0) (vs := [nV aB]) 0 hf hm rfl aC rfl sizeOf3 rfl rfl rfl (one_cons rfl one_nil) rfl rfl) ?_)
   rintro _ w hm
   have af := List.getElem?_set_self (a := aB) (idx_lt aC)
   exact gE (gR (gM rfl (gP (by omega) (by omega) rfl (gA rfl (gE (gze hm [0] rfl))))))
  repeat clear hm
  intro ag ah w hm ai aj
  exact gS (gS (gR (gM rfl (gM rfl (gY (yV st_43 rfl) (gB rfl (gE (go _ 11 rfl (decide_eq_false (by omega)) (gcf rfl (gXt (gHh (gS (gR (gM rfl (gA rfl (gE (gRt (gr1 results302 rfl ⟨.slice aD aA.length aE, rfl, hm.pk [0] rfl rfl⟩))))))))))))))))))
theorem laws_toPhi_ok (w0 : World) (a_ : Phi_) (v1 : Value) (h1 : GT.rep (hp w0) [v1] a_.args) :
    ConM Tryz.prog 336 [(.agg #[nV a_.to, v1])] w0 (laws_toPhi a_) fun r v w' => ∃ (x1 : Value), v = (.agg #[nV r.to, x1]) ∧ Mem w0 (hp w0) w' [ow [x1] r.args] := by
  unfold laws_toPhi
  refine gcon func336 rfl fun r => ?_
  have hm := Mem.start w0
  refine gS (gR (gBx hm rfl fun aB w hm => gAl hm zeroValue127 rfl fun aC w hm => gE (gS (gR (gAl hm zeroValue127 rfl fun aD w hm => gE (gS (gR (gF fo_275_0 rfl (gL hm 2 isAgg3 rfl (gF fo_127_0 rfl (gS1 hm 0 sizeOf3 rfl rfl fun w hm => gE (gS (gR (gF fo_275_1 rfl (gL hm 2 isAgg43 rfl (gCg rfl call302 (laws_toIntS_ok _ a_.args v1 (hm.now h1)) ?_))))))))))))))))
  rintro aE aF aA w ⟨_, rfl, hB⟩
  replace hm := hm.give hB; clear hB
  exact gF fo_127_1 rfl (gS1 hm 1 sizeOf43 (rep_one (hm.ow_rep 0 rfl)) rfl fun w hm => gE (gS (gR (gY (yn (hm.blk_at 1 rfl) isAgg127 sizeOf127 rfl) (gSN hm 2 sizeOf127 (one_cons rfl (one_cons (rep_one (hm.ow_rep 0 rfl)) one_nil)) rfl fun w hm => gE (gRt (grc 2 results336 hm rfl isAgg127 sizeOf127 ⟨aA, rfl, hm.pk [0] rfl rfl⟩)))))))
theorem laws_toPhiS_ok (w0 : World) (a_ : List Phi_) (v1 : Value) (h1 : GT.rep (hp w0) [v1] a_) :
    ConM Tryz.prog 300 [v1] w0 (laws_toPhiS a_) fun r v w' => ∃ (x1 : Value), v = x1 ∧ Mem w0 (hp w0) w' [ow [x1] r] := by
  unfold laws_toPhiS
  refine gcon func300 rfl fun r => ?_
  have hm := Mem.start w0
  refine gS (gR (gA rfl (gE (gS (gR (gM rfl ?_))))))
  obtain ⟨aM, aN, rfl, aY⟩ := ro_slice h1
  refine gY (yV st_195 rfl) (gb fun aB aO => ?_)
  obtain ⟨⟨aP, aQ⟩, aJ⟩ := makeM_some.1 aO
  refine gf rfl (fun a hf => e_make (x0 := ((⟨0, []⟩ : Phi_) : Phi_)) et_60 (fun _ => ⟨[nV 0], [.slice none 0 0], rfl, fun _ => False, fun _ => False, fun _ h => h.elim, fun _ h => h.elim, fun _ h => h.elim, (Flat.own_iff.2 rfl), (own_list.2 (.inl ⟨rfl, rfl⟩))⟩) hf hm rfl rfl rfl aP (Int.le_refl _) aQ) ?_
  rintro aZ w hm
  rw [aJ] at hm
  have h0_1l : (aB.length : Int) = (a_.length : Int) := by rw [← aJ]; simp only [List.length_replicate]; omega
  refine gA rfl (gE (gS (gS (gR (gA rfl (gE ?_))))))
  obtain ⟨aF, aC, rfl, aa⟩ := ro_slice (hm.ow_rep 0 rfl)
  refine gBk (gNf hm (fun aG aD => [(0, (.slice aM a_.length aN)), (3, (.slice aF aB.length aC)), (4, (nV aG))]) (fun aG aD => [ow [.slice aF aB.length aC] aD]) [0] rfl ?_ ?_)
  ·repeat clear hm
   intro _ _ aG aD w hm ab ac ae _
   refine gS (gS (gR (gM rfl (gM rfl (gY (yV st_195 rfl) (gB rfl (gE (go _ 11 rfl (decide_eq_true (by omega)) (gct rfl (gSk (gS (gBk (gR (gM rfl (gM rfl (gM rfl (gM rfl (gg fun aR aS aH => ?_))))))))))))))))))
   obtain ⟨af, ag, ah, he⟩ := idx_form' h1 aH
   obtain ⟨rfl, _, rfl⟩ := sl3 he
   obtain ⟨aT, aV, aW⟩ := rk_Phi_ h1 aH
   refine gI st_195 aS (idx_lt aH) rfl (gY (yn (aV.mono hm.lez) isAgg275 sizeOf275 rfl) (gCg rfl call336 (laws_toPhi_ok _ aR aT (hm.now aW)) ?_))
   rintro aA ai aj w ⟨aI, rfl, hB⟩
   replace hm := hm.give hB; clear hB
   refine gg fun ak aX aE => ?_
   obtain ⟨aK, aL, am, he⟩ := idx_form' (hm.ow_rep 1 rfl) aE
   obtain ⟨rfl, _, rfl⟩ := sl3 he
   obtain ⟨an, ao, ap⟩ := rk_Phi_ (hm.ow_rep 1 rfl) aE
   have hL1_1 := rep_slice_len (hm.ow_rep 1 rfl)
   refine gI st_60 aX (idx_lt2 aE hL1_1) rfl ?_
   replace hm : Mem w0 (hp w0) _ [ow [nV aA.to, aI] (aA : Phi_), ow [sV aK aL aB.length aC] aD] := mk_Phi_ aA.to hm 0 rfl
   replace hm := (hm.both 1 0 (by decide) rfl rfl).pk (L' := [both (ow [sV aK aL aB.length aC] aD) (ow [nV aA.to, aI] (aA : Phi_))]) [1] rfl rfl
   refine gf0 rfl (fun a hf => e_putElem (x1 := (aA : Phi_)) (vs := [nV aA.to, aI]) 0 hf hm rfl aE rfl sizeOf127 rfl rfl rfl rfl) ?_
   rintro _ w hm
   have aq := List.getElem?_set_self (a := (aA : Phi_)) (idx_lt aE)
   exact gE (gR (gM rfl (gP (by omega) (by omega) rfl (gA rfl (gE (gze hm [0] rfl))))))
  repeat clear hm
  intro ar au w hm av aw
  exact gS (gS (gR (gM rfl (gM rfl (gY (yV st_195 rfl) (gB rfl (gE (go _ 11 rfl (decide_eq_false (by omega)) (gcf rfl (gXt (gHh (gS (gR (gM rfl (gA rfl (gE (gRt (gr1 results300 rfl ⟨.slice aF aB.length aC, rfl, hm.pk [0] rfl rfl⟩))))))))))))))))))
theorem laws_toIns_ok (w0 : World) (a_ : Ins_) (v1 : Value) (h1 : GT.rep (hp w0) [v1] a_.args) :
    ConM Tryz.prog 337 [(.agg #[nV a_.op, nV a_.to, v1, nV a_.n_])] w0 (laws_toIns a_) fun r v w' => ∃ (x1 : Value), v = (.agg #[nV r.op, nV r.to, x1, nV r.n_]) ∧ Mem w0 (hp w0) w' [ow [x1] r.args] := by
  unfold laws_toIns
  refine gcon func337 rfl fun r => ?_
  have hm := Mem.start w0
  refine gS (gR (gBx hm rfl fun aB w hm => gAl hm zeroValue65 rfl fun aC w hm => gE (gS (gR (gAl hm zeroValue65 rfl fun aD w hm => gE (gS (gR (gF fo_277_0 rfl (gL hm 2 isAgg3 rfl (gF fo_65_0 rfl (gS1 hm 0 sizeOf3 rfl rfl fun w hm => gE (gS (gR (gF fo_277_1 rfl (gL hm 2 isAgg3 rfl (gF fo_65_1 rfl (gS1 hm 0 sizeOf3 rfl rfl fun w hm => gE (gS (gR (gF fo_277_2 rfl (gL hm 2 isAgg43 rfl (gCg rfl call302 (laws_toIntS_ok _ a_.args v1 (hm.now h1)) ?_))))))))))))))))))))))
  rintro aE aF aA w ⟨_, rfl, hB⟩
  replace hm := hm.give hB; clear hB
  exact gF fo_65_2 rfl (gS1 hm 1 sizeOf43 (rep_one (hm.ow_rep 0 rfl)) rfl fun w hm => gE (gS (gR (gF fo_277_3 rfl (gL hm 3 isAgg3 rfl (gF fo_65_3 rfl (gS1 hm 1 sizeOf3 rfl rfl fun w hm => gE (gS (gR (gY (yn (hm.blk_at 1 rfl) isAgg65 sizeOf65 rfl) (gSN hm 2 sizeOf65 (one_cons rfl (one_cons rfl (one_cons (rep_one (hm.ow_rep 0 rfl)) (one_cons rfl one_nil)))) rfl fun w hm => gE (gRt (grc 2 results337 hm rfl isAgg65 sizeOf65 ⟨aA, rfl, hm.pk [0] rfl rfl⟩)))))))))))))
theorem laws_toInsS_ok (w0 : World) (a_ : List Ins_) (v1 : Value) (h1 : GT.rep (hp w0) [v1] a_) :
    ConM Tryz.prog 301 [v1] w0 (laws_toInsS a_) fun r v w' => ∃ (x1 : Value), v = x1 ∧ Mem w0 (hp w0) w' [ow [x1] r] := by
  unfold laws_toInsS
  refine gcon func301 rfl fun r => ?_
  have hm := Mem.start w0
  refine gS (gR (gA rfl (gE (gS (gR (gM rfl ?_))))))
  obtain ⟨aM, aN, rfl, aY⟩ := ro_slice h1
  refine gY (yV st_196 rfl) (gb fun aB aO => ?_)
  obtain ⟨⟨aP, aQ⟩, aJ⟩ := makeM_some.1 aO
  refine gf rfl (fun a hf => e_make (x0 := ((⟨0, 0, [], 0⟩ : Ins_) : Ins_)) et_61 (fun _ => ⟨[nV 0], [nV 0, .slice none 0 0, nV 0], rfl, fun _ => False, fun _ => False, fun _ h => h.elim, fun _ h => h.elim, fun _ h => h.elim, (Flat.own_iff.2 rfl), ⟨[nV 0], [.slice none 0 0, nV 0], rfl, fun _ => False, fun _ => False, fun _ h => h.elim, fun _ h => h.elim, fun _ h => h.elim, (Flat.own_iff.2 rfl), ⟨[.slice none 0 0], [nV 0], rfl, fun _ => False, fun _ => False, fun _ h => h.elim, fun _ h => h.elim, fun _ h => h.elim, (own_list.2 (.inl ⟨rfl, rfl⟩)), (Flat.own_iff.2 rfl)⟩⟩⟩) hf hm rfl rfl rfl aP (Int.le_refl _) aQ) ?_
  rintro aZ w hm
  rw [aJ] at hm
  have h0_1l : (aB.length : Int) = (a_.length : Int) := by rw [← aJ]; simp only [List.length_replicate]; omega
  refine gA rfl (gE (gS (gS (gR (gA rfl (gE ?_))))))
  obtain ⟨aF, aC, rfl, aa⟩ := ro_slice (hm.ow_rep 0 rfl)
  refine gBk (gNf hm (fun aG aD => [(0, (.slice aM a_.length aN)), (3, (.slice aF aB.length aC)), (4, (nV aG))]) (fun aG aD => [ow [.slice aF aB.length aC] aD]) [0] rfl ?_ ?_)
  ·repeat clear hm
   intro _ _ aG aD w hm ab ac ae _
   refine gS (gS (gR (gM rfl (gM rfl (gY (yV st_196 rfl) (gB rfl (gE (go _ 11 rfl (decide_eq_true (by omega)) (gct rfl (gSk (gS (gBk (gR (gM rfl (gM rfl (gM rfl (gM rfl (gg fun aR aS aH => ?_))))))))))))))))))
   obtain ⟨af, ag, ah, he⟩ := idx_form' h1 aH
   obtain ⟨rfl, _, rfl⟩ := sl3 he
   obtain ⟨aT, aV, aW⟩ := rk_Ins_ h1 aH
   refine gI st_196 aS (idx_lt aH) rfl (gY (yn (aV.mono hm.lez) isAgg277 sizeOf277 rfl) (gCg rfl call337 (laws_toIns_ok _ aR aT (hm.now aW)) ?_))
   rintro aA ai aj w ⟨aI, rfl, hB⟩
   replace hm := hm.give hB; clear hB
   refine gg fun ak aX aE => ?_
   obtain ⟨aK, aL, am, he⟩ := idx_form' (hm.ow_rep 1 rfl) aE
   obtain ⟨rfl, _, rfl⟩ := sl3 he
   obtain ⟨an, ao, ap⟩ := rk_Ins_ (hm.ow_rep 1 rfl) aE
   have hL1_1 := rep_slice_len (hm.ow_rep 1 rfl)
   refine gI st_61 aX (idx_lt2 aE hL1_1) rfl ?_
   replace hm : Mem w0 (hp w0) _ [ow [nV aA.op, nV aA.to, aI, nV aA.n_] (aA : Ins_), ow [sV aK aL aB.length aC] aD] := mk_Ins_ aA.op aA.to aA.n_ hm 0 rfl
   replace hm := (hm.both 1 0 (by decide) rfl rfl).pk (L' := [both (ow [sV aK aL aB.length aC] aD) (ow [nV aA.op, nV aA.to, aI, nV aA.n_] (aA : Ins_))]) [1] rfl rfl
   refine gf0 rfl (fun a hf => e_putElem (x1 := (aA : Ins_)) (vs := [nV aA.op, nV aA.to, aI, nV aA.n_]) 0 hf hm rfl aE rfl sizeOf65 rfl rfl rfl rfl) ?_
   rintro _ w hm
   have aq := List.getElem?_set_self (a := (aA : Ins_)) (idx_lt aE)
   exact gE (gR (gM rfl (gP (by omega) (by omega) rfl (gA rfl (gE (gze hm [0] rfl))))))
  repeat clear hm
  intro ar au w hm av aw
  exact gS (gS (gR (gM rfl (gM rfl (gY (yV st_196 rfl) (gB rfl (gE (go _ 11 rfl (decide_eq_false (by omega)) (gcf rfl (gXt (gHh (gS (gR (gM rfl (gA rfl (gE (gRt (gr1 results301 rfl ⟨.slice aF aB.length aC, rfl, hm.pk [0] rfl rfl⟩))))))))))))))))))
theorem laws_toBlock_ok (w0 : World) (a_ : Block_) (v1 : Value) (h1 : GT.rep (hp w0) [v1] a_.phis) (v2 : Value) (h2 : GT.rep (hp w0) [v2] a_.ins) (v3 : Value) (h3 : GT.rep (hp w0) [v3] a_.next_) :
    ConM Tryz.prog 236 [(.agg #[v1, v2, nV a_.jump, nV a_.on, v3])] w0 (laws_toBlock a_) fun r v w' => ∃ (x1 : Value) (x2 : Value) (x3 : Value), v = (.agg #[x1, x2, nV r.jump, nV r.on, x3]) ∧ Mem w0 (hp w0) w' [ow [x1] r.phis, ow [x2] r.ins, ow [x3] r.next_] := by
  unfold laws_toBlock
  refine gcon func236 rfl fun r => ?_
  have hm := Mem.start w0
  refine gS (gR (gBx hm rfl fun aD w hm => gAl hm zeroValue63 rfl fun aE w hm => gE (gS (gR (gAl hm zeroValue63 rfl fun aF w hm => gE (gS (gR (gF fo_198_0 rfl (gL hm 2 isAgg195 rfl (gCg rfl call300 (laws_toPhiS_ok _ a_.phis v1 (hm.now h1)) ?_))))))))))
  rintro aG aH aA w ⟨_, rfl, hB⟩
  replace hm := hm.give hB; clear hB
  refine gF fo_63_0 rfl (gS1 hm 1 sizeOf60 (rep_one (hm.ow_rep 0 rfl)) rfl fun w hm => gE (gS (gR (gF fo_198_1 rfl (gL hm 3 isAgg196 rfl (gCg rfl call301 (laws_toInsS_ok _ a_.ins v2 (hm.now h2)) ?_))))))
  rintro aI aJ aB w ⟨_, rfl, hB⟩
  replace hm := hm.give hB; clear hB
  refine gF fo_63_1 rfl (gS1 hm 2 sizeOf61 (rep_one (hm.ow_rep 0 rfl)) rfl fun w hm => gE (gS (gR (gF fo_198_2 rfl (gL hm 4 isAgg3 rfl (gF fo_63_2 rfl (gS1 hm 2 sizeOf3 rfl rfl fun w hm => gE (gS (gR (gF fo_198_3 rfl (gL hm 4 isAgg3 rfl (gF fo_63_3 rfl (gS1 hm 2 sizeOf3 rfl rfl fun w hm => gE (gS (gR (gF fo_198_4 rfl (gL hm 4 isAgg43 rfl (gCg rfl call302 (laws_toIntS_ok _ a_.next_ v3 (hm.now h3)) ?_))))))))))))))))))
  rintro aK aL aC w ⟨_, rfl, hB⟩
  replace hm := hm.give hB; clear hB
  exact gF fo_63_4 rfl (gS1 hm 3 sizeOf43 (rep_one (hm.ow_rep 0 rfl)) rfl fun w hm => gE (gS (gR (gY (yn (hm.blk_at 3 rfl) isAgg63 sizeOf63 rfl) (gSN hm 4 sizeOf63 (one_cons (rep_one (hm.ow_rep 2 rfl)) (one_cons (rep_one (hm.ow_rep 1 rfl)) (one_cons rfl (one_cons rfl (one_cons (rep_one (hm.ow_rep 0 rfl)) one_nil))))) rfl fun w hm => gE (gRt (grc 4 results236 hm rfl isAgg63 sizeOf63 ⟨aA, aB, aC, rfl, hm.pk [2, 1, 0] rfl rfl⟩)))))))
theorem laws_toBlockS_ok (w0 : World) (a_ : List Block_) (v1 : Value) (h1 : GT.rep (hp w0) [v1] a_) :
    ConM Tryz.prog 157 [v1] w0 (laws_toBlockS a_) fun r v w' => ∃ (x1 : Value), v = x1 ∧ Mem w0 (hp w0) w' [ow [x1] r] := by
  unfold laws_toBlockS
  refine gcon func157 rfl fun r => ?_
  have hm := Mem.start w0
  refine gS (gR (gA rfl (gE (gS (gR (gM rfl ?_))))))
  obtain ⟨aO, aP, rfl, af⟩ := ro_slice h1
  refine gY (yV st_86 rfl) (gb fun aB aQ => ?_)
  obtain ⟨⟨aR, aS⟩, aL⟩ := makeM_some.1 aQ
  refine gf rfl (fun a hf => e_make (x0 := ((⟨[], [], 0, 0, []⟩ : Block_) : Block_)) et_47 (fun _ => ⟨[.slice none 0 0], [.slice none 0 0, nV 0, nV 0, .slice none 0 0], rfl, fun _ => False, fun _ => False, fun _ h => h.elim, fun _ h => h.elim, fun _ h => h.elim, (own_list.2 (.inl ⟨rfl, rfl⟩)), ⟨[.slice none 0 0], [nV 0, nV 0, .slice none 0 0], rfl, fun _ => False, fun _ => False, fun _ h => h.elim, fun _ h => h.elim, fun _ h => h.elim, (own_list.2 (.inl ⟨rfl, rfl⟩)), ⟨[nV 0], [nV 0, .slice none 0 0], rfl, fun _ => False, fun _ => False, fun _ h => h.elim, fun _ h => h.elim, fun _ h => h.elim, (Flat.own_iff.2 rfl), ⟨[nV 0], [.slice none 0 0], rfl, fun _ => False, fun _ => False, fun _ h => h.elim, fun _ h => h.elim, fun _ h => h.elim, (Flat.own_iff.2 rfl), (own_list.2 (.inl ⟨rfl, rfl⟩))⟩⟩⟩⟩) hf hm rfl rfl rfl aR (Int.le_refl _) aS) ?_
  rintro ag w hm
  rw [aL] at hm
  have h0_1l : (aB.length : Int) = (a_.length : Int) := by rw [← aL]; simp only [List.length_replicate]; omega
  refine gA rfl (gE (gS (gS (gR (gA rfl (gE ?_))))))
  obtain ⟨aF, aC, rfl, ah⟩ := ro_slice (hm.ow_rep 0 rfl)
  refine gBk (gNf hm (fun aG aD => [(0, (.slice aO a_.length aP)), (3, (.slice aF aB.length aC)), (4, (nV aG))]) (fun aG aD => [ow [.slice aF aB.length aC] aD]) [0] rfl ?_ ?_)
  ·repeat clear hm
   intro _ _ aG aD w hm ai aj ak _
   refine gS (gS (gR (gM rfl (gM rfl (gY (yV st_86 rfl) (gB rfl (gE (go _ 11 rfl (decide_eq_true (by omega)) (gct rfl (gSk (gS (gBk (gR (gM rfl (gM rfl (gM rfl (gM rfl (gg fun aT aV aH => ?_))))))))))))))))))
   obtain ⟨am, an, ao, he⟩ := idx_form' h1 aH
   obtain ⟨rfl, _, rfl⟩ := sl3 he
   obtain ⟨aW, aX, aY, aZ, aa, ab, ac⟩ := rk_Block_ h1 aH
   refine gI st_86 aV (idx_lt aH) rfl (gY (yn (aZ.mono hm.lez) isAgg198 sizeOf198 rfl) (gCg rfl call236 (laws_toBlock_ok _ aT aW (hm.now aa) aX (hm.now ab) aY (hm.now ac)) ?_))
   rintro aA ap aq w ⟨aI, aJ, aK, rfl, hB⟩
   replace hm := hm.give hB; clear hB
   refine gg fun ar ae aE => ?_
   obtain ⟨aM, aN, au, he⟩ := idx_form' (hm.ow_rep 3 rfl) aE
   obtain ⟨rfl, _, rfl⟩ := sl3 he
   obtain ⟨av, aw, ax, ay, az, bA, bB⟩ := rk_Block_ (hm.ow_rep 3 rfl) aE
   have hL1_1 := rep_slice_len (hm.ow_rep 3 rfl)
   refine gI st_47 ae (idx_lt2 aE hL1_1) rfl ?_
   replace hm := (mk_Block_ aA.jump aA.on hm 0 1 2 rfl).pk (L' := [ow [aI, aJ, nV aA.jump, nV aA.on, aK] (aA : Block_), ow [sV aM aN aB.length aC] aD]) [0, 3] rfl rfl
   replace hm := (hm.both 1 0 (by decide) rfl rfl).pk (L' := [both (ow [sV aM aN aB.length aC] aD) (ow [aI, aJ, nV aA.jump, nV aA.on, aK] (aA : Block_))]) [1] rfl rfl
   refine gf0 rfl (fun a hf => e_putElem (x1 := (aA : Block_)) (vs := [aI, aJ, nV aA.jump, nV aA.on, aK]) 0 hf hm rfl aE rfl sizeOf63 rfl rfl rfl rfl) ?_
   rintro _ w hm
   have bC := List.getElem?_set_self (a := (aA : Block_)) (idx_lt aE)
   exact gE (gR (gM rfl (gP (by omega) (by omega) rfl (gA rfl (gE (gze hm [0] rfl))))))
  repeat clear hm
  intro bD bE w hm bF bG
  exact gS (gS (gR (gM rfl (gM rfl (gY (yV st_86 rfl) (gB rfl (gE (go _ 11 rfl (decide_eq_false (by omega)) (gcf rfl (gXt (gHh (gS (gR (gM rfl (gA rfl (gE (gRt (gr1 results157 rfl ⟨.slice aF aB.length aC, rfl, hm.pk [0] rfl rfl⟩))))))))))))))))))
theorem laws_toCode_ok (w0 : World) (a_ : Code_) (v1 : Value) (h1 : GT.rep (hp w0) [v1] a_.blocks) :
    ConM Tryz.prog 93 [(.agg #[nV a_.params, nV a_.regs, v1])] w0 (laws_toCode a_) fun r v w' => ∃ (x1 : Value), v = (.agg #[nV r.params, nV r.regs, x1]) ∧ Mem w0 (hp w0) w' [ow [x1] r.blocks] := by
  unfold laws_toCode
  refine gcon func93 rfl fun r => ?_
  have hm := Mem.start w0
  refine gS (gR (gBx hm rfl fun aB w hm => gAl hm zeroValue49 rfl fun aC w hm => gE (gS (gR (gAl hm zeroValue49 rfl fun aD w hm => gE (gS (gR (gF fo_88_0 rfl (gL hm 2 isAgg3 rfl (gF fo_49_0 rfl (gS1 hm 0 sizeOf3 rfl rfl fun w hm => gE (gS (gR (gF fo_88_1 rfl (gL hm 2 isAgg3 rfl (gF fo_49_1 rfl (gS1 hm 0 sizeOf3 rfl rfl fun w hm => gE (gS (gR (gF fo_88_2 rfl (gL hm 2 isAgg86 rfl (gCg rfl call157 (laws_toBlockS_ok _ a_.blocks v1 (hm.now h1)) ?_))))))))))))))))))))))
  rintro aE aF aA w ⟨_, rfl, hB⟩
  replace hm := hm.give hB; clear hB
  exact gF fo_49_2 rfl (gS1 hm 1 sizeOf47 (rep_one (hm.ow_rep 0 rfl)) rfl fun w hm => gE (gS (gR (gY (yn (hm.blk_at 1 rfl) isAgg49 sizeOf49 rfl) (gSN hm 2 sizeOf49 (one_cons rfl (one_cons rfl (one_cons (rep_one (hm.ow_rep 0 rfl)) one_nil))) rfl fun w hm => gE (gRt (grc 2 results93 hm rfl isAgg49 sizeOf49 ⟨aA, rfl, hm.pk [0] rfl rfl⟩)))))))
theorem laws_toCodeS_ok (w0 : World) (a_ : List Code_) (v1 : Value) (h1 : GT.rep (hp w0) [v1] a_) :
    ConM Tryz.prog 45 [v1] w0 (laws_toCodeS a_) fun r v w' => ∃ (x1 : Value), v = x1 ∧ Mem w0 (hp w0) w' [ow [x1] r] := by
  unfold laws_toCodeS
  refine gcon func45 rfl fun r => ?_
  have hm := Mem.start w0
  refine gS (gR (gA rfl (gE (gS (gR (gM rfl ?_))))))
  obtain ⟨aM, aN, rfl, aY⟩ := ro_slice h1
  refine gY (yV st_22 rfl) (gb fun aB aO => ?_)
  obtain ⟨⟨aP, aQ⟩, aJ⟩ := makeM_some.1 aO
  refine gf rfl (fun a hf => e_make (x0 := ((⟨0, 0, []⟩ : Code_) : Code_)) et_26 (fun _ => ⟨[nV 0], [nV 0, .slice none 0 0], rfl, fun _ => False, fun _ => False, fun _ h => h.elim, fun _ h => h.elim, fun _ h => h.elim, (Flat.own_iff.2 rfl), ⟨[nV 0], [.slice none 0 0], rfl, fun _ => False, fun _ => False, fun _ h => h.elim, fun _ h => h.elim, fun _ h => h.elim, (Flat.own_iff.2 rfl), (own_list.2 (.inl ⟨rfl, rfl⟩))⟩⟩) hf hm rfl rfl rfl aP (Int.le_refl _) aQ) ?_
  rintro aZ w hm
  rw [aJ] at hm
  have h0_1l : (aB.length : Int) = (a_.length : Int) := by rw [← aJ]; simp only [List.length_replicate]; omega
  refine gA rfl (gE (gS (gS (gR (gA rfl (gE ?_))))))
  obtain ⟨aF, aC, rfl, aa⟩ := ro_slice (hm.ow_rep 0 rfl)
  refine gBk (gNf hm (fun aG aD => [(0, (.slice aM a_.length aN)), (3, (.slice aF aB.length aC)), (4, (nV aG))]) (fun aG aD => [ow [.slice aF aB.length aC] aD]) [0] rfl ?_ ?_)
  ·repeat clear hm
   intro _ _ aG aD w hm ab ac ae _
   refine gS (gS (gR (gM rfl (gM rfl (gY (yV st_22 rfl) (gB rfl (gE (go _ 11 rfl (decide_eq_true (by omega)) (gct rfl (gSk (gS (gBk (gR (gM rfl (gM rfl (gM rfl (gM rfl (gg fun aR aS aH => ?_))))))))))))))))))
   obtain ⟨af, ag, ah, he⟩ := idx_form' h1 aH
   obtain ⟨rfl, _, rfl⟩ := sl3 he
   obtain ⟨aT, aV, aW⟩ := rk_Code_ h1 aH
   refine gI st_22 aS (idx_lt aH) rfl (gY (yn (aV.mono hm.lez) isAgg88 sizeOf88 rfl) (gCg rfl call93 (laws_toCode_ok _ aR aT (hm.now aW)) ?_))
   rintro aA ai aj w ⟨aI, rfl, hB⟩
   replace hm := hm.give hB; clear hB
   refine gg fun ak aX aE => ?_
   obtain ⟨aK, aL, am, he⟩ := idx_form' (hm.ow_rep 1 rfl) aE
   obtain ⟨rfl, _, rfl⟩ := sl3 he
   obtain ⟨an, ao, ap⟩ := rk_Code_ (hm.ow_rep 1 rfl) aE
   have hL1_1 := rep_slice_len (hm.ow_rep 1 rfl)
   refine gI st_26 aX (idx_lt2 aE hL1_1) rfl ?_
   replace hm : Mem w0 (hp w0) _ [ow [nV aA.params, nV aA.regs, aI] (aA : Code_), ow [sV aK aL aB.length aC] aD] := mk_Code_ aA.params aA.regs hm 0 rfl
   replace hm := (hm.both 1 0 (by decide) rfl rfl).pk (L' := [both (ow [sV aK aL aB.length aC] aD) (ow [nV aA.params, nV aA.regs, aI] (aA : Code_))]) [1] rfl rfl
   refine gf0 rfl (fun a hf => e_putElem (x1 := (aA : Code_)) (vs := [nV aA.params, nV aA.regs, aI]) 0 hf hm rfl aE rfl sizeOf49 rfl rfl rfl rfl) ?_
   rintro _ w hm
   have aq := List.getElem?_set_self (a := (aA : Code_)) (idx_lt aE)
   exact gE (gR (gM rfl (gP (by omega) (by omega) rfl (gA rfl (gE (gze hm [0] rfl))))))
  repeat clear hm
  intro ar au w hm av aw
  exact gS (gS (gR (gM rfl (gM rfl (gY (yV st_22 rfl) (gB rfl (gE (go _ 11 rfl (decide_eq_false (by omega)) (gcf rfl (gXt (gHh (gS (gR (gM rfl (gA rfl (gE (gRt (gr1 results45 rfl ⟨.slice aF aB.length aC, rfl, hm.pk [0] rfl rfl⟩))))))))))))))))))
theorem laws_toUnit_ok (w0 : World) (a_ : Unit_) (v1 : Value) (h1 : GT.rep (hp w0) [v1] a_.codes) :
    ConM Tryz.prog 15 [(.agg #[v1])] w0 (laws_toUnit a_) fun r v w' => ∃ (x1 : Value), v = (.agg #[x1]) ∧ Mem w0 (hp w0) w' [ow [x1] r.codes] := by
  unfold laws_toUnit
  refine gcon func15 rfl fun r => ?_
  have hm := Mem.start w0
  refine gS (gR (gBx hm rfl fun aB w hm => gAl hm zeroValue28 rfl fun aC w hm => gE (gS (gR (gAl hm zeroValue28 rfl fun aD w hm => gE (gS (gR (gF fo_24_0 rfl (gL hm 2 isAgg22 rfl (gCg rfl call45 (laws_toCodeS_ok _ a_.codes v1 (hm.now h1)) ?_))))))))))
  rintro aE aF aA w ⟨_, rfl, hB⟩
  replace hm := hm.give hB; clear hB
  exact gF fo_28_0 rfl (gS1 hm 1 sizeOf26 (rep_one (hm.ow_rep 0 rfl)) rfl fun w hm => gE (gS (gR (gY (yn (hm.blk_at 1 rfl) isAgg28 sizeOf28 rfl) (gSN hm 2 sizeOf28 (one_cons (rep_one (hm.ow_rep 0 rfl)) one_nil) rfl fun w hm => gE (gRt (grc 2 results15 hm rfl isAgg28 sizeOf28 ⟨aA, rfl, hm.pk [0] rfl rfl⟩)))))))
theorem spec_l1In_ok (w0 : World) (n_ : Int) (low : Int) (high : Int) :
    ConM Tryz.prog 41 [nV n_, nV low, nV high] w0 (spec_l1In n_ low high) fun r v w' => v = (.bool (r)) ∧ Below w0.heap.size w0 w' := by
  unfold spec_l1In
  refine gcon func41 rfl fun r => ?_
  have hm := Mem.start w0
  refine gS (gR (gA rfl (gE (gS (gJ hm (fun aA => [(6, (.bool (aA)))]) (fun aA => []) (fun aA => ?_) ?_)))))
  ·refine gR (gM rfl (gM rfl (gB rfl (gM rfl (gsd 10 rfl (fun aB => ?_) fun aB => ?_)))))
   ·exact gM rfl (gM rfl (gB rfl (gKt rfl (gA rfl (gE (gz hm [] rfl))))))
   exact gO rfl (gO rfl (gO rfl (gKf rfl (gA rfl (gE (gz hm [] rfl))))))
  repeat clear hm
  intro aA w hm
  exact gRt (gr1 results41 rfl ⟨rfl, hm.below⟩)
theorem spec_l7Regs_ok (w0 : World) (c_ : Code_) (v1 : Value) (h1 : GT.rep (hp w0) [v1] c_.blocks) (list : List Int) (v2 : Value) (h2 : GT.rep (hp w0) [v2] list) :
    ConM Tryz.prog 154 [(.agg #[nV c_.params, nV c_.regs, v1]), v2] w0 (spec_l7Regs c_ list) fun r v w' => v = (.bool (r)) ∧ Below w0.heap.size w0 w' := by
  unfold spec_l7Regs
  refine gcon func154 rfl fun r => ?_
  have hm := Mem.start w0
  refine gS (gR (gBx hm rfl fun aA w hm => gA rfl (gE (gS (gS (gR (gA rfl (gE (gBk (gNf hm (fun aB aD => [(1, v2), (2, (pV aA)), (5, (nV aB))]) (fun aB aD => [blk aA [nV c_.params, nV c_.regs, v1] 49]) [0] rfl ?_ ?_))))))))))
  ·repeat clear hm
   intro aK aF aB aD w hm aL aM aN aG
   refine gS (gS (gR (gM rfl (gM rfl ?_))))
   obtain ⟨aO, aP, rfl, aQ⟩ := ro_slice h2
   refine gY (yV st_43 rfl) (gB rfl (gE (go _ 9 rfl (decide_eq_true (by omega)) (gct rfl (gSk (gS (gBk (gS (gW (.p 0 (.p 1 (.p 2 (.p 4 (.q 3 (.e 5 (.p 6 (.e 7 (.p 8 .fin) .nil)) .nil)))))) [5] [0, 1, 2, 4, 6, 8] hm [0] [blk aA [nV c_.params, nV c_.regs, v1] 49] rfl mxo (by kernel_rfl) (fun _ _ _ h => h.2) fun w hm hS => tP rfl (fun w => yM rfl) (tP rfl (fun w => yM rfl) (gg fun aE aH aC => ?_)))))))))))
   obtain ⟨aR, aS, aT, he⟩ := idx_form h2 aC
   obtain ⟨rfl, _, rfl⟩ := sl3 he
   refine tP rfl (fun w => yI st_43 aH (idx_lt aC) rfl) (tP rfl (fun w => yF fo_49_1 rfl) (tQ rfl hS (fun w hm => yl isAgg3 ((flat_cells (cs := [nV aE]) (hm.now h2) aC rfl).cell (j := 0) rfl) rfl) (tO (tY rfl (yL hm 0 isAgg3 rfl) (tAs hS (tP rfl (fun w => yB rfl) (tO (gb fun aV aI => tf rfl rfl (fun a hf => e_call hf rfl call41 rfl (spec_l1In_ok _ aE 0 (w64 (c_.regs - 1)) _ aI)) ?_))))))))
   rintro aW w ⟨rfl, hB⟩
   replace hm := hm.below' hB; clear hB
   refine tAn rfl (tP rfl (fun w => yN rfl) (tE (gsn 20 rfl (fun aJ => ?_) fun aJ => ?_)))
   ·exact gct rfl (gS (gR (gA rfl (gE (gRt (gLr aG aF (gr1 results154 rfl ⟨rfl, hm.below⟩)))))))
   exact gcf rfl (gSk (gR (gM rfl (gP (by omega) (by omega) rfl (gA rfl (gE (gze hm [0] rfl)))))))
  repeat clear hm
  intro aX aY w hm aZ aa
  refine gS (gS (gR (gM rfl (gM rfl ?_))))
  obtain ⟨ab, ac, rfl, ae⟩ := ro_slice h2
  exact gY (yV st_43 rfl) (gB rfl (gE (go _ 9 rfl (decide_eq_false (by omega)) (gcf rfl (gXt (gHh (gS (gR (gA rfl (gE (gRt (gr1 results154 rfl ⟨rfl, hm.below⟩))))))))))))
theorem spec_l7Makes_ok (w0 : World) (op : Int) :
    ConM Tryz.prog 89 [nV op] w0 (spec_l7Makes op) fun r v w' => v = (.bool (r)) ∧ Below w0.heap.size w0 w' := by
  unfold spec_l7Makes
  refine gcon func89 rfl fun r => ?_
  have hm := Mem.start w0
  refine gS (gR (gA rfl (gE (gS (gJ hm (fun aA => [(2, (.bool (aA)))]) (fun aA => []) (fun aA => ?_) ?_)))))
  ·refine gR (gM rfl (gC hm rfl call41 (spec_l1In_ok _ op 1 14) fun aD aE w hm => gM rfl (gs 5 rfl (fun aB => ?_) fun aB => ?_)))
   ·refine gM rfl (gB rfl (gKt rfl (gM rfl (gsd 9 rfl (fun aC => ?_) fun aC => ?_))))
    ·exact gM rfl (gB rfl (gKt rfl (gA rfl (gE (gz hm [] rfl)))))
    exact gO rfl (gO rfl (gKf rfl (gA rfl (gE (gz hm [] rfl)))))
   exact gO rfl (gO rfl (gKf rfl (gM rfl (gO rfl (gO rfl (gKf rfl (gA rfl (gE (gz hm [] rfl)))))))))
  repeat clear hm
  intro aA w hm
  exact gRt (gr1 results89 rfl ⟨rfl, hm.below⟩)
theorem spec_l7Args_ok (w0 : World) (op : Int) :
    ConM Tryz.prog 234 [nV op] w0 (spec_l7Args op) fun r v w' => v = (nV r) ∧ Below w0.heap.size w0 w' := by
  unfold spec_l7Args
  refine gcon func234 rfl fun r => ?_
  have hm := Mem.start w0
  refine gS (gR (gA rfl (gE (gS (gBk (gS (gR (gM rfl (gB rfl (gA rfl (gE (gsd 3 rfl (fun aC => ?_) fun aC => ?_))))))))))))
  ·exact gct rfl (gS (gR (gA rfl (gE (gRt (gr1 results234 rfl ⟨rfl, hm.below⟩))))))
  refine gcf rfl (gS (gJ hm (fun aA => [(0, (nV op)), (6, (.bool (aA)))]) (fun aA => []) (fun aA => ?_) ?_))
  ·refine gR (gM rfl (gB rfl (gM rfl (gsd 9 rfl (fun aD => ?_) fun aD => ?_))))
   ·exact gO rfl (gO rfl (gKt rfl (gM rfl (gO rfl (gO rfl (gKt rfl (gM rfl (gO rfl (gO rfl (gKt rfl (gA rfl (gE (gz hm [] rfl)))))))))))))
   refine gM rfl (gB rfl (gKf rfl (gM rfl (gsd 13 rfl (fun aE => ?_) fun aE => ?_))))
   ·exact gO rfl (gO rfl (gKt rfl (gM rfl (gO rfl (gO rfl (gKt rfl (gA rfl (gE (gz hm [] rfl)))))))))
   refine gM rfl (gB rfl (gKf rfl (gM rfl (gsd 17 rfl (fun aF => ?_) fun aF => ?_))))
   ·exact gO rfl (gO rfl (gKt rfl (gA rfl (gE (gz hm [] rfl)))))
   exact gM rfl (gB rfl (gKf rfl (gA rfl (gE (gz hm [] rfl)))))
  repeat clear hm
  intro aA w hm
  refine gs 6 rfl (fun aG => ?_) fun aG => ?_
  ·exact gct rfl (gS (gR (gA rfl (gE (gRt (gr1 results234 rfl ⟨rfl, hm.below⟩))))))
  refine gcf rfl (gS (gJ hm (fun aB => [(21, (.bool (aB)))]) (fun aB => []) (fun aB => ?_) ?_))
  ·refine gR (gM rfl (gC hm rfl call41 (spec_l1In_ok _ op 3 9) fun aJ aK w hm => gM rfl (gs 24 rfl (fun aH => ?_) fun aH => ?_)))
   ·exact gO rfl (gO rfl (gKt rfl (gA rfl (gE (gz hm [] rfl)))))
   exact gM rfl (gB rfl (gKf rfl (gA rfl (gE (gz hm [] rfl)))))
  repeat clear hm
  intro aB w hm
  refine gs 21 rfl (fun aI => ?_) fun aI => ?_
  ·exact gct rfl (gS (gR (gA rfl (gE (gRt (gr1 results234 rfl ⟨rfl, hm.below⟩))))))
  exact gcf rfl (gSk (gS (gR (gA rfl (gE (gRt (gr1 results234 rfl ⟨rfl, hm.below⟩)))))))
theorem spec_l7Ins_ok (w0 : World) (u : Unit_) (v1 : Value) (h1 : GT.rep (hp w0) [v1] u.codes) (k_ : Int) (x_ : Ins_) (v2 : Value) (h2 : GT.rep (hp w0) [v2] x_.args) :
    ConM Tryz.prog 153 [(.agg #[v1]), nV k_, (.agg #[nV x_.op, nV x_.to, v2, nV x_.n_])] w0 (spec_l7Ins u k_ x_) fun r v w' => v = (.bool (r)) ∧ Below w0.heap.size w0 w' := by
  unfold spec_l7Ins
  refine gcon func153 rfl fun r => ?_
  have hm := Mem.start w0
  refine gS (gR (gBx hm rfl fun aA w hm => gBx hm rfl fun aB w hm => gA rfl (gE (gS (gR (gF fo_28_0 rfl (gL hm 1 isAgg26 rfl (gM rfl (gg fun aC aP aK => ?_)))))))))
  obtain ⟨aD, aE, aF, he⟩ := idx_form' h1 aK
  subst he
  obtain ⟨aL, aQ, aN⟩ := rk_Code_ h1 aK
  refine gI st_26 aP (idx_lt aK) rfl (gY (yn (aQ.mono hm.lez) isAgg49 sizeOf49 rfl) (gAl hm zeroValue49 rfl fun aM w hm => gSN hm 0 sizeOf49 (one_cons rfl (one_cons rfl (one_cons (rep_one aN) one_nil))) rfl fun w hm => gE (gS (gS (gJ hm (fun aG => [(1, (nV k_)), (3, (pV aA)), (5, (pV aB)), (7, (pV aM)), (23, (.bool (aG)))]) (fun aG => [blk aA [sV aD aE u.codes.length aF] 28, blk aB [nV x_.op, nV x_.to, v2, nV x_.n_] 65, blk aM [nV aC.params, nV aC.regs, aL] 49]) (fun aG => ?_) ?_)))))
  ·refine gR (gF fo_65_0 rfl (gL hm 1 isAgg3 rfl (gC hm rfl call41 (spec_l1In_ok _ x_.op 1 14) fun am an w hm => gN rfl (gM rfl (gsn 17 rfl (fun aR => ?_) fun aR => ?_)))))
   ·exact gO rfl (gO rfl (gO rfl (gO rfl (gO rfl (gKt rfl (gE (gz hm [2, 1, 0] rfl)))))))
   exact gY (yn (hm.blk_at 0 rfl) isAgg49 sizeOf49 rfl) (gF fo_65_2 rfl (gL hm 1 isAgg43 rfl (gC hm rfl call154 (spec_l7Regs_ok _ aC aL (hm.now aN) x_.args v2 (hm.now h2)) fun ao ap w hm => gN rfl (gKf rfl (gE (gz hm [2, 1, 0] rfl))))))
  repeat clear hm
  intro aG w hm
  refine gs 23 rfl (fun aS => ?_) fun aS => ?_
  ·exact gct rfl (gS (gR (gA rfl (gE (gRt (gr1 results153 rfl ⟨rfl, hm.below⟩))))))
  refine gcf rfl (gSk (gS (gS (gJ hm (fun aH => [(1, (nV k_)), (3, (pV aA)), (5, (pV aB)), (44, (.bool (aH)))]) (fun aH => [blk aA [sV aD aE u.codes.length aF] 28, blk aB [nV x_.op, nV x_.to, v2, nV x_.n_] 65]) (fun aH => ?_) ?_))))
  ·refine gW (.p 0 (.p 3 (.p 5 (.q 1 (.q 4 (.q 6 (.p 7 (.e 2 (.e 8 (.p 9 (.p 10 (.p 11 (.e 12 (.e 13 (.p 14 (.p 15 (.p 16 (.e 17 (.p 18 (.p 19 (.p 20 .fin))) .nil)))) .nil) .nil)))) .nil) .nil)))))))) [1, 2, 4, 6] [0, 3, 5, 7, 9, 10, 11, 14, 15, 16, 18, 19, 20] hm [0, 1, 2] [blk aA [sV aD aE u.codes.length aF] 28, blk aB [nV x_.op, nV x_.to, v2, nV x_.n_] 65, blk aM [nV aC.params, nV aC.regs, aL] 49] rfl mxo (by kernel_rfl) (fun _ _ _ h => h.2) fun w hm hS => tP rfl (fun w => yF fo_65_0 rfl) (tP rfl (fun w => yF fo_65_1 rfl) (tP rfl (fun w => yF fo_49_1 rfl) (tQ rfl hS (fun w hm => yL hm 1 isAgg3 rfl) (tQ rfl hS (fun w hm => yL hm 1 isAgg3 rfl) (tQ rfl hS (fun w hm => yL hm 2 isAgg3 rfl) (tP rfl (fun w => yB rfl) (tO (gb fun aq aT => tf rfl rfl (fun a hf => e_call hf rfl call89 rfl (spec_l7Makes_ok _ x_.op _ aT)) ?_))))))))
   rintro ar w ⟨rfl, hB⟩
   replace hm := hm.below' hB; clear hB
   refine tAk hm [0, 1, 2] rfl fun hS => tO (gb fun au aV => tf rfl rfl (fun a hf => e_call hf rfl call41 rfl (spec_l1In_ok _ x_.to 0 (w64 (aC.regs - 1)) _ aV)) ?_)
   rintro av w ⟨rfl, hB⟩
   replace hm := hm.below' hB; clear hB
   refine tAn rfl (tP rfl (fun w => yG rfl (y_neqb underlying4 rfl rfl rfl)) (tP rfl (fun w => yM rfl) (gsd 34 rfl (fun aW => ?_) fun aW => ?_)))
   ·exact tPo rfl rfl (tO (tEo rfl rfl (tAn rfl (tO (tEo rfl rfl (tAn rfl (tPo rfl rfl (tPo rfl rfl (tPo rfl rfl (tO (tEo rfl rfl (tAn rfl (tPo rfl rfl (tPo rfl rfl (tP rfl (fun w => yKt rfl) (tE (gz hm [0, 1] rfl)))))))))))))))))
   refine tP rfl (fun w => yF fo_65_0 rfl) (tO (tY rfl (yL hm 1 isAgg3 rfl) (tAn rfl (tO (gb fun aw aX => tf rfl rfl (fun a hf => e_call hf rfl call89 rfl (spec_l7Makes_ok _ x_.op _ aX)) ?_)))))
   rintro ax w ⟨rfl, hB⟩
   replace hm := hm.below' hB; clear hB
   refine tAn rfl (tP rfl (fun w => yN rfl) (tP rfl (fun w => yM rfl) (gsn 39 rfl (fun aY => ?_) fun aY => ?_)))
   ·exact tP rfl (fun w => yF fo_65_1 rfl) (tO (tY rfl (yL hm 1 isAgg3 rfl) (tAn rfl (tP rfl (fun w => yB rfl) (tP rfl (fun w => yKt rfl) (tP rfl (fun w => yKf rfl) (tE (gz hm [0, 1] rfl))))))))
   exact tPo rfl rfl (tO (tEo rfl rfl (tAn rfl (tPo rfl rfl (tP rfl (fun w => yKf rfl) (tP rfl (fun w => yKf rfl) (tE (gz hm [0, 1] rfl))))))))
  repeat clear hm
  intro aH w hm
  refine gs 44 rfl (fun aZ => ?_) fun aZ => ?_
  ·exact gct rfl (gS (gR (gA rfl (gE (gRt (gr1 results153 rfl ⟨rfl, hm.below⟩))))))
  refine gcf rfl (gSk (gS (gS (gR (gF fo_65_0 rfl (gL hm 1 isAgg3 rfl (gB rfl (gE (gsd 47 rfl (fun aa => ?_) fun aa => ?_)))))))))
  ·refine gct rfl (gS (gJ hm (fun aI => [(6, (.bool (aI)))]) (fun aI => []) (fun aI => ?_) ?_))
   ·refine gW (.p 0 (.p 2 (.p 3 (.e 1 (.e 4 (.p 5 (.p 6 (.p 9 (.p 11 (.q 7 (.p 8 (.q 10 (.e 12 (.p 13 (.p 14 (.e 15 (.p 16 (.p 17 (.p 18 .fin))) .nil))) .nil)))))))) .nil) .nil)))) [7, 10, 12, 15] [0, 2, 3, 5, 6, 8, 9, 11, 13, 14, 16, 17, 18] hm [0, 1] [blk aA [sV aD aE u.codes.length aF] 28, blk aB [nV x_.op, nV x_.to, v2, nV x_.n_] 65] rfl mxo (by kernel_rfl) (fun _ _ _ h => h.2) fun w hm hS => tP rfl (fun w => yF fo_65_3 rfl) (tP rfl (fun w => yM rfl) (tP rfl (fun w => yB rfl) (tO (tY rfl (yL hm 1 isAgg3 rfl) (tAn rfl (tO (gb fun ay ab => tf rfl rfl (fun a hf => e_call hf rfl call41 rfl (spec_l1In_ok _ x_.n_ 0 (w64 (k_ - 1)) _ ab)) ?_)))))))
    rintro az w ⟨rfl, hB⟩
    replace hm := hm.below' hB; clear hB
    refine tAk hm [0, 1] rfl fun hS => tP rfl (fun w => yM rfl) (gs 53 rfl (fun ac => ?_) fun ac => ?_)
    ·refine tP rfl (fun w => yF fo_65_2 rfl) (tP rfl (fun w => yF fo_28_0 rfl) (tP rfl (fun w => yF fo_65_3 rfl) (tQ rfl hS (fun w hm => yL hm 1 isAgg43 rfl) ?_)))
     obtain ⟨bA, bB, rfl, bC⟩ := ro_slice h2
     refine tP rfl (fun w => yV st_43 rfl) (tQ rfl hS (fun w hm => yL hm 0 isAgg26 rfl) (tO (tY rfl (yL hm 1 isAgg3 rfl) (tAs hS (gg fun bD ae aO => ?_)))))
     obtain ⟨bE, af, bF⟩ := rk_Code_ h1 aO
     exact tP rfl (fun w => yI st_26 ae (idx_lt aO) rfl) (tP rfl (fun w => yF fo_49_0 rfl) (tO (tY rfl (yl isAgg3 ((af.mono hm.lez).cell (j := 0) rfl) rfl) (tAs hS (tP rfl (fun w => yB rfl) (tP rfl (fun w => yKt rfl) (tP rfl (fun w => yA rfl) (tE (gz hm [] rfl)))))))))
    exact tPo rfl rfl (tPo rfl rfl (tPo rfl rfl (tQo rfl hS rfl (tPo rfl rfl (tQo rfl hS rfl (tO (tEo rfl rfl (tAs hS (tPo rfl rfl (tPo rfl rfl (tO (tEo rfl rfl (tAs hS (tPo rfl rfl (tP rfl (fun w => yKf rfl) (tP rfl (fun w => yA rfl) (tE (gz hm [] rfl))))))))))))))))))
   repeat clear hm
   intro aI w hm
   exact gRt (gr1 results153 rfl ⟨rfl, hm.below⟩)
  refine gcf rfl (gSk (gS (gJ hm (fun aJ => [(6, (.bool (aJ)))]) (fun aJ => []) (fun aJ => ?_) ?_)))
  ·refine gW (.p 0 (.p 3 (.q 1 (.p 2 (.e 4 (.e 5 (.p 6 (.p 7 (.p 8 (.e 9 (.e 10 (.p 11 (.p 12 (.p 13 (.e 14 (.p 15 (.p 16 (.p 17 (.e 18 (.p 19 (.p 20 (.p 21 (.p 22 .fin)))) .nil)))) .nil)))) .nil) .nil)))) .nil) .nil))))) [4, 5] [0, 2, 3, 6, 7, 8, 11, 12, 13, 15, 16, 17, 19, 20, 21, 22] hm [0, 1] [blk aA [sV aD aE u.codes.length aF] 28, blk aB [nV x_.op, nV x_.to, v2, nV x_.n_] 65] rfl mxo (by kernel_rfl) (fun _ _ _ h => h.2) fun w hm hS => tP rfl (fun w => yF fo_65_2 rfl) (tP rfl (fun w => yF fo_65_0 rfl) (tQ rfl hS (fun w hm => yL hm 1 isAgg43 rfl) ?_))
   obtain ⟨bG, bH, rfl, bJ⟩ := ro_slice h2
   refine tP rfl (fun w => yV st_43 rfl) (tO (tY rfl (yL hm 1 isAgg3 rfl) (tAs hS (tO (gb fun bK ag => tf rfl rfl (fun a hf => e_call hf rfl call234 rfl (spec_l7Args_ok _ x_.op _ ag)) ?_)))))
   rintro bL w ⟨rfl, hB⟩
   replace hm := hm.below' hB; clear hB
   refine tAk hm [0, 1] rfl fun hS => tP rfl (fun w => yB rfl) (tP rfl (fun w => yM rfl) (gsd 73 rfl (fun ah => ?_) fun ah => ?_))
   ·refine tP rfl (fun w => yF fo_65_3 rfl) (tO (tY rfl (yL hm 1 isAgg3 rfl) (tAn rfl (tO (gb fun bM ai => tf rfl rfl (fun a hf => e_call hf rfl call41 rfl (spec_l1In_ok _ x_.n_ 0 255 _ ai)) ?_)))))
    rintro bN w ⟨rfl, hB⟩
    replace hm := hm.below' hB; clear hB
    refine tAn rfl (tP rfl (fun w => yKt rfl) (tP rfl (fun w => yM rfl) (gs 78 rfl (fun aj => ?_) fun aj => ?_)))
    ·refine tP rfl (fun w => yF fo_65_3 rfl) (tO (tY rfl (yL hm 1 isAgg3 rfl) (tAn rfl (tP rfl (fun w => yB rfl) (tP rfl (fun w => yM rfl) (gsd 82 rfl (fun ak => ?_) fun ak => ?_))))))
     ·exact tPo rfl rfl (tO (tEo rfl rfl (tAn rfl (tPo rfl rfl (tP rfl (fun w => yKt rfl) (tP rfl (fun w => yKt rfl) (tP rfl (fun w => yA rfl) (tE (gz hm [] rfl)))))))))
     exact tP rfl (fun w => yF fo_65_0 rfl) (tO (tY rfl (yL hm 1 isAgg3 rfl) (tAn rfl (tP rfl (fun w => yB rfl) (tP rfl (fun w => yKf rfl) (tP rfl (fun w => yKt rfl) (tP rfl (fun w => yA rfl) (tE (gz hm [] rfl)))))))))
    exact tPo rfl rfl (tO (tEo rfl rfl (tAn rfl (tPo rfl rfl (tPo rfl rfl (tPo rfl rfl (tO (tEo rfl rfl (tAn rfl (tPo rfl rfl (tPo rfl rfl (tP rfl (fun w => yKf rfl) (tP rfl (fun w => yA rfl) (tE (gz hm [] rfl)))))))))))))))
   exact tPo rfl rfl (tO (tEo rfl rfl (tAn rfl (tO (tEo rfl rfl (tAn rfl (tP rfl (fun w => yKf rfl) (tP rfl (fun w => yM rfl) (tPo rfl rfl (tO (tEo rfl rfl (tAn rfl (tPo rfl rfl (tPo rfl rfl (tPo rfl rfl (tO (tEo rfl rfl (tAn rfl (tPo rfl rfl (tPo rfl rfl (tP rfl (fun w => yKf rfl) (tP rfl (fun w => yA rfl) (tE (gz hm [] rfl))))))))))))))))))))))))
  repeat clear hm
  intro aJ w hm
  exact gRt (gr1 results153 rfl ⟨rfl, hm.below⟩)
theorem spec_l7Preds_ok (w0 : World) (c_ : Code_) (v1 : Value) (h1 : GT.rep (hp w0) [v1] c_.blocks) (b_ : Int) :
    ConM Tryz.prog 129 [(.agg #[nV c_.params, nV c_.regs, v1]), nV b_] w0 (spec_l7Preds c_ b_) fun r v w' => ∃ (x1 : Value), v = x1 ∧ Mem w0 (hp w0) w' [ow [x1] r] := by
  unfold spec_l7Preds
  refine gcon func129 rfl fun r => ?_
  have hm := Mem.start w0
  refine gS (gR (gBx hm rfl fun aB w hm => gA rfl (gE (gS (gR (gf rfl (fun a hf => e_build0 (α := Int) et_43 hm rfl) ?_))))))
  rintro af w hm
  refine gA rfl (gE (gS (gS (gR (gA rfl (gE ?_))))))
  obtain ⟨aS, aT, rfl, ag⟩ := ro_slice (hm.ow_rep 0 rfl)
  refine gBk (gNg (fun aA aC a w => ∃ (aF : Value), St 43 [(1, (nV b_)), (2, (pV aB)), (5, aF), (6, (nV aA))] w0 (hp w0) [blk aB [nV c_.params, nV c_.regs, v1] 49, ow [aF] aC] a w) (fun a hf => ⟨.slice aS ([] : List Int).length aT, hf.sb rfl, hm.pk [1, 0] rfl rfl⟩) ?_ ?_)
  ·repeat clear hm
   rintro _ _ aA aC a w ⟨aF, hf, hm⟩ ah ai aj _
   refine gv hf (gS (gS (gR (gM rfl (gF fo_49_2 rfl (gL hm 0 isAgg47 rfl ?_))))))
   obtain ⟨aM, aN, rfl, ak⟩ := ro_slice h1
   refine gY (yV st_47 rfl) (gB rfl (gE (go _ 13 rfl (decide_eq_true (by omega)) (gct rfl (gSk (gS (gBk (gS (gR (gA rfl (gE ?_)))))))))))
   obtain ⟨aG, aH, rfl, am⟩ := ro_slice (hm.ow_rep 1 rfl)
   refine gJg (fun aI a w => ∃ (aD : Value), St 43 [(1, (nV b_)), (2, (pV aB)), (5, aD), (6, (nV aA))] w0 (hp w0) [blk aB [nV c_.params, nV c_.regs, .slice aM c_.blocks.length aN] 49, ow [aD] aI] a w) (fun aI => ?_) ?_
   ·refine gBk (gMf hm (fun aJ => [(1, (nV b_)), (2, (pV aB)), (5, (.slice aG aC.length aH)), (6, (nV aA)), (7, (nV aJ))]) (fun aJ => [blk aB [nV c_.params, nV c_.regs, .slice aM c_.blocks.length aN] 49, ow [.slice aG aC.length aH] aC]) [0, 1] rfl ?_)
    repeat clear hm
    intro an aO aJ w hm ao aP
    refine gS (gS (gR (gM rfl (gF fo_49_2 rfl (gL hm 0 isAgg47 rfl (gM rfl (gg fun ap aQ aE => ?_)))))))
    obtain ⟨aq, ar, au, he⟩ := idx_form' h1 aE
    obtain ⟨rfl, _, rfl⟩ := sl3 he
    obtain ⟨av, aw, ax, aR, ay, az, aK⟩ := rk_Block_ h1 aE
    refine gI st_47 aQ (idx_lt aE) rfl (gF fo_63_4 rfl (gY (yl isAgg43 ((aR.mono hm.lez).cell (j := 4) rfl) rfl) ?_))
    obtain ⟨bA, bB, rfl, bC⟩ := ro_slice aK
    refine gY (yV st_43 rfl) (gB rfl (gE (gsd 24 rfl (fun aV => ?_) fun aV => ?_)))
    ·refine gct rfl (gSk (gS (gBk (gS (gR (gF fo_49_2 rfl (gL hm 0 isAgg47 rfl (gM rfl (gI st_47 aQ (idx_lt aE) rfl (gF fo_63_4 rfl (gY (yl isAgg43 ((aR.mono hm.lez).cell (j := 4) rfl) rfl) (gM rfl (gg fun aW aX aL => ?_)))))))))))))
     obtain ⟨bD, bE, bF, he⟩ := idx_form aK aL
     obtain ⟨rfl, _, rfl⟩ := sl3 he
     refine gI st_43 aX (idx_lt aL) rfl (gY (yl isAgg3 ((flat_cells (cs := [nV aW]) (hm.now aK) aL rfl).cell (j := 0) rfl) rfl) (gM rfl (gB rfl (gE (gsd 37 rfl (fun aY => ?_) fun aY => ?_)))))
     ·refine gct rfl (gS (gR (gM rfl (gM rfl (gf rfl (fun a hf => e_build (vs := #[(0, (nV aA))]) (cs := [nV aA]) et_43 hf hm rfl rfl (by kernel_rfl) rfl rfl) ?_)))))
      rintro _ w ⟨bG, rfl, hm⟩
      replace hm := hm.lit (xs := ([aA] : List Int)) 0 rfl rfl rfl rfl
      refine gb fun bH aZ => ?_
      obtain ⟨aa, ab⟩ := appM_some.1 aZ
      refine gf rfl (fun a hf => e_append 2 et_43 hf hm rfl (hm.ow_rep 0 rfl) rfl rfl rfl aa) ?_
      rintro ac w hm
      rw [ab] at hm
      exact gA rfl (gE (gXt (gHm rfl (gHh (gLp aP aO (gZ fun a hf => ⟨ac, hf.sb rfl, hm.pk [1, 2] rfl rfl⟩))))))
     exact gcf rfl (gSk (gR (gM rfl (gB rfl (gA rfl (gE (gze hm [0, 1] rfl)))))))
    exact gcf rfl (gXt (gHh (gLp aP aO (gZ fun a hf => ⟨.slice aG aC.length aH, hf.sb rfl, hm.pk [0, 1] rfl rfl⟩))))
   repeat clear hm
   rintro aI a w ⟨aD, hf, hm⟩
   exact gv hf (gR (gM rfl (gP (by omega) (by omega) rfl (gA rfl (gE (gZe fun a hf => ⟨aD, hf.sb rfl, hm.pk [0, 1] rfl rfl⟩))))))
  repeat clear hm
  rintro bJ bK a w ⟨ae, hf, hm⟩ bL bM
  refine gv hf (gS (gS (gR (gM rfl (gF fo_49_2 rfl (gL hm 0 isAgg47 rfl ?_))))))
  obtain ⟨bN, bO, rfl, bP⟩ := ro_slice h1
  exact gY (yV st_47 rfl) (gB rfl (gE (go _ 13 rfl (decide_eq_false (by omega)) (gcf rfl (gXt (gHh (gS (gR (gM rfl (gA rfl (gE (gRt (gr1 results129 rfl ⟨ae, rfl, hm.pk [1] rfl rfl⟩)))))))))))))
theorem spec_l7Block_ok (w0 : World) (u : Unit_) (v1 : Value) (h1 : GT.rep (hp w0) [v1] u.codes) (k_ : Int) (b_ : Int) :
    ConM Tryz.prog 86 [(.agg #[v1]), nV k_, nV b_] w0 (spec_l7Block u k_ b_) fun r v w' => v = (.bool (r)) ∧ Below w0.heap.size w0 w' := by
  unfold spec_l7Block
  refine gcon func86 rfl fun r => ?_
  have hm := Mem.start w0
  refine gS (gR (gBx hm rfl fun aE w hm => gA rfl (gE (gS (gR (gF fo_28_0 rfl (gL hm 0 isAgg26 rfl (gM rfl (gg fun aB bD af => ?_)))))))))
  obtain ⟨aI, aJ, aK, he⟩ := idx_form' h1 af
  subst he
  obtain ⟨br, bE, aO⟩ := rk_Code_ h1 af
  refine gI st_26 bD (idx_lt af) rfl (gY (yn (bE.mono hm.lez) isAgg49 sizeOf49 rfl) (gAl hm zeroValue49 rfl fun aC w hm => gSN hm 0 sizeOf49 (one_cons rfl (one_cons rfl (one_cons (rep_one aO) one_nil))) rfl fun w hm => gE (gS (gR (gF fo_49_2 rfl (gL hm 0 isAgg47 rfl (gM rfl (gg fun aA bF ag => ?_))))))))
  obtain ⟨aF, aG, aH, he⟩ := idx_form' aO ag
  subst he
  obtain ⟨aL, aN, aQ, bG, aR, aS, aP⟩ := rk_Block_ aO ag
  refine gI st_47 bF (idx_lt ag) rfl (gY (yn (bG.mono hm.lez) isAgg63 sizeOf63 rfl) (gAl hm zeroValue63 rfl fun aD w hm => gSN hm 0 sizeOf63 (one_cons (rep_one aR) (one_cons (rep_one aS) (one_cons rfl (one_cons rfl (one_cons (rep_one aP) one_nil))))) rfl fun w hm => gE (gS (gR (gA rfl (gE (gS (gS (gR (gF fo_63_2 rfl (gL hm 0 isAgg3 rfl (gE (gJge (fun aZ a w => 0 ≤ aA.jump ∧ aA.jump ≤ 3 ∧ 0 ≤ aZ ∧ aZ ≤ 2 ∧ St 136 [(1, (nV k_)), (2, (nV b_)), (3, (pV aE)), (7, (pV aC)), (8, (pV aD)), (9, (nV aZ))] w0 (hp w0) [blk aE [sV aI aJ u.codes.length aK] 28, blk aC [nV aB.params, nV aB.regs, sV aF aG aB.blocks.length aH] 49, blk aD [aL, aN, nV aA.jump, nV aA.on, aQ] 63] a w) (fun bt au => ?_) ?_)))))))))))))
  ·refine gBk (gS (gR (gB rfl (gA rfl (gE (gJge (fun aa a w => 0 ≤ aA.jump ∧ aA.jump ≤ 3 ∧ 0 ≤ aa ∧ aa ≤ 2 ∧ St 136 [(1, (nV k_)), (2, (nV b_)), (3, (pV aE)), (7, (pV aC)), (8, (pV aD)), (9, (nV aa))] w0 (hp w0) [blk aE [sV aI aJ u.codes.length aK] 28, blk aC [nV aB.params, nV aB.regs, sV aF aG aB.blocks.length aH] 49, blk aD [aL, aN, nV aA.jump, nV aA.on, aQ] 63] a w) (fun bu av => ?_) ?_))))))
   ·refine gsd 26 rfl (fun bH => ?_) fun bH => ?_
    ·refine gct rfl (gS (gR (gF fo_63_3 rfl (gL hm 0 isAgg3 rfl (gB rfl (gE (gsd 30 rfl (fun bJ => ?_) fun bJ => ?_)))))))
     ·exact gct rfl (gS (gR (gA rfl (gE (gRt (gEr av (gEr au (gr1 results86 rfl ⟨rfl, hm.below⟩))))))))
     exact gcf rfl (gSk (gZe fun a hf => ⟨(by first | omega | (dsimp only; omega)), (by first | omega | (dsimp only; omega)), (by first | omega | (dsimp only; omega)), (by first | omega | (dsimp only; omega)), hf.sb rfl, hm.pk [2, 1, 0] rfl rfl⟩))
    refine gcf rfl (gS (gR (gB rfl (gA rfl (gE (gJge (fun ab a w => 0 ≤ aA.jump ∧ aA.jump ≤ 3 ∧ 0 ≤ ab ∧ ab ≤ 2 ∧ St 136 [(1, (nV k_)), (2, (nV b_)), (3, (pV aE)), (7, (pV aC)), (8, (pV aD)), (9, (nV ab))] w0 (hp w0) [blk aE [sV aI aJ u.codes.length aK] 28, blk aC [nV aB.params, nV aB.regs, sV aF aG aB.blocks.length aH] 49, blk aD [aL, aN, nV aA.jump, nV aA.on, aQ] 63] a w) (fun bv bK => ?_) ?_))))))
    ·refine gsd 31 rfl (fun bL => ?_) fun bL => ?_
     ·exact gct rfl (gR (gA rfl (gE (gZe fun a hf => ⟨(by first | omega | (dsimp only; omega)), (by first | omega | (dsimp only; omega)), (by first | omega | (dsimp only; omega)), (by first | omega | (dsimp only; omega)), hf.sb rfl, hm.pk [2, 1, 0] rfl rfl⟩))))
     refine gcf rfl (gS (gR (gB rfl (gA rfl (gE (gsd 33 rfl (fun bM => ?_) fun bM => ?_))))))
     ·exact gct rfl (gR (gA rfl (gE (gZe fun a hf => ⟨(by first | omega | (dsimp only; omega)), (by first | omega | (dsimp only; omega)), (by first | omega | (dsimp only; omega)), (by first | omega | (dsimp only; omega)), hf.sb rfl, hm.pk [2, 1, 0] rfl rfl⟩))))
     exact gcf rfl (gS (gR (gA rfl (gE (gRt (gEr bK (gEr av (gEr au (gr1 results86 rfl ⟨rfl, hm.below⟩)))))))))
    repeat clear hm
    rintro ab a w ⟨bw, bx, bz, cA, hf, hm⟩
    exact gv hf (gZe fun a hf => ⟨(by first | omega | (dsimp only; omega)), (by first | omega | (dsimp only; omega)), (by first | omega | (dsimp only; omega)), (by first | omega | (dsimp only; omega)), hf.sb rfl, hm.pk [0, 1, 2] rfl rfl⟩)
   repeat clear hm
   rintro aa a w ⟨cB, cC, cD, cE, hf, hm⟩
   exact gv hf (gZe fun a hf => ⟨(by first | omega | (dsimp only; omega)), (by first | omega | (dsimp only; omega)), (by first | omega | (dsimp only; omega)), (by first | omega | (dsimp only; omega)), hf.sb rfl, hm.pk [0, 1, 2] rfl rfl⟩)
  repeat clear hm
  rintro aZ a w ⟨cF, cG, cH, cI, hf, hm⟩
  refine gv hf (gS (gS (gJg (fun ah a w => 0 ≤ aA.jump ∧ aA.jump ≤ 3 ∧ St 136 [(1, (nV k_)), (2, (nV b_)), (3, (pV aE)), (7, (pV aC)), (8, (pV aD)), (53, (.bool (ah)))] w0 (hp w0) [blk aE [sV aI aJ u.codes.length aK] 28, blk aC [nV aB.params, nV aB.regs, sV aF aG aB.blocks.length aH] 49, blk aD [aL, aN, nV aA.jump, nV aA.on, aQ] 63] a w) (fun ah => ?_) ?_)))
  ·refine gR (gF fo_63_4 rfl (gL hm 2 isAgg43 rfl ?_))
   obtain ⟨cJ, cK, rfl, cL⟩ := ro_slice aP
   refine gY (yV st_43 rfl) (gM rfl (gB rfl (gM rfl (gsd 40 rfl (fun bN => ?_) fun bN => ?_))))
   ·exact gO rfl (gO rfl (gO rfl (gO rfl (gO rfl (gO rfl (gO rfl (gO rfl (gO rfl (gO rfl (gO rfl (gO rfl (gKt rfl (gE (gZ fun a hf => ⟨(by first | omega | (dsimp only; omega)), (by first | omega | (dsimp only; omega)), hf.sb rfl, hm.pk [0, 1, 2] rfl rfl⟩))))))))))))))
   refine gF fo_63_2 rfl (gL hm 2 isAgg3 rfl (gB rfl (gM rfl (gsd 44 rfl (fun bO => ?_) fun bO => ?_))))
   ·exact gF fo_63_3 rfl (gL hm 2 isAgg3 rfl (gF fo_49_1 rfl (gL hm 1 isAgg3 rfl (gB rfl (gC hm rfl call41 (spec_l1In_ok _ aA.on 0 (w64 (aB.regs - 1))) fun cM cN w hm => gN rfl (gKt rfl (gKf rfl (gE (gZ fun a hf => ⟨(by first | omega | (dsimp only; omega)), (by first | omega | (dsimp only; omega)), hf.sb rfl, hm.pk [0, 1, 2] rfl rfl⟩)))))))))
   exact gO rfl (gO rfl (gO rfl (gO rfl (gO rfl (gO rfl (gO rfl (gKf rfl (gKf rfl (gE (gZ fun a hf => ⟨(by first | omega | (dsimp only; omega)), (by first | omega | (dsimp only; omega)), hf.sb rfl, hm.pk [0, 1, 2] rfl rfl⟩))))))))))
  repeat clear hm
  rintro ah a w ⟨cO, cP, hf, hm⟩
  refine gv hf (gs 53 rfl (fun bP => ?_) fun bP => ?_)
  ·exact gct rfl (gS (gR (gA rfl (gE (gRt (gr1 results86 rfl ⟨rfl, hm.below⟩))))))
  refine gcf rfl (gSk (gS (gS (gR (gA rfl (gE (gBk (gNf hm (fun ai aw => [(1, (nV k_)), (2, (nV b_)), (3, (pV aE)), (7, (pV aC)), (8, (pV aD)), (10, (nV ai))]) (fun ai aw => [blk aE [sV aI aJ u.codes.length aK] 28, blk aC [nV aB.params, nV aB.regs, sV aF aG aB.blocks.length aH] 49, blk aD [aL, aN, nV aA.jump, nV aA.on, aQ] 63]) [0, 1, 2] rfl ?_ ?_))))))))
  ·repeat clear hm
   intro cQ bQ ai aw w hm cR cS cT bR
   refine gS (gS (gR (gM rfl (gF fo_63_4 rfl (gL hm 2 isAgg43 rfl ?_)))))
   obtain ⟨bS, bT, rfl, cU⟩ := ro_slice aP
   refine gY (yV st_43 rfl) (gB rfl (gE (go _ 58 rfl (decide_eq_true (by omega)) (gct rfl (gSk (gS (gBk (gS (gW (.p 0 (.p 2 (.p 5 (.q 1 (.p 3 (.q 4 (.e 6 (.p 7 (.p 8 (.e 9 (.p 10 .fin) .nil))) .nil))))))) [6] [0, 2, 3, 5, 7, 8, 10] hm [0, 1, 2] [blk aE [sV aI aJ u.codes.length aK] 28, blk aC [nV aB.params, nV aB.regs, sV aF aG aB.blocks.length aH] 49, blk aD [aL, aN, nV aA.jump, nV aA.on, .slice bS aA.next_.length bT] 63] rfl mxo (by kernel_rfl) (fun _ _ _ h => h.2) fun w hm hS => tP rfl (fun w => yF fo_63_4 rfl) (tP rfl (fun w => yM rfl) (tP rfl (fun w => yF fo_49_2 rfl) (tQ rfl hS (fun w hm => yL hm 2 isAgg43 rfl) (gg fun ax bU aj => ?_)))))))))))))
   obtain ⟨cV, cW, cX, he⟩ := idx_form aP aj
   obtain ⟨rfl, _, rfl⟩ := sl3 he
   refine tP rfl (fun w => yI st_43 bU (idx_lt aj) rfl) (tQ rfl hS (fun w hm => yl isAgg3 ((flat_cells (cs := [nV ax]) (hm.now aP) aj rfl).cell (j := 0) rfl) rfl) (tO (tY rfl (yL hm 1 isAgg47 rfl) (tAs hS ?_))))
   have cY := rep_len aO
   refine tP rfl (fun w => yV st_47 rfl) (tP rfl (fun w => yS (by omega) (by omega) rfl) (tO (gb fun cZ bV => tf rfl rfl (fun a hf => e_call hf rfl call41 rfl (spec_l1In_ok _ ax 1 (((aB.blocks.length : Int)) - 1) _ bV)) ?_)))
   rintro c4 w ⟨rfl, hB⟩
   replace hm := hm.below' hB; clear hB
   refine tAn rfl (tP rfl (fun w => yN rfl) (tE (gsn 71 rfl (fun bW => ?_) fun bW => ?_)))
   ·exact gct rfl (gS (gR (gA rfl (gE (gRt (gLr bR bQ (gr1 results86 rfl ⟨rfl, hm.below⟩)))))))
   exact gcf rfl (gSk (gR (gM rfl (gP (by omega) (by omega) rfl (gA rfl (gE (gze hm [0, 1, 2] rfl)))))))
  repeat clear hm
  intro c5 c6 w hm c7 c8
  refine gS (gS (gR (gM rfl (gF fo_63_4 rfl (gL hm 2 isAgg43 rfl ?_)))))
  obtain ⟨aT, aV, rfl, c9⟩ := ro_slice aP
  refine gY (yV st_43 rfl) (gB rfl (gE (go _ 58 rfl (decide_eq_false (by omega)) (gcf rfl (gXt (gHh (gS (gS (gR (gA rfl (gE (gBk (gNf hm (fun ak ay => [(1, (nV k_)), (2, (nV b_)), (3, (pV aE)), (7, (pV aC)), (8, (pV aD)), (11, (nV ak))]) (fun ak ay => [blk aE [sV aI aJ u.codes.length aK] 28, blk aC [nV aB.params, nV aB.regs, sV aF aG aB.blocks.length aH] 49, blk aD [aL, aN, nV aA.jump, nV aA.on, .slice aT aA.next_.length aV] 63]) [0, 1, 2] rfl ?_ ?_)))))))))))))
  ·repeat clear hm
   intro ca bX ak ay w hm cb cc cd bY
   refine gS (gS (gR (gM rfl (gF fo_63_1 rfl (gL hm 2 isAgg61 rfl ?_)))))
   obtain ⟨bZ, b8, rfl, ce⟩ := ro_slice aS
   refine gY (yV st_61 rfl) (gB rfl (gE (go _ 76 rfl (decide_eq_true (by omega)) (gct rfl (gSk (gS (gBk (gS (gW (.p 1 (.p 2 (.p 4 (.q 0 (.e 3 (.p 5 (.e 6 (.e 7 (.p 8 .fin) .nil) .nil)) .nil))))) [3, 6] [1, 2, 4, 5, 8] hm [0, 1, 2] [blk aE [sV aI aJ u.codes.length aK] 28, blk aC [nV aB.params, nV aB.regs, sV aF aG aB.blocks.length aH] 49, blk aD [aL, .slice bZ aA.ins.length b8, nV aA.jump, nV aA.on, .slice aT aA.next_.length aV] 63] rfl mxo (by kernel_rfl) (fun _ _ _ h => h.2) fun w hm hS => tP rfl (fun w => yM rfl) (tP rfl (fun w => yF fo_63_1 rfl) (tP rfl (fun w => yM rfl) (tQ rfl hS (fun w hm => yn (hm.blk_at 0 rfl) isAgg28 sizeOf28 rfl) (tO (tY rfl (yL hm 2 isAgg61 rfl) (tAs hS (gg fun b9 ba am => ?_))))))))))))))))
   obtain ⟨cf, cg, ci, he⟩ := idx_form' aS am
   obtain ⟨rfl, _, rfl⟩ := sl3 he
   obtain ⟨bb, bc, bd⟩ := rk_Ins_ aS am
   refine tP rfl (fun w => yI st_61 ba (idx_lt am) rfl) (tO (tY rfl (yn (bc.mono hm.lez) isAgg65 sizeOf65 rfl) (tAs hS (tO (gb fun cj be => tf rfl rfl (fun a hf => e_call hf rfl call153 rfl (spec_l7Ins_ok _ u (sV aI aJ u.codes.length aK) (hm.now h1) k_ b9 bb (hm.now bd) _ be)) ?_)))))
   rintro cl w ⟨rfl, hB⟩
   replace hm := hm.below' hB; clear hB
   refine tAn rfl (tP rfl (fun w => yN rfl) (tE (gsn 87 rfl (fun bf => ?_) fun bf => ?_)))
   ·exact gct rfl (gS (gR (gA rfl (gE (gRt (gLr bY bX (gr1 results86 rfl ⟨rfl, hm.below⟩)))))))
   exact gcf rfl (gSk (gR (gM rfl (gP (by omega) (by omega) rfl (gA rfl (gE (gze hm [0, 1, 2] rfl)))))))
  repeat clear hm
  intro cm cn w hm co cq
  refine gS (gS (gR (gM rfl (gF fo_63_1 rfl (gL hm 2 isAgg61 rfl ?_)))))
  obtain ⟨an, ao, rfl, cr⟩ := ro_slice aS
  refine gY (yV st_61 rfl) (gB rfl (gE (go _ 76 rfl (decide_eq_false (by omega)) (gcf rfl (gXt (gHh (gS (gR (gY (yn (hm.blk_at 1 rfl) isAgg49 sizeOf49 rfl) (gM rfl (gCg rfl call129 (spec_l7Preds_ok _ aB (sV aF aG aB.blocks.length aH) (hm.now aO) b_) ?_)))))))))))
  rintro aM ct cu w ⟨_, rfl, hB⟩
  replace hm := hm.give hB; clear hB
  refine gA rfl (gE (gS (gS (gR (gA rfl (gE ?_))))))
  obtain ⟨aW, aX, rfl, cv⟩ := ro_slice (hm.ow_rep 0 rfl)
  refine gBk (gNf hm (fun ac az => [(2, (nV b_)), (7, (pV aC)), (8, (pV aD)), (12, (.slice aW aM.length aX)), (13, (nV ac))]) (fun ac az => [blk aC [nV aB.params, nV aB.regs, sV aF aG aB.blocks.length aH] 49, blk aD [aL, .slice an aA.ins.length ao, nV aA.jump, nV aA.on, .slice aT aA.next_.length aV] 63, ow [.slice aW aM.length aX] aM]) [2, 3, 0] rfl ?_ ?_)
  ·repeat clear hm
   intro cw bg ac az w hm cx cy cz bh
   refine gS (gS (gR (gM rfl (gF fo_63_0 rfl (gL hm 1 isAgg60 rfl ?_)))))
   obtain ⟨bA, bB, rfl, dA⟩ := ro_slice aR
   refine gY (yV st_60 rfl) (gB rfl (gE (go _ 95 rfl (decide_eq_true (by omega)) (gct rfl (gSk (gS (gBk (gS (gJ hm (fun ae => [(2, (nV b_)), (7, (pV aC)), (8, (pV aD)), (12, (.slice aW aM.length aX)), (13, (nV ac)), (135, (.bool (ae)))]) (fun ae => [blk aC [nV aB.params, nV aB.regs, sV aF aG aB.blocks.length aH] 49, blk aD [.slice bA aA.phis.length bB, .slice an aA.ins.length ao, nV aA.jump, nV aA.on, .slice aT aA.next_.length aV] 63, ow [.slice aW aM.length aX] aM]) (fun ae => ?_) ?_)))))))))
   ·refine gW (.p 0 (.p 1 (.p 2 (.p 3 (.p 5 (.p 10 (.p 11 (.e 4 (.p 6 (.p 7 (.e 8 (.p 9 (.p 12 (.p 13 (.p 14 (.p 16 (.p 18 (.q 15 (.e 17 (.p 19 (.p 20 (.e 21 (.e 22 (.p 23 (.p 24 (.p 25 (.p 26 (.p 28 (.p 32 (.q 27 (.p 29 (.p 30 (.q 31 (.e 33 (.p 34 (.e 35 (.p 36 (.p 37 .fin)) .nil)) .nil))))))))))) .nil) .nil))) .nil)))))))) .nil))) .nil)))))))) [17, 21, 33] [0, 1, 2, 3, 5, 6, 7, 9, 10, 11, 12, 13, 14, 16, 18, 19, 20, 23, 24, 25, 26, 28, 29, 30, 32, 34, 36, 37] hm [0, 1, 2] [blk aC [nV aB.params, nV aB.regs, sV aF aG aB.blocks.length aH] 49, blk aD [.slice bA aA.phis.length bB, .slice an aA.ins.length ao, nV aA.jump, nV aA.on, .slice aT aA.next_.length aV] 63, ow [.slice aW aM.length aX] aM] rfl mxo (by kernel_rfl) (fun _ _ _ h => h.2) fun w hm hS => tP rfl (fun w => yM rfl) (tP rfl (fun w => yB rfl) (tP rfl (fun w => yM rfl) (gsd 100 rfl (fun bi => ?_) fun bi => ?_)))
    ·refine tPo rfl rfl (tPo rfl rfl (tPo rfl rfl (tPo rfl rfl (tO (tEo rfl rfl (tAn rfl (tPo rfl rfl (tPo rfl rfl (tO (tEo rfl rfl (tAn rfl (tPo rfl rfl (tPo rfl rfl (tP rfl (fun w => yKt rfl) (tP rfl (fun w => yM rfl) (tPo rfl rfl (tPo rfl rfl (tQo rfl hS rfl (tO (tEo rfl rfl (tAs hS (tPo rfl rfl (tPo rfl rfl (tO (tEo rfl rfl (tAs hS (tO (tEo rfl rfl (tAn rfl (tPo rfl rfl ?_))))))))))))))))))))))))))))))
     exact tP rfl (fun w => yKt rfl) (tP rfl (fun w => yM rfl) (tPo rfl rfl (tPo rfl rfl (tPo rfl rfl (tQo rfl hS rfl (tPo rfl rfl (tPo rfl rfl (tQo rfl hS rfl (tO (tEo rfl rfl (tAs hS (tPo rfl rfl (tO (tEo rfl rfl (tAn rfl (tPo rfl rfl (tP rfl (fun w => yKt rfl) (tE (gz hm [0, 1, 2] rfl)))))))))))))))))))
    refine tP rfl (fun w => yF fo_63_0 rfl) (tP rfl (fun w => yM rfl) (tP rfl (fun w => yM rfl) (tP rfl (fun w => yV st_43 rfl) (tO (tY rfl (yL hm 1 isAgg60 rfl) (tAn rfl (gg fun ap aq aY => ?_)))))))
    obtain ⟨dB, dC, dD, he⟩ := idx_form' aR aY
    obtain ⟨rfl, _, rfl⟩ := sl3 he
    obtain ⟨dE, ar, bC⟩ := rk_Phi_ aR aY
    refine tP rfl (fun w => yI st_60 aq (idx_lt aY) rfl) (tP rfl (fun w => yF fo_127_1 rfl) (tO (tY rfl (yl isAgg43 ((ar.mono hm.lez).cell (j := 1) rfl) rfl) (tAn rfl ?_))))
    obtain ⟨bj, bk, rfl, dF⟩ := ro_slice bC
    refine tP rfl (fun w => yV st_43 rfl) (tP rfl (fun w => yB rfl) (tP rfl (fun w => yKf rfl) (tP rfl (fun w => yM rfl) (gsd 112 rfl (fun bl => ?_) fun bl => ?_))))
    ·refine tPo rfl rfl (tPo rfl rfl (tQo rfl hS rfl (tO (tEo rfl rfl (tAs hS (tPo rfl rfl (tPo rfl rfl (tO (tEo rfl rfl (tAs hS (tO (tEo rfl rfl (tAn rfl (tPo rfl rfl (tP rfl (fun w => yKt rfl) (tP rfl (fun w => yM rfl) (tPo rfl rfl (tPo rfl rfl (tPo rfl rfl (tQo rfl hS rfl (tPo rfl rfl (tPo rfl rfl (tQo rfl hS rfl (tO (tEo rfl rfl (tAs hS (tPo rfl rfl (tO (tEo rfl rfl (tAn rfl ?_))))))))))))))))))))))))))))))
     exact tPo rfl rfl (tP rfl (fun w => yKt rfl) (tE (gz hm [0, 1, 2] rfl)))
    refine tP rfl (fun w => yF fo_63_0 rfl) (tP rfl (fun w => yM rfl) (tQ rfl hS (fun w hm => yn (hm.blk_at 0 rfl) isAgg49 sizeOf49 rfl) (tO (tY rfl (yL hm 1 isAgg60 rfl) (tAs hS (tP rfl (fun w => yI st_60 aq (idx_lt aY) rfl) (tP rfl (fun w => yF fo_127_1 rfl) (tO (tY rfl (yl isAgg43 ((ar.mono hm.lez).cell (j := 1) rfl) rfl) (tAs hS (tO (gb fun dG bm => tf rfl rfl (fun a hf => e_call hf rfl call154 rfl (spec_l7Regs_ok _ aB (sV aF aG aB.blocks.length aH) (hm.now aO) ap.args (.slice bj ap.args.length bk) (hm.now bC) _ bm)) ?_))))))))))))
    rintro dH w ⟨rfl, hB⟩
    replace hm := hm.below' hB; clear hB
    refine tAk hm [0, 1, 2] rfl fun hS => tP rfl (fun w => yN rfl) (tP rfl (fun w => yKf rfl) (tP rfl (fun w => yM rfl) (gsn 123 rfl (fun bo => ?_) fun bo => ?_)))
    ·exact tPo rfl rfl (tPo rfl rfl (tPo rfl rfl (tQo rfl hS rfl (tPo rfl rfl (tPo rfl rfl (tQo rfl hS rfl (tO (tEo rfl rfl (tAs hS (tPo rfl rfl (tO (tEo rfl rfl (tAn rfl (tPo rfl rfl (tP rfl (fun w => yKt rfl) (tE (gz hm [0, 1, 2] rfl)))))))))))))))))
    refine tP rfl (fun w => yF fo_63_0 rfl) (tP rfl (fun w => yM rfl) (tP rfl (fun w => yF fo_49_1 rfl) (tQ rfl hS (fun w hm => yL hm 1 isAgg60 rfl) (tP rfl (fun w => yI st_60 aq (idx_lt aY) rfl) (tP rfl (fun w => yF fo_127_0 rfl) (tQ rfl hS (fun w hm => yl isAgg3 ((ar.mono hm.lez).cell (j := 0) rfl) rfl) (tO (tY rfl (yL hm 0 isAgg3 rfl) (tAs hS (tP rfl (fun w => yB rfl) (tO (gb fun dI bp => tf rfl rfl (fun a hf => e_call hf rfl call41 rfl (spec_l1In_ok _ ap.to 0 (w64 (aB.regs - 1)) _ bp)) ?_))))))))))))
    rintro dJ w ⟨rfl, hB⟩
    replace hm := hm.below' hB; clear hB
    exact tAn rfl (tP rfl (fun w => yN rfl) (tP rfl (fun w => yKf rfl) (tE (gz hm [0, 1, 2] rfl))))
   repeat clear hm
   intro ae w hm
   refine gs 135 rfl (fun bq => ?_) fun bq => ?_
   ·exact gct rfl (gS (gR (gA rfl (gE (gRt (gLr bh bg (gr1 results86 rfl ⟨rfl, hm.below⟩)))))))
   exact gcf rfl (gSk (gR (gM rfl (gP (by omega) (by omega) rfl (gA rfl (gE (gze hm [0, 1, 2] rfl)))))))
  repeat clear hm
  intro dK dL w hm dM dN
  refine gS (gS (gR (gM rfl (gF fo_63_0 rfl (gL hm 1 isAgg60 rfl ?_)))))
  obtain ⟨dO, dP, rfl, dQ⟩ := ro_slice aR
  exact gY (yV st_60 rfl) (gB rfl (gE (go _ 95 rfl (decide_eq_false (by omega)) (gcf rfl (gXt (gHh (gS (gR (gA rfl (gE (gRt (gr1 results86 rfl ⟨rfl, hm.below⟩))))))))))))
theorem spec_UnitValid_ok (w0 : World) (u : Unit_) (v1 : Value) (h1 : GT.rep (hp w0) [v1] u.codes) :
    ConM Tryz.prog 39 [(.agg #[v1])] w0 (spec_UnitValid u) fun r v w' => v = (.bool (r)) ∧ Below w0.heap.size w0 w' := by
  unfold spec_UnitValid
  refine gcon func39 rfl fun r => ?_
  have hm := Mem.start w0
  refine gS (gR (gBx hm rfl fun aB w hm => gA rfl (gE (gS (gS (gR (gF fo_28_0 rfl (gL hm 0 isAgg26 rfl ?_))))))))
  obtain ⟨aX, aE, rfl, ap⟩ := ro_slice h1
  refine gY (yV st_26 rfl) (gC hm rfl call41 (spec_l1In_ok _ (u.codes.length : Int) 1 4) fun aq ar w hm => gN rfl (gE (gsn 11 rfl (fun aY => ?_) fun aY => ?_)))
  ·exact gct rfl (gS (gR (gA rfl (gE (gRt (gr1 results39 rfl ⟨rfl, hm.below⟩))))))
  refine gcf rfl (gSk (gS (gR (gA rfl (gE (gS (gS (gR (gA rfl (gE (gBk (gNf hm (fun aC aJ => [(1, (pV aB)), (3, (nV aJ)), (4, (nV aC))]) (fun aC aJ => [blk aB [.slice aX u.codes.length aE] 28]) [0] rfl ?_ ?_))))))))))))
  ·repeat clear hm
   intro au aP aC aJ w hm av aw ax aQ
   refine gS (gS (gR (gM rfl (gF fo_28_0 rfl (gL hm 0 isAgg26 rfl (gY (yV st_26 rfl) (gB rfl (gE (go _ 16 rfl (decide_eq_true (by omega)) (gct rfl (gSk (gS (gBk (gS (gR (gF fo_28_0 rfl (gL hm 0 isAgg26 rfl (gM rfl (gg fun aA aZ aO => ?_)))))))))))))))))))
   obtain ⟨aG, aH, ay, he⟩ := idx_form' h1 aO
   obtain ⟨rfl, _, rfl⟩ := sl3 he
   obtain ⟨aR, aa, aF⟩ := rk_Code_ h1 aO
   refine gI st_26 aZ (idx_lt aO) rfl (gY (yn (aa.mono hm.lez) isAgg49 sizeOf49 rfl) (gAl hm zeroValue49 rfl fun aD w hm => gSN hm 0 sizeOf49 (one_cons rfl (one_cons rfl (one_cons (rep_one aF) one_nil))) rfl fun w hm => gE (gS (gS (gJ hm (fun aK => [(1, (pV aB)), (3, (nV aJ)), (4, (nV aC)), (5, (pV aD)), (42, (.bool (aK)))]) (fun aK => [blk aB [sV aG aH u.codes.length aE] 28, blk aD [nV aA.params, nV aA.regs, aR] 49]) (fun aK => ?_) ?_)))))
   ·refine gR (gF fo_49_0 rfl (gL hm 0 isAgg3 rfl (gC hm rfl call41 (spec_l1In_ok _ aA.params 0 3) fun az bA w hm => gN rfl (gM rfl (gsn 28 rfl (fun ab => ?_) fun ab => ?_)))))
    ·exact gO rfl (gO rfl (gO rfl (gO rfl (gO rfl (gO rfl (gKt rfl (gM rfl (gO rfl (gO rfl (gO rfl (gO rfl (gO rfl (gKt rfl (gE (gz hm [1, 0] rfl)))))))))))))))
    refine gF fo_49_1 rfl (gL hm 0 isAgg3 rfl (gF fo_49_0 rfl (gL hm 0 isAgg3 rfl (gC hm rfl call41 (spec_l1In_ok _ aA.regs aA.params 300) fun bB bC w hm => gN rfl (gKf rfl (gM rfl (gsn 36 rfl (fun ac => ?_) fun ac => ?_)))))))
    ·exact gO rfl (gO rfl (gO rfl (gO rfl (gO rfl (gKt rfl (gE (gz hm [1, 0] rfl)))))))
    refine gF fo_49_2 rfl (gL hm 0 isAgg47 rfl ?_)
    obtain ⟨bD, bE, rfl, bF⟩ := ro_slice aF
    exact gY (yV st_47 rfl) (gC hm rfl call41 (spec_l1In_ok _ (aA.blocks.length : Int) 1 160) fun bG bH w hm => gN rfl (gKf rfl (gE (gz hm [1, 0] rfl))))
   repeat clear hm
   intro aK w hm
   refine gs 42 rfl (fun ae => ?_) fun ae => ?_
   ·exact gct rfl (gS (gR (gA rfl (gE (gRt (gLr aQ aP (gr1 results39 rfl ⟨rfl, hm.below⟩)))))))
   refine gcf rfl (gSk (gS (gR (gA rfl (gE (gBk (gNf hm (fun aI aL => [(1, (pV aB)), (3, (nV aL)), (4, (nV aC)), (5, (pV aD)), (6, (nV aI))]) (fun aI aL => [blk aB [sV aG aH u.codes.length aE] 28, blk aD [nV aA.params, nV aA.regs, aR] 49]) [0, 1] rfl ?_ ?_)))))))
   ·repeat clear hm
    intro bJ af aI aL w hm bK bL bM ag
    refine gS (gS (gR (gM rfl (gF fo_49_2 rfl (gL hm 1 isAgg47 rfl ?_)))))
    obtain ⟨ah, aS, rfl, bN⟩ := ro_slice aF
    refine gY (yV st_47 rfl) (gB rfl (gE (go _ 47 rfl (decide_eq_true (by omega)) (gct rfl (gSk (gS (gBk (gS (gW (.p 0 (.p 1 (.p 3 (.p 9 (.p 11 (.q 2 (.p 4 (.p 5 (.q 6 (.p 7 (.p 8 (.e 10 (.p 12 (.p 13 (.e 14 (.p 15 (.p 16 (.p 17 .fin))) .nil))) .nil)))))))))))) [10, 14] [0, 1, 3, 4, 5, 7, 8, 9, 11, 12, 13, 15, 16, 17] hm [0, 1] [blk aB [sV aG aH u.codes.length aE] 28, blk aD [nV aA.params, nV aA.regs, .slice ah aA.blocks.length aS] 49] rfl mxo (by kernel_rfl) (fun _ _ _ h => h.2) fun w hm hS => tP rfl (fun w => yM rfl) (tP rfl (fun w => yF fo_49_2 rfl) (tP rfl (fun w => yM rfl) (tP rfl (fun w => yF fo_49_2 rfl) (tP rfl (fun w => yM rfl) (tQ rfl hS (fun w hm => yL hm 1 isAgg47 rfl) (gg fun aT aV aM => ?_)))))))))))))))
    obtain ⟨ai, aj, bO, he⟩ := idx_form' aF aM
    obtain ⟨rfl, _, rfl⟩ := sl3 he
    obtain ⟨bP, bQ, bR, aW, ak, am, bS⟩ := rk_Block_ aF aM
    refine tP rfl (fun w => yI st_47 aV (idx_lt aM) rfl) (tP rfl (fun w => yF fo_63_1 rfl) (tQ rfl hS (fun w hm => yl isAgg61 ((aW.mono hm.lez).cell (j := 1) rfl) rfl) ?_))
    obtain ⟨bT, bU, rfl, bV⟩ := ro_slice am
    refine tP rfl (fun w => yV st_61 rfl) (tP rfl (fun w => yB rfl) (tO (tY rfl (yL hm 1 isAgg47 rfl) (tAs hS (tP rfl (fun w => yI st_47 aV (idx_lt aM) rfl) (tP rfl (fun w => yF fo_63_0 rfl) (tO (tY rfl (yl isAgg60 ((aW.mono hm.lez).cell (j := 0) rfl) rfl) (tAs hS ?_)))))))))
    obtain ⟨bW, bX, rfl, bY⟩ := ro_slice ak
    refine tP rfl (fun w => yV st_60 rfl) (tP rfl (fun w => yB rfl) (tP rfl (fun w => yA rfl) (tE (gS (gJ hm (fun aN => [(1, (pV aB)), (3, (nV (w64 ((w64 (aL + ((aT.ins.length : Int)))) + ((aT.phis.length : Int)))))), (4, (nV aC)), (5, (pV aD)), (6, (nV aI)), (75, (.bool (aN)))]) (fun aN => [blk aB [sV aG aH u.codes.length aE] 28, blk aD [nV aA.params, nV aA.regs, sV ai aj aA.blocks.length aS] 49]) (fun aN => ?_) ?_)))))
    ·refine gR (gM rfl (gB rfl (gM rfl (gsd 69 rfl (fun an => ?_) fun an => ?_))))
     ·exact gO rfl (gO rfl (gO rfl (gO rfl (gO rfl (gKt rfl (gE (gz hm [0, 1] rfl)))))))
     exact gY (yn (hm.blk_at 0 rfl) isAgg28 sizeOf28 rfl) (gM rfl (gM rfl (gC hm rfl call86 (spec_l7Block_ok _ u (sV aG aH u.codes.length aE) (hm.now h1) aC aI) fun bZ b8 w hm => gN rfl (gKf rfl (gE (gz hm [0, 1] rfl))))))
    repeat clear hm
    intro aN w hm
    refine gs 75 rfl (fun ao => ?_) fun ao => ?_
    ·exact gct rfl (gS (gR (gA rfl (gE (gRt (gLr ag af (gLr aQ aP (gr1 results39 rfl ⟨rfl, hm.below⟩))))))))
    exact gcf rfl (gSk (gR (gM rfl (gP (by omega) (by omega) rfl (gA rfl (gE (gze hm [0, 1] rfl)))))))
   repeat clear hm
   intro b9 ba w hm bb bc
   refine gS (gS (gR (gM rfl (gF fo_49_2 rfl (gL hm 1 isAgg47 rfl ?_)))))
   obtain ⟨bd, be, rfl, bf⟩ := ro_slice aF
   exact gY (yV st_47 rfl) (gB rfl (gE (go _ 47 rfl (decide_eq_false (by omega)) (gcf rfl (gXt (gHh (gR (gM rfl (gP (by omega) (by omega) rfl (gA rfl (gE (gze hm [0] rfl))))))))))))
  repeat clear hm
  intro bg bh w hm bi bj
  exact gS (gS (gR (gM rfl (gF fo_28_0 rfl (gL hm 0 isAgg26 rfl (gY (yV st_26 rfl) (gB rfl (gE (go _ 16 rfl (decide_eq_false (by omega)) (gcf rfl (gXt (gHh (gS (gR (gA rfl (gE (gRt (gr1 results39 rfl ⟨rfl, hm.below⟩))))))))))))))))))
theorem spec_l10Fits_ok (w0 : World) (c_ : Code_) (v1 : Value) (h1 : GT.rep (hp w0) [v1] c_.blocks) :
    ConM Tryz.prog 317 [(.agg #[nV c_.params, nV c_.regs, v1])] w0 (spec_l10Fits c_) fun r v w' => v = (.bool (r)) ∧ Below w0.heap.size w0 w' := by
  unfold spec_l10Fits
  refine gcon func317 rfl fun r => ?_
  have hm := Mem.start w0
  refine gS (gR (gBx hm rfl fun aA w hm => gA rfl (gE (gS (gS (gR (gA rfl (gE (gBk (gNf hm (fun aB aH => [(1, (pV aA)), (3, (nV aB))]) (fun aB aH => [blk aA [nV c_.params, nV c_.regs, v1] 49]) [0] rfl ?_ ?_))))))))))
  ·repeat clear hm
   intro aZ aP aB aH w hm aa ab ac aQ
   refine gS (gS (gR (gM rfl (gF fo_49_2 rfl (gL hm 0 isAgg47 rfl ?_)))))
   obtain ⟨aI, aD, rfl, ae⟩ := ro_slice h1
   refine gY (yV st_47 rfl) (gB rfl (gE (go _ 9 rfl (decide_eq_true (by omega)) (gct rfl (gSk (gS (gBk (gS (gR (gA rfl (gE (gJe hm (fun aJ => [(1, (pV aA)), (3, (nV aB))]) (fun aJ => [blk aA [nV c_.params, nV c_.regs, .slice aI c_.blocks.length aD] 49]) (fun af aR => ?_) ?_))))))))))))
   ·refine gBk (gMf hm (fun aE => [(1, (pV aA)), (3, (nV aB)), (4, (nV aE))]) (fun aE => [blk aA [nV c_.params, nV c_.regs, .slice aI c_.blocks.length aD] 49]) [0] rfl ?_)
    repeat clear hm
    intro ag aK aE w hm ah aL
    refine gS (gS (gR (gM rfl (gF fo_49_2 rfl (gL hm 0 isAgg47 rfl (gM rfl (gg fun ai aM aC => ?_)))))))
    obtain ⟨aS, aT, aj, he⟩ := idx_form' h1 aC
    obtain ⟨rfl, _, rfl⟩ := sl3 he
    obtain ⟨ak, am, an, aN, ao, ap, aF⟩ := rk_Block_ h1 aC
    refine gI st_47 aM (idx_lt aC) rfl (gF fo_63_4 rfl (gY (yl isAgg43 ((aN.mono hm.lez).cell (j := 4) rfl) rfl) ?_))
    obtain ⟨aq, ar, rfl, au⟩ := ro_slice aF
    refine gY (yV st_43 rfl) (gB rfl (gE (gsd 20 rfl (fun aV => ?_) fun aV => ?_)))
    ·refine gct rfl (gSk (gS (gBk (gS (gW (.p 0 (.p 2 (.p 6 (.p 9 (.q 1 (.p 3 (.p 4 (.q 5 (.p 7 (.q 8 (.e 10 (.p 11 (.p 12 (.e 13 (.p 14 .fin) .nil))) .nil))))))))))) [10] [0, 2, 3, 4, 6, 7, 9, 11, 12, 14] hm [0] [blk aA [nV c_.params, nV c_.regs, sV aS aT c_.blocks.length aD] 49] rfl mxo (by kernel_rfl) (fun _ _ _ h => h.2) fun w hm hS => tP rfl (fun w => yF fo_49_2 rfl) (tP rfl (fun w => yM rfl) (tP rfl (fun w => yM rfl) (tP rfl (fun w => yF fo_49_2 rfl) (tQ rfl hS (fun w hm => yL hm 0 isAgg47 rfl) (tP rfl (fun w => yI st_47 aM (idx_lt aC) rfl) (tP rfl (fun w => yF fo_63_4 rfl) (tQ rfl hS (fun w hm => yl isAgg43 ((aN.mono hm.lez).cell (j := 4) rfl) rfl) (gg fun aO aW aG => ?_)))))))))))))
     obtain ⟨av, aw, ax, he⟩ := idx_form aF aG
     obtain ⟨rfl, _, rfl⟩ := sl3 he
     refine tP rfl (fun w => yI st_43 aW (idx_lt aG) rfl) (tQ rfl hS (fun w hm => yl isAgg3 ((flat_cells (cs := [nV aO]) (hm.now aF) aG rfl).cell (j := 0) rfl) rfl) (tO (tY rfl (yL hm 0 isAgg47 rfl) (tAs hS (tP rfl (fun w => yV st_47 rfl) (tP rfl (fun w => yS (by omega) (by omega) rfl) (tO (gb fun ay aX => tf rfl rfl (fun a hf => e_call hf rfl call41 rfl (spec_l1In_ok _ aO 0 (((c_.blocks.length : Int)) - 1) _ aX)) ?_))))))))
     rintro az w ⟨rfl, hB⟩
     replace hm := hm.below' hB; clear hB
     refine tAn rfl (tP rfl (fun w => yN rfl) (tE (gsn 37 rfl (fun aY => ?_) fun aY => ?_)))
     ·exact gct rfl (gS (gR (gA rfl (gE (gRt (gLp aL aK (gl (gEr aR (gLr aQ aP (gr1 results317 rfl ⟨rfl, hm.below⟩))))))))))
     exact gcf rfl (gSk (gR (gM rfl (gB rfl (gA rfl (gE (gze hm [0] rfl)))))))
    exact gcf rfl (gXt (gHh (gLp aL aK (gr (gze hm [0] rfl)))))
   repeat clear hm
   intro aJ w hm
   exact gR (gM rfl (gP (by omega) (by omega) rfl (gA rfl (gE (gze hm [0] rfl)))))
  repeat clear hm
  intro bA bB w hm bC bD
  refine gS (gS (gR (gM rfl (gF fo_49_2 rfl (gL hm 0 isAgg47 rfl ?_)))))
  obtain ⟨bE, bF, rfl, bG⟩ := ro_slice h1
  exact gY (yV st_47 rfl) (gB rfl (gE (go _ 9 rfl (decide_eq_false (by omega)) (gcf rfl (gXt (gHh (gS (gR (gF fo_49_2 rfl (gL hm 0 isAgg47 rfl (gY (yV st_47 rfl) (gB rfl (gA rfl (gE (gRt (gr1 results317 rfl ⟨rfl, hm.below⟩))))))))))))))))
theorem spec_l10Visit_all (c_ : Code_) : ∀ (b_ : Int) (seen : List Bool) (out : List Int) (r : (List Int) × (List Bool)), spec_l10Visit c_ b_ seen out = some r → ∀ (w0 : World) (hz : Heap) (v1 : Value) (h1 : GT.rep hz [v1] c_.blocks) (v2 : Value) (v3 : Value) (hm0 : Mem w0 hz w0 [ow [v2] seen, ow [v3] out]), Con Tryz.prog 255 [(.agg #[nV c_.params, nV c_.regs, v1]), nV b_, v2, v3] w0 (fun v w' => ∃ (x1 : Value), v = x1 ∧ Mem w0 hz w' [ow [x1] r.1, ow [v2] r.2]) := by
  refine spec_l10Visit.partial_correctness c_ (motive := fun b_ seen out r => ∀ (w0 : World) (hz : Heap) (v1 : Value) (h1 : GT.rep hz [v1] c_.blocks) (v2 : Value) (v3 : Value) (hm0 : Mem w0 hz w0 [ow [v2] seen, ow [v3] out]), Con Tryz.prog 255 [(.agg #[nV c_.params, nV c_.regs, v1]), nV b_, v2, v3] w0 (fun v w' => ∃ (x1 : Value), v = x1 ∧ Mem w0 hz w' [ow [x1] r.1, ow [v2] r.2])) ?_
  intro rec_ ih_ b_ seen out r hq w0 hz v1 h1 v2 v3 hm0
  have spec_l10Visit_rec : ∀ (w0 : World) (hz : Heap) (_ : Code_) (v1 : Value) (h1 : GT.rep hz [v1] c_.blocks) (b_ : Int) (seen : List Bool) (v2 : Value) (out : List Int) (v3 : Value) (hm0 : Mem w0 hz w0 [ow [v2] seen, ow [v3] out]) (r : (List Int) × (List Bool)) (hq : rec_ b_ seen out = some r), Con Tryz.prog 255 [(.agg #[nV c_.params, nV c_.regs, v1]), nV b_, v2, v3] w0 (fun v w' => ∃ (x1 : Value), v = x1 ∧ Mem w0 hz w' [ow [x1] r.1, ow [v2] r.2]) := fun w0 hz _ v1 h1 b_ seen v2 out v3 hm0 r hq => ih_ b_ seen out r hq w0 hz v1 h1 v2 v3 hm0
  refine gconr (ρ := (List Int) × (List Bool)) (R := fun r v w' => ∃ (x1 : Value), v = x1 ∧ Mem w0 hz w' [ow [x1] r.1, ow [v2] r.2]) func255 rfl hq ?_
  have hm := hm0
  refine gS (gR (gBx hm rfl fun aE w hm => gA rfl (gE (gS (gR (gM rfl (gM rfl (gg fun au aZ aL => ?_))))))))
  obtain ⟨aB, aC, aD, he⟩ := idx_form (hm.ow_rep 1 rfl) aL
  subst he
  refine gI st_90 aZ (idx_lt aL) rfl (gf0 rfl (fun a hf => e_setElem (x1 := true) (j := 0) (vs := [(.bool (true))]) 1 hf hm rfl aL rfl sizeOf4 rfl rfl rfl (one_cons rfl one_nil) rfl rfl) ?_)
  rintro _ w hm
  have av := List.getElem?_set_self (a := true) (idx_lt aL)
  refine gE (gS (gS (gR (gA rfl (gE ?_)))))
  obtain ⟨aa, ab, rfl, aw⟩ := ro_slice (hm.ow_rep 2 rfl)
  refine gJg (fun aM a w => ∃ (aS : Value), St 54 [(1, (nV b_)), (3, aS)] w0 hz [ow [aS] aM.1, ow [sV aB aC seen.length aD] aM.2] a w) (fun aM => ?_) ?_
  ·refine gBk (gMg (fun aA a w => ∃ (aF : Value), St 54 [(1, (nV b_)), (2, (sV aB aC seen.length aD)), (3, aF), (4, (pV aE)), (9, (nV aA.2.2))] w0 hz [ow [sV aB aC seen.length aD] aA.1, ow [aF] aA.2.1, blk aE [nV c_.params, nV c_.regs, v1] 49] a w) (fun a hf => ⟨.slice aa out.length ab, hf.sb rfl, hm.pk [1, 2, 0] rfl rfl⟩) ?_)
   repeat clear hm
   rintro ax ac aA a w ⟨aF, hf, hm⟩ ay ae
   refine gv hf (gS (gS (gR (gM rfl (gF fo_49_2 rfl (gL hm 2 isAgg47 rfl (gM rfl (gg fun az aT aG => ?_))))))))
   obtain ⟨aH, aI, aJ, he⟩ := idx_form' h1 aG
   subst he
   obtain ⟨bA, bB, bC, aV, bD, bE, aN⟩ := rk_Block_ h1 aG
   refine gI st_47 aT (idx_lt aG) rfl (gF fo_63_4 rfl (gY (yl isAgg43 ((aV.mono hm.lez).cell (j := 4) rfl) rfl) ?_))
   obtain ⟨bF, bG, rfl, bH⟩ := ro_slice aN
   refine gY (yV st_43 rfl) (gB rfl (gE (gsd 21 rfl (fun af => ?_) fun af => ?_)))
   ·refine gct rfl (gSk (gS (gJg (fun aO a w => ∃ (aP : Value), St 54 [(1, (nV b_)), (2, (sV aB aC seen.length aD)), (3, aP), (4, (pV aE)), (9, (nV aA.2.2))] w0 hz [ow [sV aB aC seen.length aD] aO.1, ow [aP] aO.2, blk aE [nV c_.params, nV c_.regs, sV aH aI c_.blocks.length aJ] 49] a w) (fun aO => ?_) ?_)))
    ·refine gBk (gS (gR (gM rfl (gF fo_49_2 rfl (gL hm 2 isAgg47 rfl (gM rfl (gI st_47 aT (idx_lt aG) rfl (gF fo_63_4 rfl (gY (yl isAgg43 ((aV.mono hm.lez).cell (j := 4) rfl) rfl) (gM rfl (gg fun aW aX aK => ?_)))))))))))
     obtain ⟨bJ, bK, bL, he⟩ := idx_form aN aK
     obtain ⟨rfl, _, rfl⟩ := sl3 he
     refine gI st_43 aX (idx_lt aK) rfl (gY (yl isAgg3 ((flat_cells (cs := [nV aW]) (hm.now aN) aK rfl).cell (j := 0) rfl) rfl) (gg fun ag ah aY => ?_))
     have hL3_1 := rep_slice_len (hm.ow_rep 0 rfl)
     refine gI st_90 ah (idx_lt2 aY hL3_1) rfl (gY (yl isAgg4 ((flat_cells (cs := [(.bool (ag))]) (hm.ow_rep 0 rfl) aY rfl).cell (j := 0) rfl) rfl) (gN rfl (gE (gJg (fun aQ a w => ∃ (aR : Value), St 54 [(1, (nV b_)), (2, (sV aB aC seen.length aD)), (3, aR), (4, (pV aE)), (9, (nV aA.2.2))] w0 hz [ow [sV aB aC seen.length aD] aQ.1, ow [aR] aQ.2, blk aE [nV c_.params, nV c_.regs, sV aH aI c_.blocks.length aJ] 49] a w) (fun aQ => ?_) ?_))))
     ·refine gsn 36 rfl (fun ai => ?_) fun ai => ?_
      ·refine gct rfl (gW (.p 1 (.p 3 (.p 7 (.p 10 (.p 11 (.q 0 (.e 2 (.p 4 (.p 5 (.e 6 (.p 8 (.e 9 (.e 12 (.p 13 .fin) .nil) .nil)) .nil))) .nil))))))) [2, 6, 9] [1, 3, 4, 5, 7, 8, 10, 11, 13] hm [0, 1, 2] [ow [sV aB aC seen.length aD] aA.1, ow [aF] aA.2.1, blk aE [nV c_.params, nV c_.regs, sV aH aI c_.blocks.length aJ] 49] rfl mxo (by kernel_rfl) (fun _ _ _ h => h.2) fun w hm hS => tP rfl (fun w => yF fo_49_2 rfl) (tP rfl (fun w => yM rfl) (tP rfl (fun w => yM rfl) (tP rfl (fun w => yM rfl) (tP rfl (fun w => yM rfl) (tQ rfl hS (fun w hm => yn (hm.blk_at 2 rfl) isAgg49 sizeOf49 rfl) (tO (tY rfl (yL hm 2 isAgg47 rfl) (tAs hS (tP rfl (fun w => yI st_47 aT (idx_lt aG) rfl) (tP rfl (fun w => yF fo_63_4 rfl) (tO (tY rfl (yl isAgg43 ((aV.mono hm.lez).cell (j := 4) rfl) rfl) (tAs hS (tP rfl (fun w => yI st_43 aX (idx_lt aK) rfl) (tO (tY rfl (yl isAgg3 ((flat_cells (cs := [nV aW]) (hm.now aN) aK rfl).cell (j := 0) rfl) rfl) (tAs hS (tO (gb fun bM aj => ?_))))))))))))))))))))
       obtain ⟨ak, hle, hm1, hsub, am⟩ := hm.take2 (L1 := [ow [sV aB aC seen.length aD] aA.1, ow [aF] aA.2.1]) (L2 := [blk aE [nV c_.params, nV c_.regs, sV aH aI c_.blocks.length aJ] 49]) [0, 1] [2] (by decide) rfl rfl
       refine tf rfl rfl (fun a hf => e_call hf rfl call255 rfl (spec_l10Visit_rec _ ak c_ (sV aH aI c_.blocks.length aJ) (GT.mono hle h1) aW aA.1 (sV aB aC seen.length aD) aA.2.1 aF hm1  _ aj)) ?_
       rintro an w ⟨_, rfl, hB⟩
       replace hm := am _ _ hB; clear hB
       exact tAn rfl (tP rfl (fun w => yA rfl) (tE (gZ fun a hf => ⟨an, hf.sb rfl, hm.pk [1, 0, 2] rfl rfl⟩)))
      exact gcf rfl (gSk (gZ fun a hf => ⟨aF, hf.sb rfl, hm.pk [0, 1, 2] rfl rfl⟩))
     repeat clear hm
     rintro aQ a w ⟨aR, hf, hm⟩
     exact gv hf (gZ fun a hf => ⟨aR, hf.sb rfl, hm.pk [0, 1, 2] rfl rfl⟩)
    repeat clear hm
    rintro aO a w ⟨aP, hf, hm⟩
    exact gv hf (gR (gM rfl (gB rfl (gA rfl (gE (gZe fun a hf => ⟨aP, hf.sb rfl, hm.pk [0, 1, 2] rfl rfl⟩))))))
   exact gcf rfl (gXt (gHh (gLp ae ac (gZ fun a hf => ⟨aF, hf.sb rfl, hm.pk [1, 0] rfl rfl⟩))))
  repeat clear hm
  rintro aM a w ⟨aS, hf, hm⟩
  refine gv hf (gS (gR (gM rfl (gM rfl (gf rfl (fun a hf => e_build (vs := #[(0, (nV b_))]) (cs := [nV b_]) et_43 hf hm rfl rfl (by kernel_rfl) rfl rfl) ?_)))))
  rintro _ w ⟨bN, rfl, hm⟩
  replace hm := hm.lit (xs := ([b_] : List Int)) 0 rfl rfl rfl rfl
  refine gb fun bO ao => ?_
  obtain ⟨ap, aq⟩ := appM_some.1 ao
  refine gf rfl (fun a hf => e_append 1 et_43 hf hm rfl (hm.ow_rep 0 rfl) rfl rfl rfl ap) ?_
  rintro ar w hm
  rw [aq] at hm
  exact gA rfl (gE (gRt (gr1 results255 rfl ⟨ar, rfl, hm.pk [1, 2] rfl rfl⟩)))
theorem spec_l10Visit_ok (w0 : World) (hz : Heap) (c_ : Code_) (v1 : Value) (h1 : GT.rep hz [v1] c_.blocks) (b_ : Int) (seen : List Bool) (v2 : Value) (out : List Int) (v3 : Value) (hm0 : Mem w0 hz w0 [ow [v2] seen, ow [v3] out]) (r : (List Int) × (List Bool)) (hq : spec_l10Visit c_ b_ seen out = some r) : Con Tryz.prog 255 [(.agg #[nV c_.params, nV c_.regs, v1]), nV b_, v2, v3] w0 (fun v w' => ∃ (x1 : Value), v = x1 ∧ Mem w0 hz w' [ow [x1] r.1, ow [v2] r.2]) := spec_l10Visit_all c_ b_ seen out r hq w0 hz v1 h1 v2 v3 hm0
theorem spec_l10Order_ok (w0 : World) (c_ : Code_) (v1 : Value) (h1 : GT.rep (hp w0) [v1] c_.blocks) :
    ConM Tryz.prog 189 [(.agg #[nV c_.params, nV c_.regs, v1])] w0 (spec_l10Order c_) fun r v w' => ∃ (x1 : Value), v = x1 ∧ Mem w0 (hp w0) w' [ow [x1] r] := by
  unfold spec_l10Order
  refine gcon func189 rfl fun r => ?_
  have hm := Mem.start w0
  refine gS (gR (gBx hm rfl fun aH w hm => gA rfl (gE (gS (gJg (fun aA a w => ∃ (aI : Value), St 29 [(3, aI)] w0 (hp w0) [ow [aI] aA] a w) (fun aA => ?_) ?_)))))
  ·refine gW (.p 1 (.q 0 (.q 2 (.p 3 (.e 4 (.e 5 (.e 6 (.p 7 .fin) .nil) .nil) (.e 5 (.e 4 (.e 6 (.p 7 .fin) .nil) .nil) .nil)))))) [0, 2, 4, 5] [1, 3, 7] hm [0] [blk aH [nV c_.params, nV c_.regs, v1] 49] rfl mxo (by kernel_rfl) (fun _ _ _ h => h.2) fun w hm hS => tP rfl (fun w => yF fo_49_2 rfl) (tQ rfl hS (fun w hm => yn (hm.blk_at 0 rfl) isAgg49 sizeOf49 rfl) (tQ rfl hS (fun w hm => yL hm 0 isAgg47 rfl) ?_))
   obtain ⟨aC, aD, rfl, av⟩ := ro_slice h1
   refine tP rfl (fun w => yV st_47 rfl) (gb fun aB aM => gb fun aw aN => tMo ?_ ?_)
   ·obtain ⟨⟨aX, aY⟩, aO⟩ := makeM_some.1 aM
    refine tf rfl rfl (fun a hf => e_make (x0 := (false : Bool)) et_90 (fun _ => (Flat.own_iff.2 rfl)) hf hm rfl rfl rfl aX (Int.le_refl _) aY) ?_
    rintro aP w hm
    rw [aO] at hm
    have h1_1l : (aB.length : Int) = (c_.blocks.length : Int) := by rw [← aO]; simp only [List.length_replicate]; omega
    refine tAk hm [1] rfl fun hS => tO (tf rfl rfl (fun a hf => e_build0 (α := Int) et_43 hm rfl) ?_)
    rintro aQ w hm
    refine tAk hm [2] rfl fun hS => tO ?_
    obtain ⟨aZ, hle, hm1, hsub, aa⟩ := hm.take2 (L1 := [ow [aP] aB, ow [aQ] ([] : List Int)]) (L2 := [blk aH [nV c_.params, nV c_.regs, .slice aC c_.blocks.length aD] 49]) [1, 0] [2] (by decide) rfl rfl
    refine tf rfl rfl (fun a hf => e_call hf rfl call255 rfl (spec_l10Visit_ok _ aZ c_ (.slice aC c_.blocks.length aD) (GT.mono hle h1) 0 aB aP ([] : List Int) aQ hm1  _ aN)) ?_
    rintro ab w ⟨_, rfl, hB⟩
    replace hm := aa _ _ hB; clear hB
    exact tAn rfl (tP rfl (fun w => yA rfl) (tE (gZ fun a hf => ⟨ab, hf.sb rfl, hm.pk [0] rfl rfl⟩)))
   refine tO (tf rfl rfl (fun a hf => e_build0 (α := Int) et_43 hm rfl) ?_)
   rintro aR w hm
   refine tAk hm [1] rfl fun hS => tO ?_
   obtain ⟨⟨ac, ae⟩, aS⟩ := makeM_some.1 aM
   refine tf rfl rfl (fun a hf => e_make (x0 := (false : Bool)) et_90 (fun _ => (Flat.own_iff.2 rfl)) hf hm rfl rfl rfl ac (Int.le_refl _) ae) ?_
   rintro aT w hm
   rw [aS] at hm
   have h1_2l : (aB.length : Int) = (c_.blocks.length : Int) := by rw [← aS]; simp only [List.length_replicate]; omega
   refine tAk hm [2] rfl fun hS => tO ?_
   obtain ⟨af, hle, hm1, hsub, ag⟩ := hm.take2 (L1 := [ow [aT] aB, ow [aR] ([] : List Int)]) (L2 := [blk aH [nV c_.params, nV c_.regs, .slice aC c_.blocks.length aD] 49]) [0, 1] [2] (by decide) rfl rfl
   refine tf rfl rfl (fun a hf => e_call hf rfl call255 rfl (spec_l10Visit_ok _ af c_ (.slice aC c_.blocks.length aD) (GT.mono hle h1) 0 aB aT ([] : List Int) aR hm1  _ aN)) ?_
   rintro ah w ⟨_, rfl, hB⟩
   replace hm := ag _ _ hB; clear hB
   exact tAn rfl (tP rfl (fun w => yA rfl) (tE (gZ fun a hf => ⟨ah, hf.sb rfl, hm.pk [0] rfl rfl⟩)))
  repeat clear hm
  rintro aA a w ⟨aI, hf, hm⟩
  refine gv hf (gS (gR (gf rfl (fun a hf => e_build0 (α := Int) et_43 hm rfl) ?_)))
  rintro ax w hm
  refine gA rfl (gE (gS (gS (gR (gM rfl ?_)))))
  obtain ⟨aV, aW, rfl, ay⟩ := ro_slice (hm.ow_rep 1 rfl)
  refine gY (yV st_43 rfl) (gY (yS (by omega) (by omega) rfl) (gA rfl (gE ?_)))
  obtain ⟨ai, aj, rfl, az⟩ := ro_slice (hm.ow_rep 0 rfl)
  refine gJg (fun aJ a w => ∃ (aE : Value), St 29 [(4, aE)] w0 (hp w0) [ow [aE] aJ] a w) (fun aJ => ?_) ?_
  ·refine gBk (gMg (fun aK a w => ∃ (aF : Value), St 29 [(3, (.slice aV aA.length aW)), (4, aF), (5, (nV aK.2))] w0 (hp w0) [ow [.slice aV aA.length aW] aA, ow [aF] aK.1] a w) (fun a hf => ⟨.slice ai ([] : List Int).length aj, hf.sb rfl, hm.pk [1, 0] rfl rfl⟩) ?_)
   repeat clear hm
   rintro bA ak aK a w ⟨aF, hf, hm⟩ bB am
   refine gv hf (gS (gS (gR (gM rfl (gB rfl (gE (gsd 18 rfl (fun an => ?_) fun an => ?_)))))))
   ·refine gct rfl (gSk (gS (gBk (gR (gM rfl (gM rfl (gM rfl (gg fun aG ao aL => ?_))))))))
    obtain ⟨bC, bD, bE, he⟩ := idx_form (hm.ow_rep 0 rfl) aL
    obtain ⟨rfl, _, rfl⟩ := sl3 he
    refine gI st_43 ao (idx_lt aL) rfl (gY (yl isAgg3 ((flat_cells (cs := [nV aG]) (hm.ow_rep 0 rfl) aL rfl).cell (j := 0) rfl) rfl) (gf rfl (fun a hf => e_build (vs := #[(0, (nV aG))]) (cs := [nV aG]) et_43 hf hm rfl rfl (by kernel_rfl) rfl rfl) ?_))
    rintro _ w ⟨bF, rfl, hm⟩
    replace hm := hm.lit (xs := ([aG] : List Int)) 0 rfl rfl rfl rfl
    refine gb fun bG ap => ?_
    obtain ⟨aq, ar⟩ := appM_some.1 ap
    refine gf rfl (fun a hf => e_append 2 et_43 hf hm rfl (hm.ow_rep 0 rfl) rfl rfl rfl aq) ?_
    rintro au w hm
    rw [ar] at hm
    exact gA rfl (gE (gR (gM rfl (gB rfl (gA rfl (gE (gZe fun a hf => ⟨au, hf.sb rfl, hm.pk [1, 2] rfl rfl⟩)))))))
   exact gcf rfl (gXt (gHh (gLp am ak (gZ fun a hf => ⟨aF, hf.sb rfl, hm.pk [1] rfl rfl⟩))))
  repeat clear hm
  rintro aJ a w ⟨aE, hf, hm⟩
  exact gv hf (gS (gR (gM rfl (gA rfl (gE (gRt (gr1 results189 rfl ⟨aE, rfl, hm.pk [0] rfl rfl⟩)))))))
theorem spec_l7Insert_ok (w0 : World) (hz : Heap) (hle0 : Heap.le hz (hp w0)) (list : List Int) (v1 : Value) (h1 : GT.rep hz [v1] list) (n_ : Int) :
    ConM Tryz.prog 235 [v1, nV n_] w0 (spec_l7Insert list n_) fun r v w' => ∃ (x1 : Value) (hz2 : Heap), v = x1 ∧ Heap.le hz hz2 ∧ GT.rep hz2 [x1] r ∧ Mem w0 hz2 w' [junk w0 hz] := by
  unfold spec_l7Insert
  refine gcon func235 rfl fun r => ?_
  have hm := Mem.startA hle0
  refine gS (gR (gA rfl (gE (gS (gR (gA rfl (gE (gS (gJ hm (fun aA => [(0, v1), (1, (nV n_)), (5, (nV aA))]) (fun aA => [junk w0 hz]) (fun aA => ?_) ?_)))))))))
  ·refine gBk (gMf hm (fun aB => [(0, v1), (1, (nV n_)), (5, (nV aB))]) (fun aB => [junk w0 hz]) [0] rfl ?_)
   repeat clear hm
   intro ax aI aB w hm ay aJ
   refine gS (gS (gJ hm (fun aC => [(0, v1), (1, (nV n_)), (5, (nV aB)), (18, (.bool (aC)))]) (fun aC => [junk w0 hz]) (fun aC => ?_) ?_))
   ·refine gR (gM rfl (gM rfl ?_))
    obtain ⟨az, bA, rfl, bB⟩ := ro_slice h1
    refine gY (yV st_43 rfl) (gB rfl (gM rfl (gsd 11 rfl (fun aK => ?_) fun aK => ?_)))
    ·refine gM rfl (gM rfl (gg fun aL aM aE => ?_))
     obtain ⟨bC, bD, bE, he⟩ := idx_form h1 aE
     obtain ⟨rfl, _, rfl⟩ := sl3 he
     exact gI st_43 aM (idx_lt aE) rfl (gY (yl isAgg3 ((flat_cells (cs := [nV aL]) (hm.now h1) aE rfl).cell (j := 0) rfl) rfl) (gM rfl (gB rfl (gKt rfl (gE (gz hm [0] rfl))))))
    exact gO rfl (gO rfl (gO rfl (gO rfl (gO rfl (gO rfl (gKf rfl (gE (gz hm [0] rfl))))))))
   repeat clear hm
   intro aC w hm
   refine gs 18 rfl (fun aN => ?_) fun aN => ?_
   ·exact gct rfl (gSk (gBk (gR (gM rfl (gB rfl (gA rfl (gE (gze hm [0] rfl))))))))
   exact gcf rfl (gXt (gHh (gLp aJ aI (gz hm [0] rfl))))
  repeat clear hm
  intro aA w hm
  refine gS (gS (gJ hm (fun aD => [(0, v1), (1, (nV n_)), (5, (nV aA)), (32, (.bool (aD)))]) (fun aD => [junk w0 hz]) (fun aD => ?_) ?_))
  ·refine gR (gM rfl (gM rfl ?_))
   obtain ⟨bF, bG, rfl, bH⟩ := ro_slice h1
   refine gY (yV st_43 rfl) (gB rfl (gM rfl (gsd 25 rfl (fun aO => ?_) fun aO => ?_)))
   ·refine gM rfl (gM rfl (gg fun aP aQ aF => ?_))
    obtain ⟨bJ, bK, bL, he⟩ := idx_form h1 aF
    obtain ⟨rfl, _, rfl⟩ := sl3 he
    exact gI st_43 aQ (idx_lt aF) rfl (gY (yl isAgg3 ((flat_cells (cs := [nV aP]) (hm.now h1) aF rfl).cell (j := 0) rfl) rfl) (gM rfl (gB rfl (gKt rfl (gE (gz hm [0] rfl))))))
   exact gO rfl (gO rfl (gO rfl (gO rfl (gO rfl (gO rfl (gKf rfl (gE (gz hm [0] rfl))))))))
  repeat clear hm
  intro aD w hm
  refine gs 32 rfl (fun aR => ?_) fun aR => ?_
  ·exact gct rfl (gS (gR (gM rfl (gA rfl (gE (gRt (gr1 results235 rfl ⟨v1, hz, rfl, (Heap.le_refl _), h1, hm.pk [0] rfl rfl⟩)))))))
  refine gcf rfl (gSk (gS (gR (gf rfl (fun a hf => e_build0 (α := Int) et_43 hm rfl) ?_))))
  rintro bM w hm
  refine gM rfl (gM rfl (gb fun aS aT => ?_))
  obtain ⟨aV, aW⟩ := subM_some.1 aT
  obtain ⟨bN, aX, aY⟩ : ∃ nv, nv = subV (GT.sz (Int)) v1 (0 : Int).toNat (aA : Int).toNat ∧ GT.rep hz [nv] aS := ⟨_, rfl, by rw [← aW]; exact rep_subV h1 (by omega) (by omega)⟩
  refine gY (yG rfl (yl_eq aX (y_slcH (α := Int) st_43 h1 rfl rfl rfl aV _))) (gb fun aZ aa => ?_)
  obtain ⟨ab, ac⟩ := appM_some.1 aa
  refine gf rfl (fun a hf => e_append 0 et_43 hf hm rfl (hm.now aY) rfl rfl rfl ab) ?_
  rintro ae w hm
  rw [ac] at hm
  refine gA rfl (gE (gS (gW (.p 0 (.p 1 (.p 4 (.p 5 (.p 6 (.e 2 (.e 3 (.e 7 (.p 8 .fin) .nil) .nil) .nil)))))) [] [0, 1, 4, 5, 6, 8] hm [0, 1] [ow [ae] aZ, junk w0 hz] rfl mxo (by kernel_rfl) (fun _ _ _ h => h.2) fun w hm hS => tP rfl (fun w => yM rfl) (tP rfl (fun w => yM rfl) (tP rfl (fun w => yM rfl) (tP rfl (fun w => yM rfl) (gb fun af ag => ?_)))))))
  obtain ⟨ah, ai⟩ := subM_some.1 ag
  obtain ⟨bO, aj, ak⟩ : ∃ nv, nv = subV (GT.sz (Int)) v1 (aA : Int).toNat ((list.length : Int) : Int).toNat ∧ GT.rep hz [nv] af := ⟨_, rfl, by rw [← ai]; exact rep_subV h1 (by omega) (by omega)⟩
  refine tP rfl (fun w => yG rfl (yl_eq aj (y_slcL (α := Int) st_43 h1 rfl rfl rfl ah _))) (tO (tf rfl rfl (fun a hf => e_build (vs := #[(0, (nV n_))]) (cs := [nV n_]) et_43 hf hm rfl rfl (by kernel_rfl) rfl rfl) ?_))
  rintro _ w ⟨am, rfl, hm⟩
  replace hm := hm.lit (xs := ([n_] : List Int)) 0 rfl rfl rfl rfl
  refine tAn rfl (tO (gb fun bP an => ?_))
  obtain ⟨ao, ap⟩ := appM_some.1 an
  refine tf rfl rfl (fun a hf => e_append 1 et_43 hf hm rfl (hm.ow_rep 0 rfl) rfl rfl rfl ao) ?_
  rintro bQ w hm
  rw [ap] at hm
  refine tAn rfl (tO (gb fun aq ar => ?_))
  obtain ⟨au, av⟩ := appM_some.1 ar
  refine tf rfl rfl (fun a hf => e_append 1 et_43 hf hm rfl (hm.now ak) rfl rfl rfl au) ?_
  rintro aG w hm
  rw [av] at hm
  refine tAn rfl (tP rfl (fun w => yA rfl) (tE (gRt ?_)))
  obtain ⟨aH, aw, hz_r0_1, hmf⟩ := hm.freeze 1 rfl
  replace hm := hmf.pk (L' := [ow [sV am 0 1 1] ([n_] : List Int), junk w0 hz]) [0, 2] rfl rfl
  clear hmf
  replace hz_r0_1 : GT.rep aH [aG] aq := fz_ow hz_r0_1
  exact gr1 results235 rfl ⟨aG, aH, rfl, aw, hz_r0_1, hm.pk [1] rfl rfl⟩
theorem spec_l10Sorted_ok (w0 : World) (hz : Heap) (hle0 : Heap.le hz (hp w0)) (list : List Int) (v1 : Value) (h1 : GT.rep hz [v1] list) :
    ConM Tryz.prog 318 [v1] w0 (spec_l10Sorted list) fun r v w' => ∃ (x1 : Value) (hz2 : Heap), v = x1 ∧ Heap.le hz hz2 ∧ GT.rep hz2 [x1] r ∧ Mem w0 hz2 w' [junk w0 hz] := by
  unfold spec_l10Sorted
  refine gcon func318 rfl fun r => ?_
  have hm := Mem.startA hle0
  refine gS (gR (gA rfl (gE (gS (gR (gf rfl (fun a hf => e_build0 (α := Int) et_43 hm rfl) ?_))))))
  rintro aF w hm
  refine gA rfl (gE (gS (gS (gR (gA rfl (gE ?_))))))
  obtain ⟨aC, aG, hz_r0_1, hmf⟩ := hm.freeze 0 rfl
  replace hm := hmf.pk (L' := [junk w0 hz]) [1] rfl rfl
  clear hmf
  replace hz_r0_1 : GT.rep aC [aF] ([] : List Int) := fz_ow hz_r0_1
  refine gBk (gNg (fun aH aD a w => ∃ (aA : Heap) (aB : Value), Heap.le aC aA ∧ GT.rep aA [aB] (aD) ∧ St 19 [(0, v1), (3, aB), (4, (nV aH))] w0 aA [junk w0 hz] a w) (fun a hf => ⟨aC, aF, (Heap.le_refl _), hz_r0_1, hf.sb rfl, hm.pk [0] rfl rfl⟩) ?_ ?_)
  ·repeat clear hm
   rintro _ _ aH aD a w ⟨aA, aB, aI, aL, hf, hm⟩ aV aW aX _
   refine gv hf (gS (gS (gR (gM rfl (gM rfl ?_)))))
   obtain ⟨aY, aZ, rfl, aa⟩ := ro_slice h1
   refine gY (yV st_43 rfl) (gB rfl (gE (go _ 9 rfl (decide_eq_true (by omega)) (gct rfl (gSk (gS (gBk (gR (gM rfl (gM rfl (gM rfl (gg fun aJ aM aE => ?_))))))))))))
   obtain ⟨ab, ac, ae, he⟩ := idx_form h1 aE
   obtain ⟨rfl, _, rfl⟩ := sl3 he
   refine gI st_43 aM (idx_lt aE) rfl (gY (yl isAgg3 ((flat_cells (cs := [nV aJ]) (hm.now (GT.mono (Heap.le_trans aG aI) h1)) aE rfl).cell (j := 0) rfl) rfl) (gCg rfl call235 (spec_l7Insert_ok _ _ hm.lez aD aB aL aJ ) ?_))
   rintro af ag aN w ⟨_, aO, rfl, aK, aP, hB⟩
   replace hm := Mem.giveA hm aK hB; clear hB
   exact gA rfl (gE (gR (gM rfl (gP (by omega) (by omega) rfl (gA rfl (gE (gZe fun a hf => ⟨aO, aN, (Heap.le_trans aI aK), aP, hf.sb rfl, hm.pk [0] rfl rfl⟩)))))))
  repeat clear hm
  rintro ah ai a w ⟨aQ, aR, aS, aT, hf, hm⟩ aj ak
  refine gv hf (gS (gS (gR (gM rfl (gM rfl ?_)))))
  obtain ⟨am, an, rfl, ao⟩ := ro_slice h1
  exact gY (yV st_43 rfl) (gB rfl (gE (go _ 9 rfl (decide_eq_false (by omega)) (gcf rfl (gXt (gHh (gS (gR (gM rfl (gA rfl (gE (gRt (gr1 results318 rfl ⟨aR, aQ, rfl, (Heap.le_trans aG aS), aT, hm.pk [0] rfl rfl⟩)))))))))))))
theorem spec_ReachedIn_ok (w0 : World) (hz : Heap) (hle0 : Heap.le hz (hp w0)) (c_ : Code_) (v1 : Value) (h1 : GT.rep hz [v1] c_.blocks) :
    ConM Tryz.prog 253 [(.agg #[nV c_.params, nV c_.regs, v1])] w0 (spec_ReachedIn c_) fun r v w' => ∃ (x1 : Value) (hz2 : Heap), v = x1 ∧ Heap.le hz hz2 ∧ GT.rep hz2 [x1] r ∧ Mem w0 hz2 w' [junk w0 hz] := by
  unfold spec_ReachedIn
  refine gcon func253 rfl fun r => ?_
  have hm := Mem.startA hle0
  refine gS (gR (gBx hm rfl fun aA w hm => gA rfl (gE (gS (gS (gR (gY (yn (hm.blk_at 0 rfl) isAgg49 sizeOf49 rfl) (gC hm rfl call317 (spec_l10Fits_ok _ c_ v1 (hm.now h1)) fun aN aO w hm => gN rfl (gE (gsn 5 rfl (fun aG => ?_) fun aG => ?_))))))))))
  ·refine gct rfl (gS (gR (gf rfl (fun a hf => e_build0 (α := Int) et_43 hm rfl) ?_)))
   rintro aB w hm
   refine gA rfl (gE (gRt ?_))
   obtain ⟨aC, aH, hz_r0_1, hmf⟩ := hm.freeze 0 rfl
   replace hm := hmf.pk (L' := [blk aA [nV c_.params, nV c_.regs, v1] 49, junk w0 hz]) [1, 2] rfl rfl
   clear hmf
   replace hz_r0_1 : GT.rep aC [aB] ([] : List Int) := fz_ow hz_r0_1
   exact gr1 results253 rfl ⟨aB, aC, rfl, aH, hz_r0_1, hm.pk [1] rfl rfl⟩
  refine gcf rfl (gSk (gS (gR (gY (yn (hm.blk_at 0 rfl) isAgg49 sizeOf49 rfl) (gCg rfl call189 (spec_l10Order_ok _ c_ v1 (hm.now h1)) ?_)))))
  rintro aD aP aE w ⟨_, rfl, hB⟩
  replace hm := hm.give hB; clear hB
  obtain ⟨aI, aJ, hz_r0_2, hmf⟩ := hm.freeze 0 rfl
  replace hm := hmf.pk (L' := [blk aA [nV c_.params, nV c_.regs, v1] 49, junk w0 hz]) [1, 2] rfl rfl
  clear hmf
  replace hz_r0_2 : GT.rep aI [aE] aD := fz_ow hz_r0_2
  refine gCg rfl call318 (spec_l10Sorted_ok _ _ hm.lez aD aE hz_r0_2 ) ?_
  rintro aQ aR aK w ⟨_, aL, rfl, aF, aM, hB⟩
  replace hm := Mem.giveA hm aF hB; clear hB
  exact gA rfl (gE (gRt (gr1 results253 rfl ⟨aK, aL, rfl, (Heap.le_trans aJ aF), aM, hm.pk [1] rfl rfl⟩)))
theorem spec_l10Place_ok (w0 : World) (n_ : Int) (list : List Int) (v1 : Value) (h1 : GT.rep (hp w0) [v1] list) :
    ConM Tryz.prog 254 [nV n_, v1] w0 (spec_l10Place n_ list) fun r v w' => ∃ (x1 : Value), v = x1 ∧ Mem w0 (hp w0) w' [ow [x1] r] := by
  unfold spec_l10Place
  refine gcon func254 rfl fun r => ?_
  have hm := Mem.start w0
  refine gS (gR (gA rfl (gE (gS (gR (gM rfl (gb fun aA aM => ?_)))))))
  obtain ⟨⟨aN, aO⟩, aK⟩ := makeM_some.1 aM
  refine gf rfl (fun a hf => e_make (x0 := (0 : Int)) et_43 (fun _ => (Flat.own_iff.2 rfl)) hf hm rfl rfl rfl aN (Int.le_refl _) aO) ?_
  rintro aT w hm
  rw [aK] at hm
  have h0_1l : (aA.length : Int) = n_ := by rw [← aK]; simp only [List.length_replicate]; omega
  refine gA rfl (gE (gS (gS (gR (gA rfl (gE ?_))))))
  obtain ⟨aC, aD, rfl, aV⟩ := ro_slice (hm.ow_rep 0 rfl)
  refine gBk (gb fun _ aL => ?_)
  replace aL := fitI_some.1 aL
  refine gNf hm (fun aG aH => [(0, (nV n_)), (1, v1), (5, (.slice aC aA.length aD)), (6, (nV aG))]) (fun aG aH => [ow [.slice aC aA.length aD] aH]) [0] rfl ?_ ?_
  ·repeat clear hm
   intro _ _ aG aH w hm aW aX aY _
   refine gS (gS (gR (gM rfl (gM rfl (gB rfl (gE (go _ 12 rfl (decide_eq_true (by omega)) (gct rfl (gSk (gS (gBk (gR (gM rfl (gM rfl (gg fun aZ aP aE => ?_)))))))))))))))
   obtain ⟨aa, ab, ac, he⟩ := idx_form (hm.ow_rep 0 rfl) aE
   obtain ⟨rfl, _, rfl⟩ := sl3 he
   have hL1_1 := rep_slice_len (hm.ow_rep 0 rfl)
   refine gI st_43 aP (idx_lt2 aE hL1_1) rfl (gf0 rfl (fun a hf => e_setElem (x1 := -1) (j := 0) (vs := [nV (-1)]) 0 hf hm rfl aE rfl sizeOf3 rfl rfl rfl (one_cons rfl one_nil) rfl rfl) ?_)
   rintro _ w hm
   have ae := List.getElem?_set_self (a := -1) (idx_lt aE)
   exact gE (gR (gM rfl (gP (by omega) (by omega) rfl (gA rfl (gE (gze hm [0] rfl))))))
  repeat clear hm
  intro af ag w hm ah ai
  refine gS (gS (gR (gM rfl (gM rfl (gB rfl (gE (go _ 12 rfl (decide_eq_false (by omega)) (gcf rfl (gXt (gHh (gS (gS (gR (gA rfl (gE (gBk (gNf hm (fun aB aI => [(1, v1), (5, (.slice aC aA.length aD)), (7, (nV aB))]) (fun aB aI => [ow [.slice aC aA.length aD] aI]) [0] rfl ?_ ?_)))))))))))))))))
  ·repeat clear hm
   intro _ _ aB aI w hm aj ak am _
   refine gS (gS (gR (gM rfl (gM rfl ?_))))
   obtain ⟨an, ao, rfl, ap⟩ := ro_slice h1
   refine gY (yV st_43 rfl) (gB rfl (gE (go _ 21 rfl (decide_eq_true (by omega)) (gct rfl (gSk (gS (gBk (gR (gM rfl (gM rfl (gM rfl (gg fun aQ aR aJ => ?_))))))))))))
   obtain ⟨aq, ar, au, he⟩ := idx_form h1 aJ
   obtain ⟨rfl, _, rfl⟩ := sl3 he
   refine gI st_43 aR (idx_lt aJ) rfl (gY (yl isAgg3 ((flat_cells (cs := [nV aQ]) (hm.now h1) aJ rfl).cell (j := 0) rfl) rfl) (gM rfl (gg fun av aS aF => ?_)))
   obtain ⟨aw, ax, ay, he⟩ := idx_form (hm.ow_rep 0 rfl) aF
   obtain ⟨rfl, _, rfl⟩ := sl3 he
   have hL1_2 := rep_slice_len (hm.ow_rep 0 rfl)
   refine gI st_43 aS (idx_lt2 aF hL1_2) rfl (gf0 rfl (fun a hf => e_setElem (x1 := aB) (j := 0) (vs := [nV aB]) 0 hf hm rfl aF rfl sizeOf3 rfl rfl rfl (one_cons rfl one_nil) rfl rfl) ?_)
   rintro _ w hm
   have az := List.getElem?_set_self (a := aB) (idx_lt aF)
   exact gE (gR (gM rfl (gP (by omega) (by omega) rfl (gA rfl (gE (gze hm [0] rfl))))))
  repeat clear hm
  intro bA bB w hm bC bD
  refine gS (gS (gR (gM rfl (gM rfl ?_))))
  obtain ⟨bE, bF, rfl, bG⟩ := ro_slice h1
  exact gY (yV st_43 rfl) (gB rfl (gE (go _ 21 rfl (decide_eq_false (by omega)) (gcf rfl (gXt (gHh (gS (gR (gM rfl (gA rfl (gE (gRt (gr1 results254 rfl ⟨.slice aC aA.length aD, rfl, hm.pk [0] rfl rfl⟩)))))))))))))
abbrev od175_1 : Go.Wk.Ord := (.p 10 (.e 12 .fin .nil))
abbrev od175_2 : Go.Wk.Ord := (.p 10 (.e 11 (.e 12 .fin .nil) .nil))
abbrev od175_3 : Go.Wk.Ord := (.e 9 od175_2 (.e 11 (.e 9 od175_1 .nil) .nil))
abbrev od175_4 : Go.Wk.Ord := (.e 6 (.e 9 od175_1 .nil) .nil)
abbrev od175_5 : Go.Wk.Ord := (.e 1 od175_2 (.e 11 (.e 1 od175_1 .nil) .nil))
abbrev od175_6 : Go.Wk.Ord := (.e 1 (.e 9 od175_1 .nil) (.e 9 (.e 1 od175_1 .nil) .nil))
abbrev od175_7 : Go.Wk.Ord := (.e 0 od175_2 (.e 11 (.e 0 od175_1 .nil) .nil))
abbrev od175_8 : Go.Wk.Ord := (.e 0 (.e 9 od175_1 .nil) (.e 9 (.e 0 od175_1 .nil) .nil))
abbrev od175_9 : Go.Wk.Ord := (.e 0 (.e 1 od175_1 .nil) (.e 1 (.e 0 od175_1 .nil) .nil))
abbrev od175_10 : Go.Wk.Ord := (.e 6 od175_3 (.e 11 od175_4 .nil))
abbrev od175_11 : Go.Wk.Ord := (.e 1 od175_3 (.e 9 od175_5 (.e 11 od175_6 .nil)))
abbrev od175_12 : Go.Wk.Ord := (.e 1 od175_4 (.e 6 od175_6 .nil))
abbrev od175_13 : Go.Wk.Ord := (.e 0 od175_3 (.e 9 od175_7 (.e 11 od175_8 .nil)))
abbrev od175_14 : Go.Wk.Ord := (.e 0 od175_4 (.e 6 od175_8 .nil))
abbrev od175_15 : Go.Wk.Ord := (.e 0 od175_6 (.e 1 od175_8 (.e 9 od175_9 .nil)))
theorem spec_l7CopyBlock_ok (w0 : World) (b_ : Block_) (v1 : Value) (h1 : GT.rep (hp w0) [v1] b_.phis) (v2 : Value) (h2 : GT.rep (hp w0) [v2] b_.ins) (v3 : Value) (h3 : GT.rep (hp w0) [v3] b_.next_) :
    ConM Tryz.prog 175 [(.agg #[v1, v2, nV b_.jump, nV b_.on, v3])] w0 (spec_l7CopyBlock b_) fun r v w' => ∃ (x1 : Value) (x2 : Value) (x3 : Value), v = (.agg #[x1, x2, nV r.jump, nV r.on, x3]) ∧ Mem w0 (hp w0) w' [ow [x1] r.phis, ow [x2] r.ins, ow [x3] r.next_] := by
  unfold spec_l7CopyBlock
  refine gcon func175 rfl fun r => ?_
  have hm := Mem.start w0
  refine gS (gR (gBx hm rfl fun aB w hm => gAl hm zeroValue63 rfl fun aC w hm => gE (gS (gJg (fun aD a w => ∃ (aI : Nat) (bv bw bx : Value), St 74 [(1, (pV aB)), (2, (pV aC)), (3, (pV aI))] w0 (hp w0) [blk aB [v1, v2, nV b_.jump, nV b_.on, v3] 63, blk aC [.slice none 0 0, .slice none 0 0, nV 0, nV 0, .slice none 0 0] 63, blk aI [bv, bw, nV b_.jump, nV b_.on, bx] 63, ow [bv] ([] : List Phi_), ow [bw] ([] : List Ins_), ow [bx] aD] a w) (fun aD => ?_) ?_))))
  ·refine gW (.p 2 (.p 4 (.p 7 (.q 3 (.q 5 (.q 8 (.e 0 (.e 1 od175_10 (.e 6 od175_11 (.e 11 od175_12 .nil))) (.e 1 (.e 0 od175_10 (.e 6 od175_13 (.e 11 od175_14 .nil))) (.e 6 (.e 0 od175_11 (.e 1 od175_13 (.e 9 (.e 0 od175_5 (.e 1 od175_7 (.e 11 od175_9 .nil))) (.e 11 od175_15 .nil)))) (.e 11 (.e 0 od175_12 (.e 1 od175_14 (.e 6 od175_15 .nil))) .nil)))))))))) [0, 1, 3, 5, 6, 8, 9, 11] [2, 4, 7, 10] hm [0, 1] [blk aC [.slice none 0 0, .slice none 0 0, nV 0, nV 0, .slice none 0 0] 63, blk aB [v1, v2, nV b_.jump, nV b_.on, v3] 63] rfl mxo (by kernel_rfl) (fun _ _ _ h => h.2) fun w hm hS => tP rfl (fun w => yF fo_63_2 rfl) (tP rfl (fun w => yF fo_63_3 rfl) (tP rfl (fun w => yF fo_63_4 rfl) (tQ rfl hS (fun w hm => yL hm 1 isAgg3 rfl) (tQ rfl hS (fun w hm => yL hm 1 isAgg3 rfl) (tQ rfl hS (fun w hm => yL hm 1 isAgg43 rfl) (gb fun aN aY => tSh ((.e 12 .fin .nil)) (fun a w => ∃ (bW : Nat) (bX bY bZ : Value), St 74 [(1, (pV aB)), (2, (pV aC)), (3, (pV bW)), (17, (.agg #[bX, bY, nV b_.jump, nV b_.on, bZ]))] w0 (hp w0) [blk aB [v1, v2, nV b_.jump, nV b_.on, v3] 63, blk aC [.slice none 0 0, .slice none 0 0, nV 0, nV 0, .slice none 0 0] 63, blk bW [.slice none 0 0, .slice none 0 0, nV 0, nV 0, .slice none 0 0] 63, ow [bX] ([] : List Phi_), ow [bY] ([] : List Ins_), ow [bZ] aN] a w) ?_ fun hT2_1 => ?_))))))
   ·rintro a w ⟨bW, bX, bY, bZ, hf, hm⟩
    refine tSv hf hm [1, 0] rfl fun hS => tO (tf0 rfl rfl (fun a hf => e_storeN 2 hf hm rfl sizeOf63 rfl rfl rfl (one_cons (rep_one (hm.ow_rep 3 rfl)) (one_cons (rep_one (hm.ow_rep 4 rfl)) (one_cons rfl (one_cons rfl (one_cons (rep_one (hm.ow_rep 5 rfl)) one_nil))))) rfl rfl) ?_)
    rintro _ w hm
    exact tAn rfl (tE (gZ fun a hf => ⟨bW, bX, bY, bZ, hf.sb rfl, hm.pk [0, 1, 2, 3, 4, 5] rfl rfl⟩))
   refine tSh (od175_1) (fun a w => ∃ (b8 : Nat) (bz cA cB : Value), St 74 [(1, (pV aB)), (2, (pV aC)), (3, (pV b8)), (7, bz), (8, cA), (10, (nV b_.jump)), (12, (nV b_.on)), (16, cB)] w0 (hp w0) [blk aB [v1, v2, nV b_.jump, nV b_.on, v3] 63, blk aC [.slice none 0 0, .slice none 0 0, nV 0, nV 0, .slice none 0 0] 63, blk b8 [.slice none 0 0, .slice none 0 0, nV 0, nV 0, .slice none 0 0] 63, ow [bz] ([] : List Phi_), ow [cA] ([] : List Ins_), ow [cB] aN] a w) ?_ fun hT2_2 => ?_
   ·rintro a w ⟨b8, bz, cA, cB, hf, hm⟩
    refine tSv hf hm [1, 0] rfl fun hS => ?_
    obtain ⟨ag, ah, rfl, cR⟩ := ro_slice (hm.ow_rep 3 rfl)
    obtain ⟨ai, aj, rfl, cS⟩ := ro_slice (hm.ow_rep 4 rfl)
    obtain ⟨ak, am, rfl, cT⟩ := ro_slice (hm.ow_rep 5 rfl)
    exact tP rfl (fun w => yG rfl (y_build (vs := [(0, (.slice ag ([] : List Phi_).length ah)), (1, (.slice ai ([] : List Ins_).length aj)), (2, (nV b_.jump)), (3, (nV b_.on)), (4, (.slice ak aN.length am))]) (cs := #[.slice ag ([] : List Phi_).length ah, .slice ai ([] : List Ins_).length aj, nV b_.jump, nV b_.on, .slice ak aN.length am]) rfl rfl (by kernel_rfl))) (tUse hT2_1 fun a hf => ⟨b8, .slice ag ([] : List Phi_).length ah, .slice ai ([] : List Ins_).length aj, .slice ak aN.length am, hf.sb rfl, hm.pk [0, 1, 2, 3, 4, 5] rfl rfl⟩)
   refine tSh ((.e 0 od175_1 .nil)) (fun a w => ∃ (b9 : Nat) (ba bb : Value), St 74 [(1, (pV aB)), (2, (pV aC)), (3, (pV b9)), (8, ba), (10, (nV b_.jump)), (12, (nV b_.on)), (16, bb)] w0 (hp w0) [blk aB [v1, v2, nV b_.jump, nV b_.on, v3] 63, blk aC [.slice none 0 0, .slice none 0 0, nV 0, nV 0, .slice none 0 0] 63, blk b9 [.slice none 0 0, .slice none 0 0, nV 0, nV 0, .slice none 0 0] 63, ow [ba] ([] : List Ins_), ow [bb] aN] a w) ?_ fun hT2_3 => ?_
   ·rintro a w ⟨b9, ba, bb, hf, hm⟩
    refine tSv hf hm [1, 0] rfl fun hS => tO (tf rfl rfl (fun a hf => e_build0 (α := Phi_) et_60 hm rfl) ?_)
    rintro aE w hm
    exact tAk hm [2, 1] rfl fun hS => tUse hT2_2 fun a hf => ⟨b9, aE, ba, bb, hf.sb rfl, hm.pk [1, 2, 3, 0, 4, 5] rfl rfl⟩
   refine tSh ((.e 1 od175_1 .nil)) (fun a w => ∃ (bc : Nat) (bd be : Value), St 74 [(1, (pV aB)), (2, (pV aC)), (3, (pV bc)), (7, bd), (10, (nV b_.jump)), (12, (nV b_.on)), (16, be)] w0 (hp w0) [blk aB [v1, v2, nV b_.jump, nV b_.on, v3] 63, blk aC [.slice none 0 0, .slice none 0 0, nV 0, nV 0, .slice none 0 0] 63, blk bc [.slice none 0 0, .slice none 0 0, nV 0, nV 0, .slice none 0 0] 63, ow [bd] ([] : List Phi_), ow [be] aN] a w) ?_ fun hT2_4 => ?_
   ·rintro a w ⟨bc, bd, be, hf, hm⟩
    refine tSv hf hm [1, 0] rfl fun hS => tO (tf rfl rfl (fun a hf => e_build0 (α := Ins_) et_61 hm rfl) ?_)
    rintro aE w hm
    exact tAk hm [2, 1] rfl fun hS => tUse hT2_2 fun a hf => ⟨bc, bd, aE, be, hf.sb rfl, hm.pk [1, 2, 3, 4, 0, 5] rfl rfl⟩
   refine tSh ((.e 9 od175_1 .nil)) (fun a w => ∃ (bf : Nat) (bg bh cC : Value), St 74 [(1, (pV aB)), (2, (pV aC)), (3, (pV bf)), (7, bg), (8, bh), (10, (nV b_.jump)), (12, (nV b_.on)), (13, cC), (15, v3)] w0 (hp w0) [blk aB [v1, v2, nV b_.jump, nV b_.on, v3] 63, blk aC [.slice none 0 0, .slice none 0 0, nV 0, nV 0, .slice none 0 0] 63, blk bf [.slice none 0 0, .slice none 0 0, nV 0, nV 0, .slice none 0 0] 63, ow [bg] ([] : List Phi_), ow [bh] ([] : List Ins_), ow [cC] ([] : List Int)] a w) ?_ fun hT2_5 => ?_
   ·rintro a w ⟨bf, bg, bh, cC, hf, hm⟩
    refine tSv hf hm [1, 0] rfl fun hS => tO ?_
    obtain ⟨aK, aL⟩ := appM_some.1 aY
    refine tf rfl rfl (fun a hf => e_append 5 et_43 hf hm rfl (hm.now h3) rfl rfl rfl aK) ?_
    rintro aE w hm
    rw [aL] at hm
    exact tAk hm [1, 0] rfl fun hS => tUse hT2_2 fun a hf => ⟨bf, bg, bh, aE, hf.sb rfl, hm.pk [0, 1, 2, 3, 4, 5] rfl rfl⟩
   refine tSh (od175_2) (fun a w => ∃ (cD cE cF : Value), St 74 [(1, (pV aB)), (2, (pV aC)), (7, cD), (8, cE), (10, (nV b_.jump)), (12, (nV b_.on)), (16, cF)] w0 (hp w0) [blk aB [v1, v2, nV b_.jump, nV b_.on, v3] 63, blk aC [.slice none 0 0, .slice none 0 0, nV 0, nV 0, .slice none 0 0] 63, ow [cD] ([] : List Phi_), ow [cE] ([] : List Ins_), ow [cF] aN] a w) ?_ fun hT2_6 => ?_
   ·rintro a w ⟨cD, cE, cF, hf, hm⟩
    refine tSv hf hm [1, 0] rfl fun hS => ?_
    obtain ⟨ag, ah, rfl, cR⟩ := ro_slice (hm.ow_rep 2 rfl)
    obtain ⟨ai, aj, rfl, cS⟩ := ro_slice (hm.ow_rep 3 rfl)
    obtain ⟨ak, am, rfl, cT⟩ := ro_slice (hm.ow_rep 4 rfl)
    refine tP rfl (fun w => yG rfl (y_build (vs := [(0, (.slice ag ([] : List Phi_).length ah)), (1, (.slice ai ([] : List Ins_).length aj)), (2, (nV b_.jump)), (3, (nV b_.on)), (4, (.slice ak aN.length am))]) (cs := #[.slice ag ([] : List Phi_).length ah, .slice ai ([] : List Ins_).length aj, nV b_.jump, nV b_.on, .slice ak aN.length am]) rfl rfl (by kernel_rfl))) (tO (tf rfl rfl (fun a hf => e_alloc hm zeroValue63 rfl rfl) ?_))
    rintro _ w ⟨aM, rfl, hm⟩
    exact tAk hm [2, 1] rfl fun hS => tUse hT2_1 fun a hf => ⟨aM, .slice ag ([] : List Phi_).length ah, .slice ai ([] : List Ins_).length aj, .slice ak aN.length am, hf.sb rfl, hm.pk [1, 2, 0, 3, 4, 5] rfl rfl⟩
   refine tSh (od175_9) (fun a w => ∃ (au : Nat) (av : Value), St 74 [(1, (pV aB)), (2, (pV aC)), (3, (pV au)), (10, (nV b_.jump)), (12, (nV b_.on)), (16, av)] w0 (hp w0) [blk aB [v1, v2, nV b_.jump, nV b_.on, v3] 63, blk aC [.slice none 0 0, .slice none 0 0, nV 0, nV 0, .slice none 0 0] 63, blk au [.slice none 0 0, .slice none 0 0, nV 0, nV 0, .slice none 0 0] 63, ow [av] aN] a w) ?_ fun hT2_7 => ?_
   ·rintro a w ⟨au, av, hf, hm⟩
    refine tSv hf hm [1, 0] rfl fun hS => tMo ?_ ?_
    ·refine tf rfl rfl (fun a hf => e_build0 (α := Phi_) et_60 hm rfl) ?_
     rintro aE w hm
     exact tAk hm [2, 1] rfl fun hS => tUse hT2_4 fun a hf => ⟨au, aE, av, hf.sb rfl, hm.pk [1, 2, 3, 0, 4] rfl rfl⟩
    refine tO (tf rfl rfl (fun a hf => e_build0 (α := Ins_) et_61 hm rfl) ?_)
    rintro aJ w hm
    exact tAk hm [2, 1] rfl fun hS => tUse hT2_3 fun a hf => ⟨au, aJ, av, hf.sb rfl, hm.pk [1, 2, 3, 0, 4] rfl rfl⟩
   refine tSh (od175_8) (fun a w => ∃ (aw : Nat) (ax bi : Value), St 74 [(1, (pV aB)), (2, (pV aC)), (3, (pV aw)), (8, ax), (10, (nV b_.jump)), (12, (nV b_.on)), (13, bi), (15, v3)] w0 (hp w0) [blk aB [v1, v2, nV b_.jump, nV b_.on, v3] 63, blk aC [.slice none 0 0, .slice none 0 0, nV 0, nV 0, .slice none 0 0] 63, blk aw [.slice none 0 0, .slice none 0 0, nV 0, nV 0, .slice none 0 0] 63, ow [ax] ([] : List Ins_), ow [bi] ([] : List Int)] a w) ?_ fun hT2_8 => ?_
   ·rintro a w ⟨aw, ax, bi, hf, hm⟩
    refine tSv hf hm [1, 0] rfl fun hS => tMo ?_ ?_
    ·refine tf rfl rfl (fun a hf => e_build0 (α := Phi_) et_60 hm rfl) ?_
     rintro aE w hm
     exact tAk hm [2, 1] rfl fun hS => tUse hT2_5 fun a hf => ⟨aw, aE, ax, bi, hf.sb rfl, hm.pk [1, 2, 3, 0, 4, 5] rfl rfl⟩
    refine tO ?_
    obtain ⟨aK, aL⟩ := appM_some.1 aY
    refine tf rfl rfl (fun a hf => e_append 4 et_43 hf hm rfl (hm.now h3) rfl rfl rfl aK) ?_
    rintro aJ w hm
    rw [aL] at hm
    exact tAk hm [1, 0] rfl fun hS => tUse hT2_3 fun a hf => ⟨aw, ax, aJ, hf.sb rfl, hm.pk [0, 1, 2, 3, 4] rfl rfl⟩
   refine tSh (od175_7) (fun a w => ∃ (ay az : Value), St 74 [(1, (pV aB)), (2, (pV aC)), (8, ay), (10, (nV b_.jump)), (12, (nV b_.on)), (16, az)] w0 (hp w0) [blk aB [v1, v2, nV b_.jump, nV b_.on, v3] 63, blk aC [.slice none 0 0, .slice none 0 0, nV 0, nV 0, .slice none 0 0] 63, ow [ay] ([] : List Ins_), ow [az] aN] a w) ?_ fun hT2_9 => ?_
   ·rintro a w ⟨ay, az, hf, hm⟩
    refine tSv hf hm [1, 0] rfl fun hS => tMo ?_ ?_
    ·refine tf rfl rfl (fun a hf => e_build0 (α := Phi_) et_60 hm rfl) ?_
     rintro aE w hm
     exact tAk hm [2, 1] rfl fun hS => tUse hT2_6 fun a hf => ⟨aE, ay, az, hf.sb rfl, hm.pk [1, 2, 0, 3, 4] rfl rfl⟩
    refine tO (tf rfl rfl (fun a hf => e_alloc hm zeroValue63 rfl rfl) ?_)
    rintro _ w ⟨aM, rfl, hm⟩
    exact tAk hm [2, 1] rfl fun hS => tUse hT2_3 fun a hf => ⟨aM, ay, az, hf.sb rfl, hm.pk [1, 2, 0, 3, 4] rfl rfl⟩
   refine tSh (od175_6) (fun a w => ∃ (bA : Nat) (bB bj : Value), St 74 [(1, (pV aB)), (2, (pV aC)), (3, (pV bA)), (7, bB), (10, (nV b_.jump)), (12, (nV b_.on)), (13, bj), (15, v3)] w0 (hp w0) [blk aB [v1, v2, nV b_.jump, nV b_.on, v3] 63, blk aC [.slice none 0 0, .slice none 0 0, nV 0, nV 0, .slice none 0 0] 63, blk bA [.slice none 0 0, .slice none 0 0, nV 0, nV 0, .slice none 0 0] 63, ow [bB] ([] : List Phi_), ow [bj] ([] : List Int)] a w) ?_ fun hT2_10 => ?_
   ·rintro a w ⟨bA, bB, bj, hf, hm⟩
    refine tSv hf hm [1, 0] rfl fun hS => tMo ?_ ?_
    ·refine tf rfl rfl (fun a hf => e_build0 (α := Ins_) et_61 hm rfl) ?_
     rintro aE w hm
     exact tAk hm [2, 1] rfl fun hS => tUse hT2_5 fun a hf => ⟨bA, bB, aE, bj, hf.sb rfl, hm.pk [1, 2, 3, 4, 0, 5] rfl rfl⟩
    refine tO ?_
    obtain ⟨aK, aL⟩ := appM_some.1 aY
    refine tf rfl rfl (fun a hf => e_append 4 et_43 hf hm rfl (hm.now h3) rfl rfl rfl aK) ?_
    rintro aJ w hm
    rw [aL] at hm
    exact tAk hm [1, 0] rfl fun hS => tUse hT2_4 fun a hf => ⟨bA, bB, aJ, hf.sb rfl, hm.pk [0, 1, 2, 3, 4] rfl rfl⟩
   refine tSh (od175_5) (fun a w => ∃ (bC bD : Value), St 74 [(1, (pV aB)), (2, (pV aC)), (7, bC), (10, (nV b_.jump)), (12, (nV b_.on)), (16, bD)] w0 (hp w0) [blk aB [v1, v2, nV b_.jump, nV b_.on, v3] 63, blk aC [.slice none 0 0, .slice none 0 0, nV 0, nV 0, .slice none 0 0] 63, ow [bC] ([] : List Phi_), ow [bD] aN] a w) ?_ fun hT2_11 => ?_
   ·rintro a w ⟨bC, bD, hf, hm⟩
    refine tSv hf hm [1, 0] rfl fun hS => tMo ?_ ?_
    ·refine tf rfl rfl (fun a hf => e_build0 (α := Ins_) et_61 hm rfl) ?_
     rintro aE w hm
     exact tAk hm [2, 1] rfl fun hS => tUse hT2_6 fun a hf => ⟨bC, aE, bD, hf.sb rfl, hm.pk [1, 2, 3, 0, 4] rfl rfl⟩
    refine tO (tf rfl rfl (fun a hf => e_alloc hm zeroValue63 rfl rfl) ?_)
    rintro _ w ⟨aM, rfl, hm⟩
    exact tAk hm [2, 1] rfl fun hS => tUse hT2_4 fun a hf => ⟨aM, bC, bD, hf.sb rfl, hm.pk [1, 2, 0, 3, 4] rfl rfl⟩
   refine tSh (od175_4) (fun a w => ∃ (bk : Nat) (bl bm : Value), St 74 [(1, (pV aB)), (2, (pV aC)), (3, (pV bk)), (7, bl), (8, bm), (10, (nV b_.jump)), (12, (nV b_.on)), (15, v3)] w0 (hp w0) [blk aB [v1, v2, nV b_.jump, nV b_.on, v3] 63, blk aC [.slice none 0 0, .slice none 0 0, nV 0, nV 0, .slice none 0 0] 63, blk bk [.slice none 0 0, .slice none 0 0, nV 0, nV 0, .slice none 0 0] 63, ow [bl] ([] : List Phi_), ow [bm] ([] : List Ins_)] a w) ?_ fun hT2_12 => ?_
   ·rintro a w ⟨bk, bl, bm, hf, hm⟩
    refine tSv hf hm [1, 0] rfl fun hS => tO (tf rfl rfl (fun a hf => e_build0 (α := Int) et_43 hm rfl) ?_)
    rintro aE w hm
    exact tAk hm [2, 1] rfl fun hS => tUse hT2_5 fun a hf => ⟨bk, bl, bm, aE, hf.sb rfl, hm.pk [1, 2, 3, 4, 5, 0] rfl rfl⟩
   refine tSh (od175_3) (fun a w => ∃ (bE bF bo : Value), St 74 [(1, (pV aB)), (2, (pV aC)), (7, bE), (8, bF), (10, (nV b_.jump)), (12, (nV b_.on)), (13, bo), (15, v3)] w0 (hp w0) [blk aB [v1, v2, nV b_.jump, nV b_.on, v3] 63, blk aC [.slice none 0 0, .slice none 0 0, nV 0, nV 0, .slice none 0 0] 63, ow [bE] ([] : List Phi_), ow [bF] ([] : List Ins_), ow [bo] ([] : List Int)] a w) ?_ fun hT2_13 => ?_
   ·rintro a w ⟨bE, bF, bo, hf, hm⟩
    refine tSv hf hm [1, 0] rfl fun hS => tMo ?_ ?_
    ·obtain ⟨aK, aL⟩ := appM_some.1 aY
     refine tf rfl rfl (fun a hf => e_append 4 et_43 hf hm rfl (hm.now h3) rfl rfl rfl aK) ?_
     rintro aE w hm
     rw [aL] at hm
     exact tAk hm [1, 0] rfl fun hS => tUse hT2_6 fun a hf => ⟨bE, bF, aE, hf.sb rfl, hm.pk [0, 1, 2, 3, 4] rfl rfl⟩
    refine tO (tf rfl rfl (fun a hf => e_alloc hm zeroValue63 rfl rfl) ?_)
    rintro _ w ⟨aM, rfl, hm⟩
    exact tAk hm [2, 1] rfl fun hS => tUse hT2_5 fun a hf => ⟨aM, bE, bF, bo, hf.sb rfl, hm.pk [1, 2, 0, 3, 4, 5] rfl rfl⟩
   refine tSh (od175_15) (fun a w => ∃ (an : Nat) (bG : Value), St 74 [(1, (pV aB)), (2, (pV aC)), (3, (pV an)), (10, (nV b_.jump)), (12, (nV b_.on)), (13, bG), (15, v3)] w0 (hp w0) [blk aB [v1, v2, nV b_.jump, nV b_.on, v3] 63, blk aC [.slice none 0 0, .slice none 0 0, nV 0, nV 0, .slice none 0 0] 63, blk an [.slice none 0 0, .slice none 0 0, nV 0, nV 0, .slice none 0 0] 63, ow [bG] ([] : List Int)] a w) ?_ fun hT2_14 => ?_
   ·rintro a w ⟨an, bG, hf, hm⟩
    refine tSv hf hm [1, 0] rfl fun hS => tMo ?_ ?_
    ·refine tf rfl rfl (fun a hf => e_build0 (α := Phi_) et_60 hm rfl) ?_
     rintro aE w hm
     exact tAk hm [2, 1] rfl fun hS => tUse hT2_10 fun a hf => ⟨an, aE, bG, hf.sb rfl, hm.pk [1, 2, 3, 0, 4] rfl rfl⟩
    refine tMo ?_ ?_
    ·refine tf rfl rfl (fun a hf => e_build0 (α := Ins_) et_61 hm rfl) ?_
     rintro aJ w hm
     exact tAk hm [2, 1] rfl fun hS => tUse hT2_8 fun a hf => ⟨an, aJ, bG, hf.sb rfl, hm.pk [1, 2, 3, 0, 4] rfl rfl⟩
    refine tO ?_
    obtain ⟨aK, aL⟩ := appM_some.1 aY
    refine tf rfl rfl (fun a hf => e_append 3 et_43 hf hm rfl (hm.now h3) rfl rfl rfl aK) ?_
    rintro cG w hm
    rw [aL] at hm
    exact tAk hm [1, 0] rfl fun hS => tUse hT2_7 fun a hf => ⟨an, cG, hf.sb rfl, hm.pk [0, 1, 2, 3] rfl rfl⟩
   refine tSh (od175_14) (fun a w => ∃ (bH : Nat) (bJ : Value), St 74 [(1, (pV aB)), (2, (pV aC)), (3, (pV bH)), (8, bJ), (10, (nV b_.jump)), (12, (nV b_.on)), (15, v3)] w0 (hp w0) [blk aB [v1, v2, nV b_.jump, nV b_.on, v3] 63, blk aC [.slice none 0 0, .slice none 0 0, nV 0, nV 0, .slice none 0 0] 63, blk bH [.slice none 0 0, .slice none 0 0, nV 0, nV 0, .slice none 0 0] 63, ow [bJ] ([] : List Ins_)] a w) ?_ fun hT2_15 => ?_
   ·rintro a w ⟨bH, bJ, hf, hm⟩
    refine tSv hf hm [1, 0] rfl fun hS => tMo ?_ ?_
    ·refine tf rfl rfl (fun a hf => e_build0 (α := Phi_) et_60 hm rfl) ?_
     rintro aE w hm
     exact tAk hm [2, 1] rfl fun hS => tUse hT2_12 fun a hf => ⟨bH, aE, bJ, hf.sb rfl, hm.pk [1, 2, 3, 0, 4] rfl rfl⟩
    refine tO (tf rfl rfl (fun a hf => e_build0 (α := Int) et_43 hm rfl) ?_)
    rintro aJ w hm
    exact tAk hm [2, 1] rfl fun hS => tUse hT2_8 fun a hf => ⟨bH, bJ, aJ, hf.sb rfl, hm.pk [1, 2, 3, 4, 0] rfl rfl⟩
   refine tSh (od175_13) (fun a w => ∃ (ao bK : Value), St 74 [(1, (pV aB)), (2, (pV aC)), (8, ao), (10, (nV b_.jump)), (12, (nV b_.on)), (13, bK), (15, v3)] w0 (hp w0) [blk aB [v1, v2, nV b_.jump, nV b_.on, v3] 63, blk aC [.slice none 0 0, .slice none 0 0, nV 0, nV 0, .slice none 0 0] 63, ow [ao] ([] : List Ins_), ow [bK] ([] : List Int)] a w) ?_ fun hT2_16 => ?_
   ·rintro a w ⟨ao, bK, hf, hm⟩
    refine tSv hf hm [1, 0] rfl fun hS => tMo ?_ ?_
    ·refine tf rfl rfl (fun a hf => e_build0 (α := Phi_) et_60 hm rfl) ?_
     rintro aE w hm
     exact tAk hm [2, 1] rfl fun hS => tUse hT2_13 fun a hf => ⟨aE, ao, bK, hf.sb rfl, hm.pk [1, 2, 0, 3, 4] rfl rfl⟩
    refine tMo ?_ ?_
    ·obtain ⟨aK, aL⟩ := appM_some.1 aY
     refine tf rfl rfl (fun a hf => e_append 3 et_43 hf hm rfl (hm.now h3) rfl rfl rfl aK) ?_
     rintro aJ w hm
     rw [aL] at hm
     exact tAk hm [1, 0] rfl fun hS => tUse hT2_9 fun a hf => ⟨ao, aJ, hf.sb rfl, hm.pk [0, 1, 2, 3] rfl rfl⟩
    refine tO (tf rfl rfl (fun a hf => e_alloc hm zeroValue63 rfl rfl) ?_)
    rintro _ w ⟨aM, rfl, hm⟩
    exact tAk hm [2, 1] rfl fun hS => tUse hT2_8 fun a hf => ⟨aM, ao, bK, hf.sb rfl, hm.pk [1, 2, 0, 3, 4] rfl rfl⟩
   refine tSh (od175_12) (fun a w => ∃ (bL : Nat) (bM : Value), St 74 [(1, (pV aB)), (2, (pV aC)), (3, (pV bL)), (7, bM), (10, (nV b_.jump)), (12, (nV b_.on)), (15, v3)] w0 (hp w0) [blk aB [v1, v2, nV b_.jump, nV b_.on, v3] 63, blk aC [.slice none 0 0, .slice none 0 0, nV 0, nV 0, .slice none 0 0] 63, blk bL [.slice none 0 0, .slice none 0 0, nV 0, nV 0, .slice none 0 0] 63, ow [bM] ([] : List Phi_)] a w) ?_ fun hT2_17 => ?_
   ·rintro a w ⟨bL, bM, hf, hm⟩
    refine tSv hf hm [1, 0] rfl fun hS => tMo ?_ ?_
    ·refine tf rfl rfl (fun a hf => e_build0 (α := Ins_) et_61 hm rfl) ?_
     rintro aE w hm
     exact tAk hm [2, 1] rfl fun hS => tUse hT2_12 fun a hf => ⟨bL, bM, aE, hf.sb rfl, hm.pk [1, 2, 3, 4, 0] rfl rfl⟩
    refine tO (tf rfl rfl (fun a hf => e_build0 (α := Int) et_43 hm rfl) ?_)
    rintro aJ w hm
    exact tAk hm [2, 1] rfl fun hS => tUse hT2_10 fun a hf => ⟨bL, bM, aJ, hf.sb rfl, hm.pk [1, 2, 3, 4, 0] rfl rfl⟩
   refine tSh (od175_11) (fun a w => ∃ (ap bN : Value), St 74 [(1, (pV aB)), (2, (pV aC)), (7, ap), (10, (nV b_.jump)), (12, (nV b_.on)), (13, bN), (15, v3)] w0 (hp w0) [blk aB [v1, v2, nV b_.jump, nV b_.on, v3] 63, blk aC [.slice none 0 0, .slice none 0 0, nV 0, nV 0, .slice none 0 0] 63, ow [ap] ([] : List Phi_), ow [bN] ([] : List Int)] a w) ?_ fun hT2_18 => ?_
   ·rintro a w ⟨ap, bN, hf, hm⟩
    refine tSv hf hm [1, 0] rfl fun hS => tMo ?_ ?_
    ·refine tf rfl rfl (fun a hf => e_build0 (α := Ins_) et_61 hm rfl) ?_
     rintro aE w hm
     exact tAk hm [2, 1] rfl fun hS => tUse hT2_13 fun a hf => ⟨ap, aE, bN, hf.sb rfl, hm.pk [1, 2, 3, 0, 4] rfl rfl⟩
    refine tMo ?_ ?_
    ·obtain ⟨aK, aL⟩ := appM_some.1 aY
     refine tf rfl rfl (fun a hf => e_append 3 et_43 hf hm rfl (hm.now h3) rfl rfl rfl aK) ?_
     rintro aJ w hm
     rw [aL] at hm
     exact tAk hm [1, 0] rfl fun hS => tUse hT2_11 fun a hf => ⟨ap, aJ, hf.sb rfl, hm.pk [0, 1, 2, 3] rfl rfl⟩
    refine tO (tf rfl rfl (fun a hf => e_alloc hm zeroValue63 rfl rfl) ?_)
    rintro _ w ⟨aM, rfl, hm⟩
    exact tAk hm [2, 1] rfl fun hS => tUse hT2_10 fun a hf => ⟨aM, ap, bN, hf.sb rfl, hm.pk [1, 2, 0, 3, 4] rfl rfl⟩
   refine tSh (od175_10) (fun a w => ∃ (bO bP : Value), St 74 [(1, (pV aB)), (2, (pV aC)), (7, bO), (8, bP), (10, (nV b_.jump)), (12, (nV b_.on)), (15, v3)] w0 (hp w0) [blk aB [v1, v2, nV b_.jump, nV b_.on, v3] 63, blk aC [.slice none 0 0, .slice none 0 0, nV 0, nV 0, .slice none 0 0] 63, ow [bO] ([] : List Phi_), ow [bP] ([] : List Ins_)] a w) ?_ fun hT2_19 => ?_
   ·rintro a w ⟨bO, bP, hf, hm⟩
    refine tSv hf hm [1, 0] rfl fun hS => tMo ?_ ?_
    ·refine tf rfl rfl (fun a hf => e_build0 (α := Int) et_43 hm rfl) ?_
     rintro aE w hm
     exact tAk hm [2, 1] rfl fun hS => tUse hT2_13 fun a hf => ⟨bO, bP, aE, hf.sb rfl, hm.pk [1, 2, 3, 4, 0] rfl rfl⟩
    refine tO (tf rfl rfl (fun a hf => e_alloc hm zeroValue63 rfl rfl) ?_)
    rintro _ w ⟨aM, rfl, hm⟩
    exact tAk hm [2, 1] rfl fun hS => tUse hT2_12 fun a hf => ⟨aM, bO, bP, hf.sb rfl, hm.pk [1, 2, 0, 3, 4] rfl rfl⟩
   refine tMo ?_ ?_
   ·refine tf rfl rfl (fun a hf => e_build0 (α := Phi_) et_60 hm rfl) ?_
    rintro aE w hm
    refine tAk hm [1, 2] rfl fun hS => tMo ?_ ?_
    ·refine tf rfl rfl (fun a hf => e_build0 (α := Ins_) et_61 hm rfl) ?_
     rintro aJ w hm
     exact tAk hm [2, 3] rfl fun hS => tUse hT2_19 fun a hf => ⟨aE, aJ, hf.sb rfl, hm.pk [3, 2, 1, 0] rfl rfl⟩
    refine tMo ?_ ?_
    ·refine tf rfl rfl (fun a hf => e_build0 (α := Int) et_43 hm rfl) ?_
     rintro cG w hm
     exact tAk hm [2, 3] rfl fun hS => tUse hT2_18 fun a hf => ⟨aE, cG, hf.sb rfl, hm.pk [3, 2, 1, 0] rfl rfl⟩
    refine tO (tf rfl rfl (fun a hf => e_alloc hm zeroValue63 rfl rfl) ?_)
    rintro _ w ⟨aM, rfl, hm⟩
    exact tAk hm [2, 3] rfl fun hS => tUse hT2_17 fun a hf => ⟨aM, aE, hf.sb rfl, hm.pk [3, 2, 0, 1] rfl rfl⟩
   refine tMo ?_ ?_
   ·refine tf rfl rfl (fun a hf => e_build0 (α := Ins_) et_61 hm rfl) ?_
    rintro cH w hm
    refine tAk hm [1, 2] rfl fun hS => tMo ?_ ?_
    ·refine tf rfl rfl (fun a hf => e_build0 (α := Phi_) et_60 hm rfl) ?_
     rintro cU w hm
     exact tAk hm [2, 3] rfl fun hS => tUse hT2_19 fun a hf => ⟨cU, cH, hf.sb rfl, hm.pk [3, 2, 0, 1] rfl rfl⟩
    refine tMo ?_ ?_
    ·refine tf rfl rfl (fun a hf => e_build0 (α := Int) et_43 hm rfl) ?_
     rintro cV w hm
     exact tAk hm [2, 3] rfl fun hS => tUse hT2_16 fun a hf => ⟨cH, cV, hf.sb rfl, hm.pk [3, 2, 1, 0] rfl rfl⟩
    refine tO (tf rfl rfl (fun a hf => e_alloc hm zeroValue63 rfl rfl) ?_)
    rintro _ w ⟨cW, rfl, hm⟩
    exact tAk hm [2, 3] rfl fun hS => tUse hT2_15 fun a hf => ⟨cW, cH, hf.sb rfl, hm.pk [3, 2, 0, 1] rfl rfl⟩
   refine tMo ?_ ?_
   ·refine tf rfl rfl (fun a hf => e_build0 (α := Int) et_43 hm rfl) ?_
    rintro cI w hm
    refine tAk hm [1, 2] rfl fun hS => tMo ?_ ?_
    ·refine tf rfl rfl (fun a hf => e_build0 (α := Phi_) et_60 hm rfl) ?_
     rintro cX w hm
     exact tAk hm [2, 3] rfl fun hS => tUse hT2_18 fun a hf => ⟨cX, cI, hf.sb rfl, hm.pk [3, 2, 0, 1] rfl rfl⟩
    refine tMo ?_ ?_
    ·refine tf rfl rfl (fun a hf => e_build0 (α := Ins_) et_61 hm rfl) ?_
     rintro cY w hm
     exact tAk hm [2, 3] rfl fun hS => tUse hT2_16 fun a hf => ⟨cY, cI, hf.sb rfl, hm.pk [3, 2, 0, 1] rfl rfl⟩
    refine tMo ?_ ?_
    ·obtain ⟨aK, aL⟩ := appM_some.1 aY
     refine tf rfl rfl (fun a hf => e_append 0 et_43 hf hm rfl (hm.now h3) rfl rfl rfl aK) ?_
     rintro cJ w hm
     rw [aL] at hm
     refine tAk hm [1, 2] rfl fun hS => tMo ?_ ?_
     ·refine tf rfl rfl (fun a hf => e_build0 (α := Phi_) et_60 hm rfl) ?_
      rintro cZ w hm
      exact tAk hm [2, 3] rfl fun hS => tUse hT2_11 fun a hf => ⟨cZ, cJ, hf.sb rfl, hm.pk [3, 2, 0, 1] rfl rfl⟩
     refine tMo ?_ ?_
     ·refine tf rfl rfl (fun a hf => e_build0 (α := Ins_) et_61 hm rfl) ?_
      rintro c4 w hm
      exact tAk hm [2, 3] rfl fun hS => tUse hT2_9 fun a hf => ⟨c4, cJ, hf.sb rfl, hm.pk [3, 2, 0, 1] rfl rfl⟩
     refine tO (tf rfl rfl (fun a hf => e_alloc hm zeroValue63 rfl rfl) ?_)
     rintro _ w ⟨c5, rfl, hm⟩
     exact tAk hm [2, 3] rfl fun hS => tUse hT2_7 fun a hf => ⟨c5, cJ, hf.sb rfl, hm.pk [3, 2, 0, 1] rfl rfl⟩
    refine tO (tf rfl rfl (fun a hf => e_alloc hm zeroValue63 rfl rfl) ?_)
    rintro _ w ⟨c6, rfl, hm⟩
    exact tAk hm [2, 3] rfl fun hS => tUse hT2_14 fun a hf => ⟨c6, cI, hf.sb rfl, hm.pk [3, 2, 0, 1] rfl rfl⟩
   refine tO (tf rfl rfl (fun a hf => e_alloc hm zeroValue63 rfl rfl) ?_)
   rintro _ w ⟨cK, rfl, hm⟩
   refine tAk hm [1, 2] rfl fun hS => tMo ?_ ?_
   ·refine tf rfl rfl (fun a hf => e_build0 (α := Phi_) et_60 hm rfl) ?_
    rintro c7 w hm
    exact tAk hm [2, 3] rfl fun hS => tUse hT2_17 fun a hf => ⟨cK, c7, hf.sb rfl, hm.pk [3, 2, 1, 0] rfl rfl⟩
   refine tMo ?_ ?_
   ·refine tf rfl rfl (fun a hf => e_build0 (α := Ins_) et_61 hm rfl) ?_
    rintro c8 w hm
    exact tAk hm [2, 3] rfl fun hS => tUse hT2_15 fun a hf => ⟨cK, c8, hf.sb rfl, hm.pk [3, 2, 1, 0] rfl rfl⟩
   refine tO (tf rfl rfl (fun a hf => e_build0 (α := Int) et_43 hm rfl) ?_)
   rintro c9 w hm
   exact tAk hm [2, 3] rfl fun hS => tUse hT2_14 fun a hf => ⟨cK, c9, hf.sb rfl, hm.pk [3, 2, 1, 0] rfl rfl⟩
  repeat clear hm
  rintro aD a w ⟨aI, bv, bw, bx, hf, hm⟩
  refine gv hf (gS (gS (gR (gA rfl (gE ?_)))))
  obtain ⟨ca, cb, rfl, cz⟩ := ro_slice (hm.ow_rep 3 rfl)
  obtain ⟨aP, aQ, rfl, dA⟩ := ro_slice (hm.ow_rep 4 rfl)
  obtain ⟨aF, aG, rfl, dB⟩ := ro_slice (hm.ow_rep 5 rfl)
  refine gBk (gNg (fun cM aZ a w => ∃ (aR : Value), St 74 [(1, (pV aB)), (2, (pV aC)), (3, (pV aI)), (4, (nV cM))] w0 (hp w0) [blk aB [v1, v2, nV b_.jump, nV b_.on, v3] 63, blk aC [.slice none 0 0, .slice none 0 0, nV 0, nV 0, .slice none 0 0] 63, blk aI [aR, .slice aP ([] : List Ins_).length aQ, nV b_.jump, nV b_.on, .slice aF aD.length aG] 63, ow [aR] aZ, ow [.slice aP ([] : List Ins_).length aQ] ([] : List Ins_), ow [.slice aF aD.length aG] aD] a w) (fun a hf => ⟨.slice ca ([] : List Phi_).length cb, hf.sb rfl, hm.pk [0, 1, 2, 3, 4, 5] rfl rfl⟩) ?_ ?_)
  ·repeat clear hm
   rintro _ _ cM aZ a w ⟨aR, hf, hm⟩ dC dD dE _
   refine gv hf (gS (gS (gR (gM rfl (gF fo_63_0 rfl (gL hm 0 isAgg60 rfl ?_))))))
   obtain ⟨cc, bQ, rfl, dF⟩ := ro_slice h1
   refine gY (yV st_60 rfl) (gB rfl (gE (go _ 22 rfl (decide_eq_true (by omega)) (gct rfl (gSk (gS (gBk (gW (.p 0 (.p 2 (.p 4 (.p 9 (.p 11 (.q 1 (.q 3 (.p 5 (.p 6 (.q 7 (.q 10 (.p 12 (.p 13 (.q 14 (.e 8 (.e 15 (.p 16 (.e 17 (.e 18 (.p 19 (.e 20 .fin .nil)) .nil) .nil)) .nil) .nil))))))))))))))) [1, 3, 7, 8, 10, 14, 15, 17] [0, 2, 4, 5, 6, 9, 11, 12, 13, 16, 19] hm [0, 1, 2, 3, 4, 5] [blk aB [.slice cc b_.phis.length bQ, v2, nV b_.jump, nV b_.on, v3] 63, blk aC [.slice none 0 0, .slice none 0 0, nV 0, nV 0, .slice none 0 0] 63, blk aI [aR, .slice aP ([] : List Ins_).length aQ, nV b_.jump, nV b_.on, .slice aF aD.length aG] 63, ow [aR] aZ, ow [.slice aP ([] : List Ins_).length aQ] ([] : List Ins_), ow [.slice aF aD.length aG] aD] rfl mxo (by kernel_rfl) (fun _ _ _ h => h.2) fun w hm hS => tP rfl (fun w => yF fo_63_0 rfl) (tP rfl (fun w => yF fo_63_0 rfl) (tP rfl (fun w => yM rfl) (tP rfl (fun w => yF fo_63_0 rfl) (tP rfl (fun w => yM rfl) (tQ rfl hS (fun w hm => yL hm 2 isAgg60 rfl) (tQ rfl hS (fun w hm => yL hm 0 isAgg60 rfl) (gg fun aO cN bp => ?_)))))))))))))))
   obtain ⟨bq, br, dG, he⟩ := idx_form' h1 bp
   obtain ⟨rfl, _, rfl⟩ := sl3 he
   obtain ⟨dH, cO, cd⟩ := rk_Phi_ h1 bp
   refine tP rfl (fun w => yI st_60 cN (idx_lt bp) rfl) (tP rfl (fun w => yF fo_127_0 rfl) (tQ rfl hS (fun w hm => yl isAgg3 ((cO.mono hm.lez).cell (j := 0) rfl) rfl) (tQ rfl hS (fun w hm => yL hm 0 isAgg60 rfl) (tP rfl (fun w => yI st_60 cN (idx_lt bp) rfl) (tP rfl (fun w => yF fo_127_1 rfl) (tQ rfl hS (fun w hm => yl isAgg43 ((cO.mono hm.lez).cell (j := 1) rfl) rfl) (tO (tf rfl rfl (fun a hf => e_build0 (α := Int) et_43 hm rfl) ?_))))))))
   rintro dI w hm
   refine tAk hm [1, 2, 3, 4, 5, 6] rfl fun hS => tO (gb fun aS ce => ?_)
   obtain ⟨cf, cg⟩ := appM_some.1 ce
   refine tf rfl rfl (fun a hf => e_append 0 et_43 hf hm rfl (hm.now cd) rfl rfl rfl cf) ?_
   rintro dJ w hm
   rw [cg] at hm
   refine tAk hm [1, 2, 3, 4, 5, 6] rfl fun hS => ?_
   obtain ⟨aa, ab, rfl, dK⟩ := ro_slice (hm.ow_rep 0 rfl)
   refine tP rfl (fun w => yG rfl (y_build (vs := [(0, (nV aO.to)), (1, (.slice aa aS.length ab))]) (cs := #[nV aO.to, .slice aa aS.length ab]) rfl rfl (by kernel_rfl))) (tO (tf rfl rfl (fun a hf => e_build (vs := #[(0, (.agg #[nV aO.to, .slice aa aS.length ab]))]) (cs := [nV aO.to, .slice aa aS.length ab]) et_60 hf hm rfl rfl (by kernel_rfl) rfl rfl) ?_))
   rintro _ w ⟨bt, rfl, hm⟩
   replace hm := hm.els_nil (α := Phi_)
   replace hm : Mem w0 (hp w0) _ [els [] ([] : List Phi_), blk bt [nV aO.to, .slice aa aS.length ab] 127, ow [nV aO.to, .slice aa aS.length ab] ((⟨aO.to, aS⟩ : Phi_) : Phi_), blk aB [sV bq br b_.phis.length bQ, v2, nV b_.jump, nV b_.on, v3] 63, blk aC [.slice none 0 0, .slice none 0 0, nV 0, nV 0, .slice none 0 0] 63, blk aI [aR, .slice aP ([] : List Ins_).length aQ, nV b_.jump, nV b_.on, .slice aF aD.length aG] 63, ow [aR] aZ, ow [.slice aP ([] : List Ins_).length aQ] ([] : List Ins_), ow [.slice aF aD.length aG] aD] := mk_Phi_ aO.to hm 2 rfl
   replace hm := (hm.els_cons 0 2 (by decide) rfl rfl).pk (L' := [els [nV aO.to, .slice aa aS.length ab] ([(⟨aO.to, aS⟩ : Phi_)] : List Phi_), blk bt [nV aO.to, .slice aa aS.length ab] 127, blk aB [sV bq br b_.phis.length bQ, v2, nV b_.jump, nV b_.on, v3] 63, blk aC [.slice none 0 0, .slice none 0 0, nV 0, nV 0, .slice none 0 0] 63, blk aI [aR, .slice aP ([] : List Ins_).length aQ, nV b_.jump, nV b_.on, .slice aF aD.length aG] 63, ow [aR] aZ, ow [.slice aP ([] : List Ins_).length aQ] ([] : List Ins_), ow [.slice aF aD.length aG] aD]) [0, 1, 3, 4, 5, 6, 7, 8] rfl rfl
   replace hm := (hm.lit_els 1 0 (by decide) rfl rfl rfl rfl).pk (L' := [ow [sV bt 0 1 1] ([(⟨aO.to, aS⟩ : Phi_)] : List Phi_), blk aB [sV bq br b_.phis.length bQ, v2, nV b_.jump, nV b_.on, v3] 63, blk aC [.slice none 0 0, .slice none 0 0, nV 0, nV 0, .slice none 0 0] 63, blk aI [aR, .slice aP ([] : List Ins_).length aQ, nV b_.jump, nV b_.on, .slice aF aD.length aG] 63, ow [aR] aZ, ow [.slice aP ([] : List Ins_).length aQ] ([] : List Ins_), ow [.slice aF aD.length aG] aD]) [1, 2, 3, 4, 5, 6, 7] rfl rfl
   refine tAk hm [1, 2, 3, 4, 5, 6] rfl fun hS => tO (gb fun dL ci => ?_)
   obtain ⟨cj, cl⟩ := appM_some.1 ci
   replace hm := (hm.both 4 0 (by decide) rfl rfl).pk (L' := [blk aB [sV bq br b_.phis.length bQ, v2, nV b_.jump, nV b_.on, v3] 63, blk aC [.slice none 0 0, .slice none 0 0, nV 0, nV 0, .slice none 0 0] 63, blk aI [aR, .slice aP ([] : List Ins_).length aQ, nV b_.jump, nV b_.on, .slice aF aD.length aG] 63, both (ow [aR] aZ) (ow [sV bt 0 1 1] ([(⟨aO.to, aS⟩ : Phi_)] : List Phi_)), ow [.slice aP ([] : List Ins_).length aQ] ([] : List Ins_), ow [.slice aF aD.length aG] aD]) [1, 2, 3, 4, 5, 6] rfl rfl
   refine tf rfl rfl (fun a hf => e_appendD (xs := aZ) (ys := ([(⟨aO.to, aS⟩ : Phi_)] : List Phi_)) 3 et_60 hf hm rfl rfl rfl rfl cj) ?_
   rintro cm w hm
   rw [cl] at hm
   refine tAn rfl (tP rfl (fun w => yF fo_63_0 rfl) (tO (tf0 rfl rfl (fun a hf => e_store1 2 hf hm rfl sizeOf60 rfl rfl rfl (rep_one (hm.ow_rep 3 rfl)) rfl) ?_)))
   rintro _ w hm
   exact tAn rfl (tE (gR (gM rfl (gP (by omega) (by omega) rfl (gA rfl (gE (gZe fun a hf => ⟨cm, hf.sb rfl, hm.pk [0, 1, 2, 3, 4, 5] rfl rfl⟩)))))))
  repeat clear hm
  rintro dM aH a w ⟨dN, hf, hm⟩ dO dP
  refine gv hf (gS (gS (gR (gM rfl (gF fo_63_0 rfl (gL hm 0 isAgg60 rfl ?_))))))
  obtain ⟨aq, ar, rfl, dQ⟩ := ro_slice h1
  refine gY (yV st_60 rfl) (gB rfl (gE (go _ 22 rfl (decide_eq_false (by omega)) (gcf rfl (gXt (gHh (gS (gS (gR (gA rfl (gE ?_)))))))))))
  obtain ⟨aT, aV, rfl, dR⟩ := ro_slice (hm.ow_rep 3 rfl)
  refine gBk (gNg (fun cP ac a w => ∃ (aW : Value), St 74 [(1, (pV aB)), (2, (pV aC)), (3, (pV aI)), (5, (nV cP))] w0 (hp w0) [blk aB [.slice aq b_.phis.length ar, v2, nV b_.jump, nV b_.on, v3] 63, blk aC [.slice none 0 0, .slice none 0 0, nV 0, nV 0, .slice none 0 0] 63, blk aI [.slice aT aH.length aV, aW, nV b_.jump, nV b_.on, .slice aF aD.length aG] 63, ow [.slice aT aH.length aV] aH, ow [aW] ac, ow [.slice aF aD.length aG] aD] a w) (fun a hf => ⟨.slice aP ([] : List Ins_).length aQ, hf.sb rfl, hm.pk [0, 1, 2, 3, 4, 5] rfl rfl⟩) ?_ ?_)
  ·repeat clear hm
   rintro _ _ cP ac a w ⟨aW, hf, hm⟩ dS dT dU _
   refine gv hf (gS (gS (gR (gM rfl (gF fo_63_1 rfl (gL hm 0 isAgg61 rfl ?_))))))
   obtain ⟨dV, bR, rfl, dW⟩ := ro_slice h2
   refine gY (yV st_61 rfl) (gB rfl (gE (go _ 49 rfl (decide_eq_true (by omega)) (gct rfl (gSk (gS (gBk (gS (gR (gF fo_63_1 rfl (gL hm 0 isAgg61 rfl (gM rfl (gg fun aA cn cL => ?_)))))))))))))
   obtain ⟨bS, bT, dX, he⟩ := idx_form' h2 cL
   obtain ⟨rfl, _, rfl⟩ := sl3 he
   obtain ⟨bU, co, cQ⟩ := rk_Ins_ h2 cL
   refine gI st_61 cn (idx_lt cL) rfl (gY (yn (co.mono hm.lez) isAgg65 sizeOf65 rfl) (gAl hm zeroValue65 rfl fun bV w hm => gSN hm 0 sizeOf65 (one_cons rfl (one_cons rfl (one_cons (rep_one cQ) (one_cons rfl one_nil)))) rfl fun w hm => gE (gW (.p 0 (.p 2 (.p 4 (.p 7 (.p 10 (.q 1 (.q 3 (.q 5 (.q 8 (.q 11 (.e 6 (.e 9 (.p 12 (.e 13 (.e 14 (.p 15 (.e 16 .fin .nil)) .nil) .nil)) .nil) .nil))))))))))) [1, 3, 5, 6, 8, 9, 11, 13] [0, 2, 4, 7, 10, 12, 15] hm [0, 1, 2, 3, 4, 5, 6] [blk bV [nV aA.op, nV aA.to, bU, nV aA.n_] 65, blk aB [.slice aq b_.phis.length ar, sV bS bT b_.ins.length bR, nV b_.jump, nV b_.on, v3] 63, blk aC [.slice none 0 0, .slice none 0 0, nV 0, nV 0, .slice none 0 0] 63, blk aI [.slice aT aH.length aV, aW, nV b_.jump, nV b_.on, .slice aF aD.length aG] 63, ow [.slice aT aH.length aV] aH, ow [aW] ac, ow [.slice aF aD.length aG] aD] rfl mxo (by kernel_rfl) (fun _ _ _ h => h.2) fun w hm hS => tP rfl (fun w => yF fo_63_1 rfl) (tP rfl (fun w => yF fo_65_0 rfl) (tP rfl (fun w => yF fo_65_1 rfl) (tP rfl (fun w => yF fo_65_2 rfl) (tP rfl (fun w => yF fo_65_3 rfl) (tQ rfl hS (fun w hm => yL hm 3 isAgg61 rfl) (tQ rfl hS (fun w hm => yL hm 0 isAgg3 rfl) (tQ rfl hS (fun w hm => yL hm 0 isAgg3 rfl) (tQ rfl hS (fun w hm => yL hm 0 isAgg43 rfl) (tQ rfl hS (fun w hm => yL hm 0 isAgg3 rfl) (tO (tf rfl rfl (fun a hf => e_build0 (α := Int) et_43 hm rfl) ?_))))))))))))))
   rintro dY w hm
   refine tAk hm [1, 2, 3, 4, 5, 6, 7] rfl fun hS => tO (gb fun aX cq => ?_)
   obtain ⟨cr, ct⟩ := appM_some.1 cq
   refine tf rfl rfl (fun a hf => e_append 0 et_43 hf hm rfl (hm.now cQ) rfl rfl rfl cr) ?_
   rintro dZ w hm
   rw [ct] at hm
   refine tAk hm [1, 2, 3, 4, 5, 6, 7] rfl fun hS => ?_
   obtain ⟨ae, af, rfl, d7⟩ := ro_slice (hm.ow_rep 0 rfl)
   refine tP rfl (fun w => yG rfl (y_build (vs := [(0, (nV aA.op)), (1, (nV aA.to)), (2, (.slice ae aX.length af)), (3, (nV aA.n_))]) (cs := #[nV aA.op, nV aA.to, .slice ae aX.length af, nV aA.n_]) rfl rfl (by kernel_rfl))) (tO (tf rfl rfl (fun a hf => e_build (vs := #[(0, (.agg #[nV aA.op, nV aA.to, .slice ae aX.length af, nV aA.n_]))]) (cs := [nV aA.op, nV aA.to, .slice ae aX.length af, nV aA.n_]) et_61 hf hm rfl rfl (by kernel_rfl) rfl rfl) ?_))
   rintro _ w ⟨bu, rfl, hm⟩
   replace hm := hm.els_nil (α := Ins_)
   replace hm : Mem w0 (hp w0) _ [els [] ([] : List Ins_), blk bu [nV aA.op, nV aA.to, .slice ae aX.length af, nV aA.n_] 65, ow [nV aA.op, nV aA.to, .slice ae aX.length af, nV aA.n_] ((⟨aA.op, aA.to, aX, aA.n_⟩ : Ins_) : Ins_), blk bV [nV aA.op, nV aA.to, bU, nV aA.n_] 65, blk aB [.slice aq b_.phis.length ar, sV bS bT b_.ins.length bR, nV b_.jump, nV b_.on, v3] 63, blk aC [.slice none 0 0, .slice none 0 0, nV 0, nV 0, .slice none 0 0] 63, blk aI [.slice aT aH.length aV, aW, nV b_.jump, nV b_.on, .slice aF aD.length aG] 63, ow [.slice aT aH.length aV] aH, ow [aW] ac, ow [.slice aF aD.length aG] aD] := mk_Ins_ aA.op aA.to aA.n_ hm 2 rfl
   replace hm := (hm.els_cons 0 2 (by decide) rfl rfl).pk (L' := [els [nV aA.op, nV aA.to, .slice ae aX.length af, nV aA.n_] ([(⟨aA.op, aA.to, aX, aA.n_⟩ : Ins_)] : List Ins_), blk bu [nV aA.op, nV aA.to, .slice ae aX.length af, nV aA.n_] 65, blk bV [nV aA.op, nV aA.to, bU, nV aA.n_] 65, blk aB [.slice aq b_.phis.length ar, sV bS bT b_.ins.length bR, nV b_.jump, nV b_.on, v3] 63, blk aC [.slice none 0 0, .slice none 0 0, nV 0, nV 0, .slice none 0 0] 63, blk aI [.slice aT aH.length aV, aW, nV b_.jump, nV b_.on, .slice aF aD.length aG] 63, ow [.slice aT aH.length aV] aH, ow [aW] ac, ow [.slice aF aD.length aG] aD]) [0, 1, 3, 4, 5, 6, 7, 8, 9] rfl rfl
   replace hm := (hm.lit_els 1 0 (by decide) rfl rfl rfl rfl).pk (L' := [ow [sV bu 0 1 1] ([(⟨aA.op, aA.to, aX, aA.n_⟩ : Ins_)] : List Ins_), blk bV [nV aA.op, nV aA.to, bU, nV aA.n_] 65, blk aB [.slice aq b_.phis.length ar, sV bS bT b_.ins.length bR, nV b_.jump, nV b_.on, v3] 63, blk aC [.slice none 0 0, .slice none 0 0, nV 0, nV 0, .slice none 0 0] 63, blk aI [.slice aT aH.length aV, aW, nV b_.jump, nV b_.on, .slice aF aD.length aG] 63, ow [.slice aT aH.length aV] aH, ow [aW] ac, ow [.slice aF aD.length aG] aD]) [1, 2, 3, 4, 5, 6, 7, 8] rfl rfl
   refine tAk hm [1, 2, 3, 4, 5, 6, 7] rfl fun hS => tO (gb fun d8 cu => ?_)
   obtain ⟨cv, cw⟩ := appM_some.1 cu
   replace hm := (hm.both 6 0 (by decide) rfl rfl).pk (L' := [blk bV [nV aA.op, nV aA.to, bU, nV aA.n_] 65, blk aB [.slice aq b_.phis.length ar, sV bS bT b_.ins.length bR, nV b_.jump, nV b_.on, v3] 63, blk aC [.slice none 0 0, .slice none 0 0, nV 0, nV 0, .slice none 0 0] 63, blk aI [.slice aT aH.length aV, aW, nV b_.jump, nV b_.on, .slice aF aD.length aG] 63, ow [.slice aT aH.length aV] aH, both (ow [aW] ac) (ow [sV bu 0 1 1] ([(⟨aA.op, aA.to, aX, aA.n_⟩ : Ins_)] : List Ins_)), ow [.slice aF aD.length aG] aD]) [1, 2, 3, 4, 5, 6, 7] rfl rfl
   refine tf rfl rfl (fun a hf => e_appendD (xs := ac) (ys := ([(⟨aA.op, aA.to, aX, aA.n_⟩ : Ins_)] : List Ins_)) 5 et_61 hf hm rfl rfl rfl rfl cv) ?_
   rintro cx w hm
   rw [cw] at hm
   refine tAn rfl (tP rfl (fun w => yF fo_63_1 rfl) (tO (tf0 rfl rfl (fun a hf => e_store1 3 hf hm rfl sizeOf61 rfl rfl rfl (rep_one (hm.ow_rep 5 rfl)) rfl) ?_)))
   rintro _ w hm
   exact tAn rfl (tE (gR (gM rfl (gP (by omega) (by omega) rfl (gA rfl (gE (gZe fun a hf => ⟨cx, hf.sb rfl, hm.pk [1, 2, 3, 4, 5, 6] rfl rfl⟩)))))))
  repeat clear hm
  rintro d9 da a w ⟨cy, hf, hm⟩ db dc
  refine gv hf (gS (gS (gR (gM rfl (gF fo_63_1 rfl (gL hm 0 isAgg61 rfl ?_))))))
  obtain ⟨dd, de, rfl, df⟩ := ro_slice h2
  exact gY (yV st_61 rfl) (gB rfl (gE (go _ 49 rfl (decide_eq_false (by omega)) (gcf rfl (gXt (gHh (gS (gR (gY (yn (hm.blk_at 2 rfl) isAgg63 sizeOf63 rfl) (gSN hm 1 sizeOf63 (one_cons rfl (one_cons (rep_one (hm.ow_rep 4 rfl)) (one_cons rfl (one_cons rfl (one_cons rfl one_nil))))) rfl fun w hm => gE (gRt (grc 1 results175 hm rfl isAgg63 sizeOf63 ⟨.slice aT aH.length aV, cy, .slice aF aD.length aG, rfl, hm.pk [3, 4, 5] rfl rfl⟩))))))))))))
theorem spec_l10At_ok (w0 : World) (list : List Int) (v1 : Value) (h1 : GT.rep (hp w0) [v1] list) (n_ : Int) :
    ConM Tryz.prog 176 [v1, nV n_] w0 (spec_l10At list n_) fun r v w' => v = (nV r) ∧ Below w0.heap.size w0 w' := by
  unfold spec_l10At
  refine gcon func176 rfl fun r => ?_
  have hm := Mem.start w0
  refine gS (gR (gA rfl (gE (gS (gS (gR (gA rfl (gE (gBk (gNf hm (fun aA aC => [(0, v1), (1, (nV n_)), (5, (nV aA))]) (fun aA aC => []) [] rfl ?_ ?_))))))))))
  ·repeat clear hm
   intro aI aD aA aC w hm aJ aK aL aE
   refine gS (gS (gR (gM rfl (gM rfl ?_))))
   obtain ⟨aM, aN, rfl, aO⟩ := ro_slice h1
   refine gY (yV st_43 rfl) (gB rfl (gE (go _ 9 rfl (decide_eq_true (by omega)) (gct rfl (gSk (gS (gBk (gS (gR (gM rfl (gM rfl (gg fun aF aG aB => ?_))))))))))))
   obtain ⟨aP, aQ, aR, he⟩ := idx_form h1 aB
   obtain ⟨rfl, _, rfl⟩ := sl3 he
   refine gI st_43 aG (idx_lt aB) rfl (gY (yl isAgg3 ((flat_cells (cs := [nV aF]) (hm.now h1) aB rfl).cell (j := 0) rfl) rfl) (gM rfl (gB rfl (gE (gsd 17 rfl (fun aH => ?_) fun aH => ?_)))))
   ·exact gct rfl (gS (gR (gM rfl (gA rfl (gE (gRt (gLr aE aD (gr1 results176 rfl ⟨rfl, hm.below⟩))))))))
   exact gcf rfl (gSk (gR (gM rfl (gP (by omega) (by omega) rfl (gA rfl (gE (gze hm [] rfl)))))))
  repeat clear hm
  intro aS aT w hm aV aW
  refine gS (gS (gR (gM rfl (gM rfl ?_))))
  obtain ⟨aX, aY, rfl, aZ⟩ := ro_slice h1
  exact gY (yV st_43 rfl) (gB rfl (gE (go _ 9 rfl (decide_eq_false (by omega)) (gcf rfl (gXt (gHh (gS (gR (gA rfl (gE (gRt (gr1 results176 rfl ⟨rfl, hm.below⟩))))))))))))
abbrev od188_1 : Go.Wk.Ord := (.e 8 (.e 10 .fin .nil) .nil)
abbrev od188_2 : Go.Wk.Ord := (.p 20 (.e 21 (.e 22 (.e 23 (.p 24 .fin) .nil) .nil) .nil))
theorem spec_l10Pick_ok (w0 : World) (c_ : Code_) (v1 : Value) (h1 : GT.rep (hp w0) [v1] c_.blocks) (list : List Int) (v2 : Value) (h2 : GT.rep (hp w0) [v2] list) :
    ConM Tryz.prog 188 [(.agg #[nV c_.params, nV c_.regs, v1]), v2] w0 (spec_l10Pick c_ list) fun r v w' => ∃ (x1 : Value), v = (.agg #[nV r.params, nV r.regs, x1]) ∧ Mem w0 (hp w0) w' [ow [x1] r.blocks] := by
  unfold spec_l10Pick
  refine gcon func188 rfl fun r => ?_
  have hm := Mem.start w0
  refine gS (gR (gBx hm rfl fun aG w hm => gAl hm zeroValue49 rfl fun aH w hm => gE (gS (gR (gF fo_49_2 rfl (gL hm 1 isAgg47 rfl ?_))))))
  obtain ⟨aO, aN, rfl, df⟩ := ro_slice h1
  refine gY (yV st_47 rfl) (gM rfl (gCg rfl call254 (spec_l10Place_ok _ (c_.blocks.length : Int) list v2 (hm.now h2)) ?_))
  rintro aT dg dh w ⟨_, rfl, hB⟩
  replace hm := hm.give hB; clear hB
  refine gA rfl (gE (gS (gR (gF fo_49_0 rfl (gL hm 2 isAgg3 rfl (gF fo_49_1 rfl (gL hm 2 isAgg3 rfl (gY (yG rfl (y_build (vs := [(0, (nV c_.params)), (1, (nV c_.regs))]) (cs := #[nV c_.params, nV c_.regs, .slice none 0 0]) rfl rfl (by kernel_rfl))) (gAl hm zeroValue49 rfl fun aI w hm => gSN hm 0 sizeOf49 (one_cons rfl (one_cons rfl (one_cons rfl one_nil))) rfl fun w hm => gE (gS (gS (gR (gA rfl (gE ?_))))))))))))))
  obtain ⟨aa, ab, rfl, di⟩ := ro_slice (hm.ow_rep 1 rfl)
  refine gBk ?_
  replace hm := hm.nilow (α := Block_)
  refine gNg (fun bJ aV a w => ∃ (ax : Value), St 134 [(1, v2), (2, (pV aG)), (4, (pV aH)), (5, (.slice aa aT.length ab)), (6, (pV aI)), (7, (nV bJ))] w0 (hp w0) [blk aG [nV c_.params, nV c_.regs, .slice aO c_.blocks.length aN] 49, blk aH [nV 0, nV 0, .slice none 0 0] 49, ow [.slice aa aT.length ab] aT, blk aI [nV c_.params, nV c_.regs, ax] 49, ow [ax] aV] a w) (fun a hf => ⟨.slice none 0 0, hf.sb rfl, hm.pk [4, 3, 2, 1, 0] rfl rfl⟩) ?_ ?_
  ·repeat clear hm
   rintro _ _ bJ aV a w ⟨ax, hf, hm⟩ dk dl dm _
   refine gv hf (gS (gS (gR (gM rfl (gM rfl ?_)))))
   obtain ⟨cZ, ba, rfl, dp⟩ := ro_slice h2
   refine gY (yV st_43 rfl) (gB rfl (gE (go _ 29 rfl (decide_eq_true (by omega)) (gct rfl (gSk (gS (gBk (gS (gJg (fun aA a w => ∃ (ay : Nat) (cB cC cD : Value), St 134 [(1, (.slice cZ list.length ba)), (2, (pV aG)), (4, (pV aH)), (5, (.slice aa aT.length ab)), (6, (pV aI)), (7, (nV bJ)), (8, (pV ay))] w0 (hp w0) [blk aG [nV c_.params, nV c_.regs, .slice aO c_.blocks.length aN] 49, blk aH [nV 0, nV 0, .slice none 0 0] 49, ow [.slice aa aT.length ab] aT, blk aI [nV c_.params, nV c_.regs, ax] 49, ow [ax] aV, blk ay [cB, cC, nV aA.2.2.1, nV aA.2.2.2.1, cD] 63, ow [cB] aA.1, ow [cC] aA.2.1, ow [cD] aA.2.2.2.2] a w) (fun aA => ?_) ?_)))))))))
   ·refine gW (.p 0 (.p 2 (.p 3 (.p 4 (.q 1 (.q 5 (.p 6 (.e 7 (.e 8 (.e 9 (.e 10 .fin .nil) .nil) (.e 9 od188_1 .nil)) (.e 9 (.e 7 od188_1 .nil) .nil))))))))) [1, 5, 9] [0, 2, 3, 4, 6] hm [0, 1, 2, 3, 4] [blk aG [nV c_.params, nV c_.regs, .slice aO c_.blocks.length aN] 49, blk aH [nV 0, nV 0, .slice none 0 0] 49, ow [.slice aa aT.length ab] aT, blk aI [nV c_.params, nV c_.regs, ax] 49, ow [ax] aV] rfl mxo (by kernel_rfl) (fun _ _ _ h => h.2) fun w hm hS => tP rfl (fun w => yF fo_49_2 rfl) (tP rfl (fun w => yM rfl) (tP rfl (fun w => yM rfl) (gg fun cv cw cE => ?_)))
    obtain ⟨c4, c5, dq, he⟩ := idx_form h2 cE
    obtain ⟨rfl, _, rfl⟩ := sl3 he
    refine tP rfl (fun w => yI st_43 cw (idx_lt cE) rfl) (tQ rfl hS (fun w hm => yL hm 0 isAgg47 rfl) (tQ rfl hS (fun w hm => yl isAgg3 ((flat_cells (cs := [nV cv]) (hm.now h2) cE rfl).cell (j := 0) rfl) rfl) (gg fun bb cx cF => ?_)))
    obtain ⟨c6, c7, dr, he⟩ := idx_form' h1 cF
    obtain ⟨rfl, _, rfl⟩ := sl3 he
    obtain ⟨cG, cH, cI, c8, c9, ca, cb⟩ := rk_Block_ h1 cF
    refine tP rfl (fun w => yI st_47 cx (idx_lt cF) rfl) (gb fun bS cc => tSh ((.e 10 .fin .nil)) (fun a w => ∃ (bc : Nat) (bd be bf : Value), St 134 [(1, (sV c4 c5 list.length ba)), (2, (pV aG)), (4, (pV aH)), (5, (.slice aa aT.length ab)), (6, (pV aI)), (7, (nV bJ)), (8, (pV bc)), (40, (.agg #[bd, be, nV bS.jump, nV bS.on, bf]))] w0 (hp w0) [blk aG [nV c_.params, nV c_.regs, sV c6 c7 c_.blocks.length aN] 49, blk aH [nV 0, nV 0, .slice none 0 0] 49, ow [.slice aa aT.length ab] aT, blk aI [nV c_.params, nV c_.regs, ax] 49, ow [ax] aV, blk bc [.slice none 0 0, .slice none 0 0, nV 0, nV 0, .slice none 0 0] 63, ow [bd] bS.phis, ow [be] bS.ins, ow [bf] bS.next_] a w) ?_ fun hT3_1 => ?_)
    ·rintro a w ⟨bc, bd, be, bf, hf, hm⟩
     refine tSv hf hm [0, 1, 2, 3, 4] rfl fun hS => tO (tf0 rfl rfl (fun a hf => e_storeN 5 hf hm rfl sizeOf63 rfl rfl rfl (one_cons (rep_one (hm.ow_rep 6 rfl)) (one_cons (rep_one (hm.ow_rep 7 rfl)) (one_cons rfl (one_cons rfl (one_cons (rep_one (hm.ow_rep 8 rfl)) one_nil))))) rfl rfl) ?_)
     rintro _ w hm
     exact tAn rfl (tE (gZ fun a hf => ⟨bc, bd, be, bf, hf.sb rfl, hm.pk [0, 1, 2, 3, 4, 5, 6, 7, 8] rfl rfl⟩))
    refine tSh (od188_1) (fun a w => ∃ (bg : Nat), St 134 [(1, (sV c4 c5 list.length ba)), (2, (pV aG)), (4, (pV aH)), (5, (.slice aa aT.length ab)), (6, (pV aI)), (7, (nV bJ)), (8, (pV bg)), (39, (.agg #[cG, cH, nV bb.jump, nV bb.on, cI]))] w0 (hp w0) [blk aG [nV c_.params, nV c_.regs, sV c6 c7 c_.blocks.length aN] 49, blk aH [nV 0, nV 0, .slice none 0 0] 49, ow [.slice aa aT.length ab] aT, blk aI [nV c_.params, nV c_.regs, ax] 49, ow [ax] aV, blk bg [.slice none 0 0, .slice none 0 0, nV 0, nV 0, .slice none 0 0] 63] a w) ?_ fun hT3_2 => ?_
    ·rintro a w ⟨bg, hf, hm⟩
     refine tSv hf hm [0, 1, 2, 3, 4] rfl fun hS => tO (tf rfl rfl (fun a hf => e_call hf rfl call175 rfl (spec_l7CopyBlock_ok _ bb cG (hm.now c9) cH (hm.now ca) cI (hm.now cb) _ cc)) ?_)
     rintro cy w ⟨cJ, cK, cL, rfl, hB⟩
     replace hm := hm.give hB; clear hB
     exact tAn rfl (tUse hT3_1 fun a hf => ⟨bg, cJ, cK, cL, hf.sb rfl, hm.pk [3, 4, 5, 6, 7, 8, 0, 1, 2] rfl rfl⟩)
    refine tMo ?_ ?_
    ·refine tY rfl (yn (c8.mono hm.lez) isAgg63 sizeOf63 rfl) (tAn rfl (tMo ?_ ?_))
     ·refine tf rfl rfl (fun a hf => e_call hf rfl call175 rfl (spec_l7CopyBlock_ok _ bb cG (hm.now c9) cH (hm.now ca) cI (hm.now cb) _ cc)) ?_
      rintro cy w ⟨cJ, cK, cL, rfl, hB⟩
      replace hm := hm.give hB; clear hB
      refine tAn rfl (tO (tf rfl rfl (fun a hf => e_alloc hm zeroValue63 rfl rfl) ?_))
      rintro _ w ⟨cz, rfl, hm⟩
      exact tAk hm [4, 5, 6, 7, 8] rfl fun hS => tUse hT3_1 fun a hf => ⟨cz, cJ, cK, cL, hf.sb rfl, hm.pk [4, 5, 6, 7, 8, 0, 1, 2, 3] rfl rfl⟩
     refine tO (tf rfl rfl (fun a hf => e_alloc hm zeroValue63 rfl rfl) ?_)
     rintro _ w ⟨dA, rfl, hm⟩
     exact tAk hm [1, 2, 3, 4, 5] rfl fun hS => tUse hT3_2 fun a hf => ⟨dA, hf.sb rfl, hm.pk [1, 2, 3, 4, 5, 0] rfl rfl⟩
    refine tO (tf rfl rfl (fun a hf => e_alloc hm zeroValue63 rfl rfl) ?_)
    rintro _ w ⟨dB, rfl, hm⟩
    exact tAk hm [1, 2, 3, 4, 5] rfl fun hS => tO (tY rfl (yn (c8.mono hm.lez) isAgg63 sizeOf63 rfl) (tAn rfl (tUse hT3_2 fun a hf => ⟨dB, hf.sb rfl, hm.pk [1, 2, 3, 4, 5, 0] rfl rfl⟩)))
   repeat clear hm
   rintro aA a w ⟨ay, cB, cC, cD, hf, hm⟩
   refine gv hf (gS (gS (gR (gA rfl (gE ?_)))))
   obtain ⟨ak, am, rfl, dt⟩ := ro_slice (hm.ow_rep 4 rfl)
   obtain ⟨ae, af, rfl, du⟩ := ro_slice (hm.ow_rep 6 rfl)
   obtain ⟨ag, ah, rfl, dv⟩ := ro_slice (hm.ow_rep 7 rfl)
   obtain ⟨ai, aj, rfl, dw⟩ := ro_slice (hm.ow_rep 8 rfl)
   refine gBk (gNf hm (fun cM bh => [(1, (.slice cZ list.length ba)), (2, (pV aG)), (4, (pV aH)), (5, (.slice aa aT.length ab)), (6, (pV aI)), (7, (nV bJ)), (8, (pV ay)), (9, (nV cM))]) (fun cM bh => [blk aG [nV c_.params, nV c_.regs, .slice aO c_.blocks.length aN] 49, blk aH [nV 0, nV 0, .slice none 0 0] 49, ow [.slice aa aT.length ab] aT, blk aI [nV c_.params, nV c_.regs, .slice ak aV.length am] 49, ow [.slice ak aV.length am] aV, blk ay [.slice ae aA.1.length af, .slice ag aA.2.1.length ah, nV aA.2.2.1, nV aA.2.2.2.1, .slice ai aA.2.2.2.2.length aj] 63, ow [.slice ae aA.1.length af] aA.1, ow [.slice ag aA.2.1.length ah] aA.2.1, ow [.slice ai aA.2.2.2.2.length aj] bh]) [0, 1, 2, 3, 4, 5, 6, 7, 8] rfl ?_ ?_)
   ·repeat clear hm
    intro _ _ cM bh w hm dx dy dz _
    refine gS (gS (gR (gM rfl (gF fo_63_4 rfl (gL hm 5 isAgg43 rfl ?_)))))
    have eA := rep_len (hm.ow_rep 8 rfl)
    refine gY (yV st_43 rfl) (gB rfl (gE (go _ 45 rfl (decide_eq_true (by omega)) (gct rfl (gSk (gS (gBk (gW (.p 0 (.p 2 (.p 3 (.p 4 (.p 6 (.q 1 (.e 5 (.p 7 (.e 8 (.p 9 (.e 10 (.p 11 (.e 12 .fin .nil)) .nil)) .nil)) .nil))))))) [5, 8, 10] [0, 2, 3, 4, 6, 7, 9, 11] hm [0, 1, 2, 3, 4, 5, 6, 7, 8] [blk aG [nV c_.params, nV c_.regs, .slice aO c_.blocks.length aN] 49, blk aH [nV 0, nV 0, .slice none 0 0] 49, ow [.slice aa aT.length ab] aT, blk aI [nV c_.params, nV c_.regs, .slice ak aV.length am] 49, ow [.slice ak aV.length am] aV, blk ay [.slice ae aA.1.length af, .slice ag aA.2.1.length ah, nV aA.2.2.1, nV aA.2.2.2.1, .slice ai aA.2.2.2.2.length aj] 63, ow [.slice ae aA.1.length af] aA.1, ow [.slice ag aA.2.1.length ah] aA.2.1, ow [.slice ai aA.2.2.2.2.length aj] bh] rfl mxo (by kernel_rfl) (fun _ _ _ h => h.2) fun w hm hS => tP rfl (fun w => yF fo_63_4 rfl) (tP rfl (fun w => yM rfl) (tP rfl (fun w => yM rfl) (tP rfl (fun w => yF fo_63_4 rfl) (tP rfl (fun w => yM rfl) (tQ rfl hS (fun w hm => yL hm 5 isAgg43 rfl) (tO (tY rfl (yL hm 5 isAgg43 rfl) (tAs hS (gg fun dC cd bK => ?_)))))))))))))))))
    obtain ⟨eB, eC, eD, he⟩ := idx_form (hm.ow_rep 8 rfl) bK
    obtain ⟨rfl, _, rfl⟩ := sl3 he
    have hL2_1 := rep_slice_len (hm.ow_rep 8 rfl)
    refine tP rfl (fun w => yI st_43 cd (idx_lt2 bK hL2_1) rfl) (tO (tY rfl (yl isAgg3 ((flat_cells (cs := [nV dC]) (hm.ow_rep 8 rfl) bK rfl).cell (j := 0) rfl) rfl) (tAs hS (gg fun bi dD cN => ?_))))
    obtain ⟨eE, eF, eG, he⟩ := idx_form (hm.ow_rep 2 rfl) cN
    obtain ⟨rfl, _, rfl⟩ := sl3 he
    refine tP rfl (fun w => yI st_43 dD (idx_lt cN) rfl) (tO (tY rfl (yl isAgg3 ((flat_cells (cs := [nV bi]) (hm.ow_rep 2 rfl) cN rfl).cell (j := 0) rfl) rfl) (tAs hS ?_)))
    have hL2_2 := rep_slice_len (hm.ow_rep 8 rfl)
    refine tP rfl (fun w => yI st_43 cd (idx_lt2 bK hL2_2) rfl) (tO (tf0 rfl rfl (fun a hf => e_setElem (x1 := bi) (j := 0) (vs := [nV bi]) 8 hf hm rfl bK rfl sizeOf3 rfl rfl rfl (one_cons rfl one_nil) rfl rfl) ?_))
    rintro _ w hm
    have eH := List.getElem?_set_self (a := bi) (idx_lt bK)
    exact tAn rfl (tE (gR (gM rfl (gP (by omega) (by omega) rfl (gA rfl (gE (gze hm [0, 1, 2, 3, 4, 5, 6, 7, 8] rfl)))))))
   repeat clear hm
   intro eI bT w hm eJ eK
   refine gS (gS (gR (gM rfl (gF fo_63_4 rfl (gL hm 5 isAgg43 rfl ?_)))))
   have eL := rep_len (hm.ow_rep 8 rfl)
   refine gY (yV st_43 rfl) (gB rfl (gE (go _ 45 rfl (decide_eq_false (by omega)) (gcf rfl (gXt (gHh (gR (gF fo_49_2 rfl (gL hm 3 isAgg47 rfl (gY (yn (hm.blk_at 5 rfl) isAgg63 sizeOf63 rfl) (gf rfl (fun a hf => e_build (vs := #[(0, (.agg #[.slice ae aA.1.length af, .slice ag aA.2.1.length ah, nV aA.2.2.1, nV aA.2.2.2.1, .slice ai aA.2.2.2.2.length aj]))]) (cs := [.slice ae aA.1.length af, .slice ag aA.2.1.length ah, nV aA.2.2.1, nV aA.2.2.2.1, .slice ai aA.2.2.2.2.length aj]) et_47 hf hm rfl rfl (by kernel_rfl) rfl rfl) ?_)))))))))))
   rintro _ w ⟨bj, rfl, hm⟩
   replace hm := hm.els_nil (α := Block_)
   replace hm := (mk_Block_ aA.2.2.1 aA.2.2.2.1 hm 8 9 10 rfl).pk (L' := [els [] ([] : List Block_), blk bj [.slice ae aA.1.length af, .slice ag aA.2.1.length ah, nV aA.2.2.1, nV aA.2.2.2.1, .slice ai aA.2.2.2.2.length aj] 63, blk aG [nV c_.params, nV c_.regs, .slice aO c_.blocks.length aN] 49, blk aH [nV 0, nV 0, .slice none 0 0] 49, ow [.slice aa aT.length ab] aT, blk aI [nV c_.params, nV c_.regs, .slice ak aV.length am] 49, ow [.slice ak aV.length am] aV, blk ay [.slice ae aA.1.length af, .slice ag aA.2.1.length ah, nV aA.2.2.1, nV aA.2.2.2.1, .slice ai aA.2.2.2.2.length aj] 63, ow [.slice ae aA.1.length af, .slice ag aA.2.1.length ah, nV aA.2.2.1, nV aA.2.2.2.1, .slice ai aA.2.2.2.2.length aj] ((⟨aA.1, aA.2.1, aA.2.2.1, aA.2.2.2.1, bT⟩ : Block_) : Block_)]) [0, 1, 2, 3, 4, 5, 6, 7, 8] rfl rfl
   replace hm := (hm.els_cons 0 8 (by decide) rfl rfl).pk (L' := [els [.slice ae aA.1.length af, .slice ag aA.2.1.length ah, nV aA.2.2.1, nV aA.2.2.2.1, .slice ai aA.2.2.2.2.length aj] ([(⟨aA.1, aA.2.1, aA.2.2.1, aA.2.2.2.1, bT⟩ : Block_)] : List Block_), blk bj [.slice ae aA.1.length af, .slice ag aA.2.1.length ah, nV aA.2.2.1, nV aA.2.2.2.1, .slice ai aA.2.2.2.2.length aj] 63, blk aG [nV c_.params, nV c_.regs, .slice aO c_.blocks.length aN] 49, blk aH [nV 0, nV 0, .slice none 0 0] 49, ow [.slice aa aT.length ab] aT, blk aI [nV c_.params, nV c_.regs, .slice ak aV.length am] 49, ow [.slice ak aV.length am] aV, blk ay [.slice ae aA.1.length af, .slice ag aA.2.1.length ah, nV aA.2.2.1, nV aA.2.2.2.1, .slice ai aA.2.2.2.2.length aj] 63]) [0, 1, 2, 3, 4, 5, 6, 7] rfl rfl
   replace hm := (hm.lit_els 1 0 (by decide) rfl rfl rfl rfl).pk (L' := [ow [sV bj 0 1 1] ([(⟨aA.1, aA.2.1, aA.2.2.1, aA.2.2.2.1, bT⟩ : Block_)] : List Block_), blk aG [nV c_.params, nV c_.regs, .slice aO c_.blocks.length aN] 49, blk aH [nV 0, nV 0, .slice none 0 0] 49, ow [.slice aa aT.length ab] aT, blk aI [nV c_.params, nV c_.regs, .slice ak aV.length am] 49, ow [.slice ak aV.length am] aV, blk ay [.slice ae aA.1.length af, .slice ag aA.2.1.length ah, nV aA.2.2.1, nV aA.2.2.2.1, .slice ai aA.2.2.2.2.length aj] 63]) [1, 2, 3, 4, 5, 6, 7] rfl rfl
   refine gb fun eM dE => ?_
   obtain ⟨dF, dG⟩ := appM_some.1 dE
   replace hm := (hm.both 5 0 (by decide) rfl rfl).pk (L' := [blk aG [nV c_.params, nV c_.regs, .slice aO c_.blocks.length aN] 49, blk aH [nV 0, nV 0, .slice none 0 0] 49, ow [.slice aa aT.length ab] aT, blk aI [nV c_.params, nV c_.regs, .slice ak aV.length am] 49, both (ow [.slice ak aV.length am] aV) (ow [sV bj 0 1 1] ([(⟨aA.1, aA.2.1, aA.2.2.1, aA.2.2.2.1, bT⟩ : Block_)] : List Block_)), blk ay [.slice ae aA.1.length af, .slice ag aA.2.1.length ah, nV aA.2.2.1, nV aA.2.2.2.1, .slice ai aA.2.2.2.2.length aj] 63]) [1, 2, 3, 4, 5, 6] rfl rfl
   refine gf rfl (fun a hf => e_appendD (xs := aV) (ys := ([(⟨aA.1, aA.2.1, aA.2.2.1, aA.2.2.2.1, bT⟩ : Block_)] : List Block_)) 4 et_47 hf hm rfl rfl rfl rfl dF) ?_
   rintro dH w hm
   rw [dG] at hm
   exact gF fo_49_2 rfl (gS1 hm 3 sizeOf47 (rep_one (hm.ow_rep 4 rfl)) rfl fun w hm => gE (gR (gM rfl (gP (by omega) (by omega) rfl (gA rfl (gE (gZe fun a hf => ⟨dH, hf.sb rfl, hm.pk [0, 1, 2, 3, 4] rfl rfl⟩)))))))
  repeat clear hm
  rintro eN aD a w ⟨eO, hf, hm⟩ eP eQ
  refine gv hf (gS (gS (gR (gM rfl (gM rfl ?_)))))
  obtain ⟨dI, bU, rfl, eR⟩ := ro_slice h2
  refine gY (yV st_43 rfl) (gB rfl (gE (go _ 29 rfl (decide_eq_false (by omega)) (gcf rfl (gXt (gHh (gS (gS (gR (gA rfl (gE ?_)))))))))))
  obtain ⟨az, aE, rfl, eS⟩ := ro_slice (hm.ow_rep 4 rfl)
  refine gBk (gNf hm (fun aR bV => [(1, (.slice dI list.length bU)), (2, (pV aG)), (4, (pV aH)), (6, (pV aI)), (10, (nV aR))]) (fun aR bV => [blk aG [nV c_.params, nV c_.regs, .slice aO c_.blocks.length aN] 49, blk aH [nV 0, nV 0, .slice none 0 0] 49, blk aI [nV c_.params, nV c_.regs, .slice az aD.length aE] 49, ow [.slice az aD.length aE] bV]) [0, 1, 3, 4] rfl ?_ ?_)
  ·repeat clear hm
   intro _ _ aR bV w hm eT eU eV _
   refine gS (gS (gR (gM rfl (gM rfl (gY (yV st_43 rfl) (gB rfl (gE (go _ 69 rfl (decide_eq_true (by omega)) (gct rfl (gSk (gS (gBk (gS (gW (.p 1 (.p 2 (.p 3 (.q 0 (.e 4 (.e 5 (.p 6 .fin) .nil) .nil))))) [4] [1, 2, 3, 6] hm [0, 1, 2, 3] [blk aG [nV c_.params, nV c_.regs, .slice aO c_.blocks.length aN] 49, blk aH [nV 0, nV 0, .slice none 0 0] 49, blk aI [nV c_.params, nV c_.regs, .slice az aD.length aE] 49, ow [.slice az aD.length aE] bV] rfl mxo (by kernel_rfl) (fun _ _ _ h => h.2) fun w hm hS => tP rfl (fun w => yM rfl) (tP rfl (fun w => yM rfl) (gg fun ce dJ cO => ?_))))))))))))))))
   obtain ⟨bk, bl, eW, he⟩ := idx_form h2 cO
   obtain ⟨rfl, _, rfl⟩ := sl3 he
   refine tP rfl (fun w => yI st_43 dJ (idx_lt cO) rfl) (tQ rfl hS (fun w hm => yn (hm.blk_at 0 rfl) isAgg49 sizeOf49 rfl) (tO (tY rfl (yl isAgg3 ((flat_cells (cs := [nV ce]) (hm.now h2) cO rfl).cell (j := 0) rfl) rfl) (tAs hS (tO (gb fun aC dK => tf rfl rfl (fun a hf => e_call hf rfl call129 rfl (spec_l7Preds_ok _ c_ (.slice aO c_.blocks.length aN) (hm.now h1) ce _ dK)) ?_))))))
   rintro eX w ⟨_, rfl, hB⟩
   replace hm := hm.give hB; clear hB
   refine tAn rfl (tP rfl (fun w => yA rfl) (tE (gS (gR (gY (yn (hm.blk_at 3 rfl) isAgg49 sizeOf49 rfl) (gM rfl (gCg rfl call129 (spec_l7Preds_ok _ (⟨c_.params, c_.regs, bV⟩ : Code_) (.slice az aD.length aE) (hm.ow_rep 4 rfl) aR) ?_)))))))
   rintro aF eY eZ w ⟨_, rfl, hB⟩
   replace hm := hm.give hB; clear hB
   refine gA rfl (gE (gS (gR (gA rfl (gE ?_)))))
   obtain ⟨aP, aQ, rfl, ea⟩ := ro_slice (hm.ow_rep 1 rfl)
   obtain ⟨ac, aS, rfl, ec⟩ := ro_slice (hm.ow_rep 0 rfl)
   refine gJ hm (fun bm => [(1, (sV bk bl list.length bU)), (2, (pV aG)), (4, (pV aH)), (6, (pV aI)), (10, (nV aR))]) (fun bm => [blk aG [nV c_.params, nV c_.regs, .slice aO c_.blocks.length aN] 49, blk aH [nV 0, nV 0, .slice none 0 0] 49, blk aI [nV c_.params, nV c_.regs, .slice az aD.length aE] 49, ow [.slice az aD.length aE] bm]) (fun bm => ?_) ?_
   ·refine gBk (gMf hm (fun aM => [(1, (sV bk bl list.length bU)), (2, (pV aG)), (4, (pV aH)), (6, (pV aI)), (10, (nV aR)), (11, (.slice aP aC.length aQ)), (12, (.slice ac aF.length aS)), (13, (nV aM.2))]) (fun aM => [blk aG [nV c_.params, nV c_.regs, .slice aO c_.blocks.length aN] 49, blk aH [nV 0, nV 0, .slice none 0 0] 49, blk aI [nV c_.params, nV c_.regs, .slice az aD.length aE] 49, ow [.slice az aD.length aE] aM.1, ow [.slice aP aC.length aQ] aC, ow [.slice ac aF.length aS] aF]) [2, 3, 4, 5, 1, 0] rfl ?_)
    repeat clear hm
    intro ed dL aM w hm ee dM
    refine gS (gS (gR (gM rfl (gF fo_49_2 rfl (gL hm 2 isAgg47 rfl (gM rfl (gg fun aY dN bL => ?_)))))))
    obtain ⟨aK, aL, ef, he⟩ := idx_form' (hm.ow_rep 3 rfl) bL
    obtain ⟨rfl, _, rfl⟩ := sl3 he
    obtain ⟨eg, eh, ei, ej, ek, el, em⟩ := rk_Block_ (hm.ow_rep 3 rfl) bL
    have hL3_1 := rep_slice_len (hm.ow_rep 3 rfl)
    refine gI st_47 dN (idx_lt2 bL hL3_1) rfl (gF fo_63_0 rfl ?_)
    obtain ⟨en, bo, bp, hm⟩ := pin_Block_ hm 3 rfl bL
    refine gY (yl isAgg60 ((hm.holeE_at 6 rfl).cell (j := 0) rfl) rfl) ?_
    obtain ⟨bq, br, rfl, eo⟩ := ro_slice (hm.ow_rep 2 rfl)
    refine gY (yV st_60 rfl) (gB rfl (gE (gsd 89 rfl (fun dO => ?_) fun dO => ?_)))
    ·refine gct rfl (gSk (gS (gBk (gS ?_))))
     replace hm := (mk_Block_ aY.jump aY.on hm 2 1 0 rfl).pk (L' := [ow [.slice bq aY.phis.length br, bo, nV aY.jump, nV aY.on, bp] (aY : Block_), blk aG [nV c_.params, nV c_.regs, .slice aO c_.blocks.length aN] 49, blk aH [nV 0, nV 0, .slice none 0 0] 49, blk aI [nV c_.params, nV c_.regs, sV aK aL aD.length aE] 49, holeE aK aL aD.length aE (aM.1 : List Block_) (aR).toNat [.slice bq aY.phis.length br, bo, nV aY.jump, nV aY.on, bp], ow [.slice aP aC.length aQ] aC, ow [.slice ac aF.length aS] aF]) [2, 3, 4, 5, 6, 7, 8] rfl rfl
     replace hm := (hm.shutE (y := (aY : Block_)) 4 0 (by decide) rfl rfl).pk (L' := [blk aG [nV c_.params, nV c_.regs, .slice aO c_.blocks.length aN] 49, blk aH [nV 0, nV 0, .slice none 0 0] 49, blk aI [nV c_.params, nV c_.regs, sV aK aL aD.length aE] 49, ow [sV aK aL aD.length aE] (aM.1.set (aR).toNat aY), ow [.slice aP aC.length aQ] aC, ow [.slice ac aF.length aS] aF]) [1, 2, 3, 4, 5, 6] rfl rfl
     rw [set_same bL] at hm
     refine gR (gf rfl (fun a hf => e_build0 (α := Int) et_43 hm rfl) ?_)
     rintro ep w hm
     refine gA rfl (gE (gS (gS (gR (gA rfl (gE ?_))))))
     obtain ⟨dP, dQ, rfl, et⟩ := ro_slice (hm.ow_rep 0 rfl)
     refine gBk (gNg (fun cP cQ a w => ∃ (bt : Value), St 134 [(1, (sV bk bl list.length bU)), (2, (pV aG)), (4, (pV aH)), (6, (pV aI)), (10, (nV aR)), (11, (.slice aP aC.length aQ)), (12, (.slice ac aF.length aS)), (13, (nV aM.2)), (14, bt), (15, (nV cP))] w0 (hp w0) [blk aG [nV c_.params, nV c_.regs, .slice aO c_.blocks.length aN] 49, blk aH [nV 0, nV 0, .slice none 0 0] 49, blk aI [nV c_.params, nV c_.regs, sV aK aL aD.length aE] 49, ow [sV aK aL aD.length aE] aM.1, ow [.slice aP aC.length aQ] aC, ow [.slice ac aF.length aS] aF, ow [bt] cQ] a w) (fun a hf => ⟨.slice dP ([] : List Int).length dQ, hf.sb rfl, hm.pk [1, 2, 3, 4, 5, 6, 0] rfl rfl⟩) ?_ ?_)
     ·repeat clear hm
      rintro _ _ cP cQ a w ⟨bt, hf, hm⟩ eu ew ey _
      refine gv hf (gS (gS (gR (gM rfl (gM rfl (gY (yV st_43 rfl) (gB rfl (gE (go _ 96 rfl (decide_eq_true (by omega)) (gct rfl (gSk (gS (gBk (gJg (fun cR a w => ∃ (bu : Value), St 134 [(1, (sV bk bl list.length bU)), (2, (pV aG)), (4, (pV aH)), (6, (pV aI)), (10, (nV aR)), (11, (.slice aP aC.length aQ)), (12, (.slice ac aF.length aS)), (13, (nV aM.2)), (14, bu), (15, (nV cP))] w0 (hp w0) [blk aG [nV c_.params, nV c_.regs, .slice aO c_.blocks.length aN] 49, blk aH [nV 0, nV 0, .slice none 0 0] 49, blk aI [nV c_.params, nV c_.regs, sV aK aL aD.length aE] 49, ow [sV aK aL aD.length aE] aM.1, ow [.slice aP aC.length aQ] aC, ow [.slice ac aF.length aS] aF, ow [bu] cR] a w) (fun cR => ?_) ?_))))))))))))))
      ·refine gW (.p 0 (.p 1 (.p 3 (.p 7 (.p 11 (.p 12 (.p 13 (.p 14 (.p 15 (.q 2 (.p 4 (.p 5 (.q 16 (.p 17 (.q 18 (.e 6 (.p 8 (.p 9 (.e 10 (.e 19 od188_2 .nil) (.e 19 (.e 10 od188_2 .nil) .nil)))) (.e 19 (.e 6 (.p 8 (.p 9 (.e 10 od188_2 .nil))) .nil) .nil))))))))))))))))) [2, 6, 10, 16, 18, 19] [0, 1, 3, 4, 5, 7, 8, 9, 11, 12, 13, 14, 15, 17, 20, 24] hm [0, 1, 2, 4, 5, 6] [blk aG [nV c_.params, nV c_.regs, .slice aO c_.blocks.length aN] 49, blk aH [nV 0, nV 0, .slice none 0 0] 49, blk aI [nV c_.params, nV c_.regs, sV aK aL aD.length aE] 49, ow [.slice aP aC.length aQ] aC, ow [.slice ac aF.length aS] aF, ow [bt] cQ] rfl mxo (by kernel_rfl) (fun _ _ _ h => h.2) fun w hm hS => tP rfl (fun w => yM rfl) (tP rfl (fun w => yF fo_49_2 rfl) (tP rfl (fun w => yM rfl) (tP rfl (fun w => yM rfl) (tP rfl (fun w => yM rfl) (tP rfl (fun w => yM rfl) (tP rfl (fun w => yM rfl) (tP rfl (fun w => yM rfl) (gg fun dR dS cS => ?_))))))))
       obtain ⟨an, ao, ez, he⟩ := idx_form (hm.ow_rep 5 rfl) cS
       obtain ⟨rfl, _, rfl⟩ := sl3 he
       refine tP rfl (fun w => yI st_43 dS (idx_lt cS) rfl) (tQ rfl hS (fun w hm => yL hm 2 isAgg47 rfl) (gg fun aB dT bG => ?_))
       obtain ⟨fA, fB, fC, fD, fE, fF, fG⟩ := rk_Block_ (hm.ow_rep 3 rfl) bG
       have hL5_1 := rep_slice_len (hm.ow_rep 3 rfl)
       refine tP rfl (fun w => yI st_47 dT (idx_lt2 bG hL5_1) rfl) (tP rfl (fun w => yF fo_63_0 rfl) (tQ rfl hS (fun w hm => yl isAgg3 ((flat_cells (cs := [nV dR]) (hm.ow_rep 4 rfl) cS rfl).cell (j := 0) rfl) rfl) (gg fun bv dU cf => tP rfl (fun w => yI st_43 dU (idx_lt cf) rfl) (tQ rfl hS (fun w hm => yl isAgg3 ((flat_cells (cs := [nV bv]) (hm.now h2) cf rfl).cell (j := 0) rfl) rfl) (gb fun aW cg => gb fun fH cT => gb fun aX cU => gb fun ap cV => tMo ?_ ?_)))))
       ·obtain ⟨fI, aq, ar, hm⟩ := pin_Block_ hm 3 rfl bG
        refine tY rfl (yl isAgg60 ((hm.holeE_at 6 rfl).cell (j := 0) rfl) rfl) (tAk hm [3, 4, 5, 7, 8, 9] rfl fun hS => ?_)
        obtain ⟨dV, bH⟩ := getI_some.1 cg
        obtain ⟨au, av, aw, he⟩ := idx_form' (hm.ow_rep 2 rfl) bH
        subst he
        obtain ⟨fJ, fK, fL⟩ := rk_Phi_ (hm.ow_rep 2 rfl) bH
        refine tP rfl (fun w => yI st_60 dV (idx_lt bH) rfl) (tP rfl (fun w => yF fo_127_1 rfl) (tMo ?_ ?_))
        ·obtain ⟨fM, hm⟩ := pin_Phi_ hm 2 rfl bH
         refine tY rfl (yl isAgg43 ((hm.holeE_at 3 rfl).cell (j := 1) rfl) rfl) (tAk hm [4, 5, 6, 8, 9, 10] rfl fun hS => tO (tf rfl rfl (fun a hf => e_call hf rfl call176 rfl (spec_l10At_ok _ aC (.slice aP aC.length aQ) (hm.ow_rep 8 rfl) bv _ cT)) ?_))
         rintro fN w ⟨rfl, hB⟩
         replace hm := hm.below' hB; clear hB
         refine tAk hm [4, 5, 6, 8, 9, 10] rfl fun hS => ?_
         obtain ⟨dW, cW⟩ := getI_some.1 cU
         obtain ⟨ci, cj, cl, he⟩ := idx_form (hm.ow_rep 0 rfl) cW
         subst he
         refine tP rfl (fun w => yI st_43 dW (idx_lt cW) rfl) (tO (tY rfl (yl isAgg3 ((flat_cells (cs := [nV aX]) (hm.ow_rep 0 rfl) cW rfl).cell (j := 0) rfl) rfl) (tAn rfl (tO (tf rfl rfl (fun a hf => e_build (vs := #[(0, (nV aX))]) (cs := [nV aX]) et_43 hf hm rfl rfl (by kernel_rfl) rfl rfl) ?_)))))
         rintro _ w ⟨bw, rfl, hm⟩
         replace hm := hm.lit (xs := ([aX] : List Int)) 0 rfl rfl rfl rfl
         refine tAn rfl (tO ?_)
         obtain ⟨dX, dY⟩ := appM_some.1 cV
         refine tf rfl rfl (fun a hf => e_append 11 et_43 hf hm rfl (hm.ow_rep 0 rfl) rfl rfl rfl dX) ?_
         rintro bW w hm
         rw [dY] at hm
         refine tAn rfl (tP rfl (fun w => yA rfl) (tE ?_))
         replace hm : Mem w0 (hp w0) _ [ow [sV bw 0 1 1] ([aX] : List Int), ow [nV aW.to, sV ci cj aW.args.length cl] (aW : Phi_), ow [ar] aB.next_, ow [aq] aB.ins, holeE au av aB.phis.length aw (aB.phis : List Phi_) (aM.2).toNat [nV aW.to, sV ci cj aW.args.length cl], blk aG [nV c_.params, nV c_.regs, .slice aO c_.blocks.length aN] 49, blk aH [nV 0, nV 0, .slice none 0 0] 49, blk aI [nV c_.params, nV c_.regs, sV aK aL aD.length aE] 49, holeE aK aL aD.length aE (aM.1 : List Block_) (aR).toNat [sV au av aB.phis.length aw, aq, nV aB.jump, nV aB.on, ar], ow [.slice aP aC.length aQ] aC, ow [sV an ao aF.length aS] aF, ow [bW] ap] := mk_Phi_ aW.to hm 1 rfl
         replace hm := (hm.shutE (y := (aW : Phi_)) 4 1 (by decide) rfl rfl).pk (L' := [ow [sV bw 0 1 1] ([aX] : List Int), ow [ar] aB.next_, ow [aq] aB.ins, ow [sV au av aB.phis.length aw] (aB.phis.set (aM.2).toNat aW), blk aG [nV c_.params, nV c_.regs, .slice aO c_.blocks.length aN] 49, blk aH [nV 0, nV 0, .slice none 0 0] 49, blk aI [nV c_.params, nV c_.regs, sV aK aL aD.length aE] 49, holeE aK aL aD.length aE (aM.1 : List Block_) (aR).toNat [sV au av aB.phis.length aw, aq, nV aB.jump, nV aB.on, ar], ow [.slice aP aC.length aQ] aC, ow [sV an ao aF.length aS] aF, ow [bW] ap]) [0, 2, 3, 4, 5, 6, 7, 8, 9, 10, 11] rfl rfl
         rw [set_same bH] at hm
         replace hm := (mk_Block_ aB.jump aB.on hm 3 2 1 rfl).pk (L' := [ow [sV bw 0 1 1] ([aX] : List Int), ow [sV au av aB.phis.length aw, aq, nV aB.jump, nV aB.on, ar] (aB : Block_), blk aG [nV c_.params, nV c_.regs, .slice aO c_.blocks.length aN] 49, blk aH [nV 0, nV 0, .slice none 0 0] 49, blk aI [nV c_.params, nV c_.regs, sV aK aL aD.length aE] 49, holeE aK aL aD.length aE (aM.1 : List Block_) (aR).toNat [sV au av aB.phis.length aw, aq, nV aB.jump, nV aB.on, ar], ow [.slice aP aC.length aQ] aC, ow [sV an ao aF.length aS] aF, ow [bW] ap]) [0, 3, 4, 5, 6, 7, 8, 9, 10] rfl rfl
         replace hm := (hm.shutE (y := (aB : Block_)) 5 1 (by decide) rfl rfl).pk (L' := [ow [sV bw 0 1 1] ([aX] : List Int), blk aG [nV c_.params, nV c_.regs, .slice aO c_.blocks.length aN] 49, blk aH [nV 0, nV 0, .slice none 0 0] 49, blk aI [nV c_.params, nV c_.regs, sV aK aL aD.length aE] 49, ow [sV aK aL aD.length aE] (aM.1.set (aR).toNat aB), ow [.slice aP aC.length aQ] aC, ow [sV an ao aF.length aS] aF, ow [bW] ap]) [0, 2, 3, 4, 5, 6, 7, 8] rfl rfl
         rw [set_same bG] at hm
         exact gZ fun a hf => ⟨bW, hf.sb rfl, hm.pk [1, 2, 3, 4, 5, 6, 7] rfl rfl⟩
        refine tO (tf rfl rfl (fun a hf => e_call hf rfl call176 rfl (spec_l10At_ok _ aC (.slice aP aC.length aQ) (hm.ow_rep 7 rfl) bv _ cT)) ?_)
        rintro fO w ⟨rfl, hB⟩
        replace hm := hm.below' hB; clear hB
        refine tAk hm [3, 4, 5, 7, 8, 9] rfl fun hS => tO ?_
        obtain ⟨fP, hm⟩ := pin_Phi_ hm 2 rfl bH
        refine tY rfl (yl isAgg43 ((hm.holeE_at 3 rfl).cell (j := 1) rfl) rfl) (tAk hm [4, 5, 6, 8, 9, 10] rfl fun hS => ?_)
        obtain ⟨dZ, cX⟩ := getI_some.1 cU
        obtain ⟨cm, cn, co, he⟩ := idx_form (hm.ow_rep 0 rfl) cX
        subst he
        refine tP rfl (fun w => yI st_43 dZ (idx_lt cX) rfl) (tO (tY rfl (yl isAgg3 ((flat_cells (cs := [nV aX]) (hm.ow_rep 0 rfl) cX rfl).cell (j := 0) rfl) rfl) (tAn rfl (tO (tf rfl rfl (fun a hf => e_build (vs := #[(0, (nV aX))]) (cs := [nV aX]) et_43 hf hm rfl rfl (by kernel_rfl) rfl rfl) ?_)))))
        rintro _ w ⟨bx, rfl, hm⟩
        replace hm := hm.lit (xs := ([aX] : List Int)) 0 rfl rfl rfl rfl
        refine tAn rfl (tO ?_)
        obtain ⟨d7, d8⟩ := appM_some.1 cV
        refine tf rfl rfl (fun a hf => e_append 11 et_43 hf hm rfl (hm.ow_rep 0 rfl) rfl rfl rfl d7) ?_
        rintro bX w hm
        rw [d8] at hm
        refine tAn rfl (tP rfl (fun w => yA rfl) (tE ?_))
        replace hm : Mem w0 (hp w0) _ [ow [sV bx 0 1 1] ([aX] : List Int), ow [nV aW.to, sV cm cn aW.args.length co] (aW : Phi_), ow [ar] aB.next_, ow [aq] aB.ins, holeE au av aB.phis.length aw (aB.phis : List Phi_) (aM.2).toNat [nV aW.to, sV cm cn aW.args.length co], blk aG [nV c_.params, nV c_.regs, .slice aO c_.blocks.length aN] 49, blk aH [nV 0, nV 0, .slice none 0 0] 49, blk aI [nV c_.params, nV c_.regs, sV aK aL aD.length aE] 49, holeE aK aL aD.length aE (aM.1 : List Block_) (aR).toNat [sV au av aB.phis.length aw, aq, nV aB.jump, nV aB.on, ar], ow [.slice aP aC.length aQ] aC, ow [sV an ao aF.length aS] aF, ow [bX] ap] := mk_Phi_ aW.to hm 1 rfl
        replace hm := (hm.shutE (y := (aW : Phi_)) 4 1 (by decide) rfl rfl).pk (L' := [ow [sV bx 0 1 1] ([aX] : List Int), ow [ar] aB.next_, ow [aq] aB.ins, ow [sV au av aB.phis.length aw] (aB.phis.set (aM.2).toNat aW), blk aG [nV c_.params, nV c_.regs, .slice aO c_.blocks.length aN] 49, blk aH [nV 0, nV 0, .slice none 0 0] 49, blk aI [nV c_.params, nV c_.regs, sV aK aL aD.length aE] 49, holeE aK aL aD.length aE (aM.1 : List Block_) (aR).toNat [sV au av aB.phis.length aw, aq, nV aB.jump, nV aB.on, ar], ow [.slice aP aC.length aQ] aC, ow [sV an ao aF.length aS] aF, ow [bX] ap]) [0, 2, 3, 4, 5, 6, 7, 8, 9, 10, 11] rfl rfl
        rw [set_same bH] at hm
        replace hm := (mk_Block_ aB.jump aB.on hm 3 2 1 rfl).pk (L' := [ow [sV bx 0 1 1] ([aX] : List Int), ow [sV au av aB.phis.length aw, aq, nV aB.jump, nV aB.on, ar] (aB : Block_), blk aG [nV c_.params, nV c_.regs, .slice aO c_.blocks.length aN] 49, blk aH [nV 0, nV 0, .slice none 0 0] 49, blk aI [nV c_.params, nV c_.regs, sV aK aL aD.length aE] 49, holeE aK aL aD.length aE (aM.1 : List Block_) (aR).toNat [sV au av aB.phis.length aw, aq, nV aB.jump, nV aB.on, ar], ow [.slice aP aC.length aQ] aC, ow [sV an ao aF.length aS] aF, ow [bX] ap]) [0, 3, 4, 5, 6, 7, 8, 9, 10] rfl rfl
        replace hm := (hm.shutE (y := (aB : Block_)) 5 1 (by decide) rfl rfl).pk (L' := [ow [sV bx 0 1 1] ([aX] : List Int), blk aG [nV c_.params, nV c_.regs, .slice aO c_.blocks.length aN] 49, blk aH [nV 0, nV 0, .slice none 0 0] 49, blk aI [nV c_.params, nV c_.regs, sV aK aL aD.length aE] 49, ow [sV aK aL aD.length aE] (aM.1.set (aR).toNat aB), ow [.slice aP aC.length aQ] aC, ow [sV an ao aF.length aS] aF, ow [bX] ap]) [0, 2, 3, 4, 5, 6, 7, 8] rfl rfl
        rw [set_same bG] at hm
        exact gZ fun a hf => ⟨bX, hf.sb rfl, hm.pk [1, 2, 3, 4, 5, 6, 7] rfl rfl⟩
       refine tO (tf rfl rfl (fun a hf => e_call hf rfl call176 rfl (spec_l10At_ok _ aC (.slice aP aC.length aQ) (hm.ow_rep 4 rfl) bv _ cT)) ?_)
       rintro fQ w ⟨rfl, hB⟩
       replace hm := hm.below' hB; clear hB
       refine tAk hm [0, 1, 2, 4, 5, 6] rfl fun hS => tO ?_
       obtain ⟨fR, bM, bN, hm⟩ := pin_Block_ hm 3 rfl bG
       refine tY rfl (yl isAgg60 ((hm.holeE_at 6 rfl).cell (j := 0) rfl) rfl) (tAk hm [3, 4, 5, 7, 8, 9] rfl fun hS => ?_)
       obtain ⟨d9, bY⟩ := getI_some.1 cg
       obtain ⟨bO, bP, bQ, he⟩ := idx_form' (hm.ow_rep 2 rfl) bY
       subst he
       obtain ⟨fS, fT, fU⟩ := rk_Phi_ (hm.ow_rep 2 rfl) bY
       refine tP rfl (fun w => yI st_60 d9 (idx_lt bY) rfl) (tP rfl (fun w => yF fo_127_1 rfl) (tO ?_))
       obtain ⟨fV, hm⟩ := pin_Phi_ hm 2 rfl bY
       refine tY rfl (yl isAgg43 ((hm.holeE_at 3 rfl).cell (j := 1) rfl) rfl) (tAk hm [4, 5, 6, 8, 9, 10] rfl fun hS => ?_)
       obtain ⟨da, cY⟩ := getI_some.1 cU
       obtain ⟨cq, cr, ct, he⟩ := idx_form (hm.ow_rep 0 rfl) cY
       subst he
       refine tP rfl (fun w => yI st_43 da (idx_lt cY) rfl) (tO (tY rfl (yl isAgg3 ((flat_cells (cs := [nV aX]) (hm.ow_rep 0 rfl) cY rfl).cell (j := 0) rfl) rfl) (tAn rfl (tO (tf rfl rfl (fun a hf => e_build (vs := #[(0, (nV aX))]) (cs := [nV aX]) et_43 hf hm rfl rfl (by kernel_rfl) rfl rfl) ?_)))))
       rintro _ w ⟨bz, rfl, hm⟩
       replace hm := hm.lit (xs := ([aX] : List Int)) 0 rfl rfl rfl rfl
       refine tAn rfl (tO ?_)
       obtain ⟨db, dc⟩ := appM_some.1 cV
       refine tf rfl rfl (fun a hf => e_append 11 et_43 hf hm rfl (hm.ow_rep 0 rfl) rfl rfl rfl db) ?_
       rintro bZ w hm
       rw [dc] at hm
       refine tAn rfl (tP rfl (fun w => yA rfl) (tE ?_))
       replace hm : Mem w0 (hp w0) _ [ow [sV bz 0 1 1] ([aX] : List Int), ow [nV aW.to, sV cq cr aW.args.length ct] (aW : Phi_), ow [bN] aB.next_, ow [bM] aB.ins, holeE bO bP aB.phis.length bQ (aB.phis : List Phi_) (aM.2).toNat [nV aW.to, sV cq cr aW.args.length ct], blk aG [nV c_.params, nV c_.regs, .slice aO c_.blocks.length aN] 49, blk aH [nV 0, nV 0, .slice none 0 0] 49, blk aI [nV c_.params, nV c_.regs, sV aK aL aD.length aE] 49, holeE aK aL aD.length aE (aM.1 : List Block_) (aR).toNat [sV bO bP aB.phis.length bQ, bM, nV aB.jump, nV aB.on, bN], ow [.slice aP aC.length aQ] aC, ow [sV an ao aF.length aS] aF, ow [bZ] ap] := mk_Phi_ aW.to hm 1 rfl
       replace hm := (hm.shutE (y := (aW : Phi_)) 4 1 (by decide) rfl rfl).pk (L' := [ow [sV bz 0 1 1] ([aX] : List Int), ow [bN] aB.next_, ow [bM] aB.ins, ow [sV bO bP aB.phis.length bQ] (aB.phis.set (aM.2).toNat aW), blk aG [nV c_.params, nV c_.regs, .slice aO c_.blocks.length aN] 49, blk aH [nV 0, nV 0, .slice none 0 0] 49, blk aI [nV c_.params, nV c_.regs, sV aK aL aD.length aE] 49, holeE aK aL aD.length aE (aM.1 : List Block_) (aR).toNat [sV bO bP aB.phis.length bQ, bM, nV aB.jump, nV aB.on, bN], ow [.slice aP aC.length aQ] aC, ow [sV an ao aF.length aS] aF, ow [bZ] ap]) [0, 2, 3, 4, 5, 6, 7, 8, 9, 10, 11] rfl rfl
       rw [set_same bY] at hm
       replace hm := (mk_Block_ aB.jump aB.on hm 3 2 1 rfl).pk (L' := [ow [sV bz 0 1 1] ([aX] : List Int), ow [sV bO bP aB.phis.length bQ, bM, nV aB.jump, nV aB.on, bN] (aB : Block_), blk aG [nV c_.params, nV c_.regs, .slice aO c_.blocks.length aN] 49, blk aH [nV 0, nV 0, .slice none 0 0] 49, blk aI [nV c_.params, nV c_.regs, sV aK aL aD.length aE] 49, holeE aK aL aD.length aE (aM.1 : List Block_) (aR).toNat [sV bO bP aB.phis.length bQ, bM, nV aB.jump, nV aB.on, bN], ow [.slice aP aC.length aQ] aC, ow [sV an ao aF.length aS] aF, ow [bZ] ap]) [0, 3, 4, 5, 6, 7, 8, 9, 10] rfl rfl
       replace hm := (hm.shutE (y := (aB : Block_)) 5 1 (by decide) rfl rfl).pk (L' := [ow [sV bz 0 1 1] ([aX] : List Int), blk aG [nV c_.params, nV c_.regs, .slice aO c_.blocks.length aN] 49, blk aH [nV 0, nV 0, .slice none 0 0] 49, blk aI [nV c_.params, nV c_.regs, sV aK aL aD.length aE] 49, ow [sV aK aL aD.length aE] (aM.1.set (aR).toNat aB), ow [.slice aP aC.length aQ] aC, ow [sV an ao aF.length aS] aF, ow [bZ] ap]) [0, 2, 3, 4, 5, 6, 7, 8] rfl rfl
       rw [set_same bG] at hm
       exact gZ fun a hf => ⟨bZ, hf.sb rfl, hm.pk [1, 2, 3, 4, 5, 6, 7] rfl rfl⟩
      repeat clear hm
      rintro cR a w ⟨bu, hf, hm⟩
      exact gv hf (gR (gM rfl (gP (by omega) (by omega) rfl (gA rfl (gE (gZe fun a hf => ⟨bu, hf.sb rfl, hm.pk [0, 1, 2, 3, 4, 5, 6] rfl rfl⟩))))))
     repeat clear hm
     rintro fW bA a w ⟨bR, hf, hm⟩ fX fY
     refine gv hf (gS (gS (gR (gM rfl (gM rfl (gY (yV st_43 rfl) (gB rfl (gE (go _ 96 rfl (decide_eq_false (by omega)) (gcf rfl (gXt (gHh (gR (gF fo_49_2 rfl (gL hm 2 isAgg47 rfl (gM rfl (gg fun aJ dd cA => ?_)))))))))))))))))
     obtain ⟨fZ, f0, f5, f6, f7, f9, fa⟩ := rk_Block_ (hm.ow_rep 3 rfl) cA
     have hL3_2 := rep_slice_len (hm.ow_rep 3 rfl)
     refine gI st_47 dd (idx_lt2 cA hL3_2) rfl (gF fo_63_0 rfl ?_)
     obtain ⟨fb, bB, bC, hm⟩ := pin_Block_ hm 3 rfl cA
     refine gY (yl isAgg60 ((hm.holeE_at 6 rfl).cell (j := 0) rfl) rfl) (gM rfl (gM rfl (gg fun aZ de b8 => ?_)))
     obtain ⟨bD, bE, bF, he⟩ := idx_form' (hm.ow_rep 2 rfl) b8
     subst he
     obtain ⟨fc, fd, fe⟩ := rk_Phi_ (hm.ow_rep 2 rfl) b8
     refine gI st_60 de (idx_lt b8) rfl (gF fo_127_1 rfl ?_)
     obtain ⟨b9, hm⟩ := pin_Phi_ hm 2 rfl b8
     have cu : ∀ u ∈ ([bR] : List Value), u.oneCell' = true := (one_cons (rep_one (hm.ow_rep 10 rfl)) one_nil)
     refine gf0 rfl (fun a hf => e_storeH (j := 1) (vs := [bR]) 3 hf hm rfl rfl rfl sizeOf43 rfl rfl (cells_one (cu _ (List.mem_singleton.2 rfl))) cu rfl) ?_
     rintro _ w hm
     replace hm : Mem w0 (hp w0) _ [ow [b9] aZ.args, ow [bC] aJ.next_, ow [bB] aJ.ins, holeE bD bE aJ.phis.length bF (aJ.phis : List Phi_) (aM.2).toNat [nV aZ.to, bR], blk aG [nV c_.params, nV c_.regs, .slice aO c_.blocks.length aN] 49, blk aH [nV 0, nV 0, .slice none 0 0] 49, blk aI [nV c_.params, nV c_.regs, sV aK aL aD.length aE] 49, holeE aK aL aD.length aE (aM.1 : List Block_) (aR).toNat [sV bD bE aJ.phis.length bF, bB, nV aJ.jump, nV aJ.on, bC], ow [.slice aP aC.length aQ] aC, ow [.slice ac aF.length aS] aF, ow [bR] bA] := hm
     refine gE ?_
     replace hm : Mem w0 (hp w0) _ [ow [b9] aZ.args, ow [bC] aJ.next_, ow [bB] aJ.ins, holeE bD bE aJ.phis.length bF (aJ.phis : List Phi_) (aM.2).toNat [nV aZ.to, bR], blk aG [nV c_.params, nV c_.regs, .slice aO c_.blocks.length aN] 49, blk aH [nV 0, nV 0, .slice none 0 0] 49, blk aI [nV c_.params, nV c_.regs, sV aK aL aD.length aE] 49, holeE aK aL aD.length aE (aM.1 : List Block_) (aR).toNat [sV bD bE aJ.phis.length bF, bB, nV aJ.jump, nV aJ.on, bC], ow [.slice aP aC.length aQ] aC, ow [.slice ac aF.length aS] aF, ow [nV aZ.to, bR] ((⟨aZ.to, bA⟩ : Phi_) : Phi_)] := mk_Phi_ aZ.to hm 10 rfl
     replace hm := (hm.shutE (y := ((⟨aZ.to, bA⟩ : Phi_) : Phi_)) 3 10 (by decide) rfl rfl).pk (L' := [ow [b9] aZ.args, ow [bC] aJ.next_, ow [bB] aJ.ins, ow [sV bD bE aJ.phis.length bF] (aJ.phis.set (aM.2).toNat (⟨aZ.to, bA⟩ : Phi_)), blk aG [nV c_.params, nV c_.regs, .slice aO c_.blocks.length aN] 49, blk aH [nV 0, nV 0, .slice none 0 0] 49, blk aI [nV c_.params, nV c_.regs, sV aK aL aD.length aE] 49, holeE aK aL aD.length aE (aM.1 : List Block_) (aR).toNat [sV bD bE aJ.phis.length bF, bB, nV aJ.jump, nV aJ.on, bC], ow [.slice aP aC.length aQ] aC, ow [.slice ac aF.length aS] aF]) [0, 1, 2, 3, 4, 5, 6, 7, 8, 9] rfl rfl
     have ff := List.getElem?_set_self (a := ((⟨aZ.to, bA⟩ : Phi_) : Phi_)) (idx_lt b8)
     replace hm := (mk_Block_ aJ.jump aJ.on hm 3 2 1 rfl).pk (L' := [ow [b9] aZ.args, ow [sV bD bE aJ.phis.length bF, bB, nV aJ.jump, nV aJ.on, bC] ((⟨(aJ.phis.set (aM.2).toNat (⟨aZ.to, bA⟩ : Phi_)), aJ.ins, aJ.jump, aJ.on, aJ.next_⟩ : Block_) : Block_), blk aG [nV c_.params, nV c_.regs, .slice aO c_.blocks.length aN] 49, blk aH [nV 0, nV 0, .slice none 0 0] 49, blk aI [nV c_.params, nV c_.regs, sV aK aL aD.length aE] 49, holeE aK aL aD.length aE (aM.1 : List Block_) (aR).toNat [sV bD bE aJ.phis.length bF, bB, nV aJ.jump, nV aJ.on, bC], ow [.slice aP aC.length aQ] aC, ow [.slice ac aF.length aS] aF]) [0, 3, 4, 5, 6, 7, 8, 9] rfl rfl
     replace hm := (hm.shutE (y := ((⟨(aJ.phis.set (aM.2).toNat (⟨aZ.to, bA⟩ : Phi_)), aJ.ins, aJ.jump, aJ.on, aJ.next_⟩ : Block_) : Block_)) 5 1 (by decide) rfl rfl).pk (L' := [ow [b9] aZ.args, blk aG [nV c_.params, nV c_.regs, .slice aO c_.blocks.length aN] 49, blk aH [nV 0, nV 0, .slice none 0 0] 49, blk aI [nV c_.params, nV c_.regs, sV aK aL aD.length aE] 49, ow [sV aK aL aD.length aE] (aM.1.set (aR).toNat (⟨(aJ.phis.set (aM.2).toNat (⟨aZ.to, bA⟩ : Phi_)), aJ.ins, aJ.jump, aJ.on, aJ.next_⟩ : Block_)), ow [.slice aP aC.length aQ] aC, ow [.slice ac aF.length aS] aF]) [0, 2, 3, 4, 5, 6, 7] rfl rfl
     have fg := List.getElem?_set_self (a := ((⟨(aJ.phis.set (aM.2).toNat (⟨aZ.to, bA⟩ : Phi_)), aJ.ins, aJ.jump, aJ.on, aJ.next_⟩ : Block_) : Block_)) (idx_lt cA)
     exact gR (gM rfl (gB rfl (gA rfl (gE (gze hm [1, 2, 3, 4, 5, 6] rfl)))))
    refine gcf rfl (gXt (gHh ?_))
    replace hm := (mk_Block_ aY.jump aY.on hm 2 1 0 rfl).pk (L' := [ow [.slice bq aY.phis.length br, bo, nV aY.jump, nV aY.on, bp] (aY : Block_), blk aG [nV c_.params, nV c_.regs, .slice aO c_.blocks.length aN] 49, blk aH [nV 0, nV 0, .slice none 0 0] 49, blk aI [nV c_.params, nV c_.regs, sV aK aL aD.length aE] 49, holeE aK aL aD.length aE (aM.1 : List Block_) (aR).toNat [.slice bq aY.phis.length br, bo, nV aY.jump, nV aY.on, bp], ow [.slice aP aC.length aQ] aC, ow [.slice ac aF.length aS] aF]) [2, 3, 4, 5, 6, 7, 8] rfl rfl
    replace hm := (hm.shutE (y := (aY : Block_)) 4 0 (by decide) rfl rfl).pk (L' := [blk aG [nV c_.params, nV c_.regs, .slice aO c_.blocks.length aN] 49, blk aH [nV 0, nV 0, .slice none 0 0] 49, blk aI [nV c_.params, nV c_.regs, sV aK aL aD.length aE] 49, ow [sV aK aL aD.length aE] (aM.1.set (aR).toNat aY), ow [.slice aP aC.length aQ] aC, ow [.slice ac aF.length aS] aF]) [1, 2, 3, 4, 5, 6] rfl rfl
    rw [set_same bL] at hm
    exact gLp dM dL (gz hm [0, 1, 2, 3] rfl)
   repeat clear hm
   intro bm w hm
   exact gR (gM rfl (gP (by omega) (by omega) rfl (gA rfl (gE (gze hm [0, 1, 2, 3] rfl)))))
  repeat clear hm
  intro fh fi w hm fj fk
  exact gS (gS (gR (gM rfl (gM rfl (gY (yV st_43 rfl) (gB rfl (gE (go _ 69 rfl (decide_eq_false (by omega)) (gcf rfl (gXt (gHh (gS (gR (gY (yn (hm.blk_at 2 rfl) isAgg49 sizeOf49 rfl) (gSN hm 1 sizeOf49 (one_cons rfl (one_cons rfl (one_cons rfl one_nil))) rfl fun w hm => gE (gRt (grc 1 results188 hm rfl isAgg49 sizeOf49 ⟨.slice az aD.length aE, rfl, hm.pk [3] rfl rfl⟩)))))))))))))))))
theorem spec_l10Drop_ok (w0 : World) (c_ : Code_) (v1 : Value) (h1 : GT.rep (hp w0) [v1] c_.blocks) :
    ConM Tryz.prog 187 [(.agg #[nV c_.params, nV c_.regs, v1])] w0 (spec_l10Drop c_) fun r v w' => ∃ (x1 : Value), v = (.agg #[nV r.params, nV r.regs, x1]) ∧ Mem w0 (hp w0) w' [ow [x1] r.blocks] := by
  unfold spec_l10Drop
  refine gcon func187 rfl fun r => ?_
  have hm := Mem.start w0
  refine gS (gR (gBx hm rfl fun aB w hm => gAl hm zeroValue49 rfl fun aC w hm => gE (gS (gW (.q 0 (.e 1 (.e 2 (.e 3 (.e 4 .fin .nil) .nil) .nil) .nil)) [1, 2] [] hm [0, 1] [blk aC [nV 0, nV 0, .slice none 0 0] 49, blk aB [nV c_.params, nV c_.regs, v1] 49] rfl mxo (by kernel_rfl) (fun _ _ _ h => h.2) fun w hm hS => tQ rfl hS (fun w hm => yn (hm.blk_at 1 rfl) isAgg49 sizeOf49 rfl) (tO (tY rfl (yn (hm.blk_at 1 rfl) isAgg49 sizeOf49 rfl) (tAs hS (tO (gb fun aD aE => tf rfl rfl (fun a hf => e_call hf rfl call253 rfl (spec_ReachedIn_ok _ _ hm.lez c_ v1 h1  _ aE)) ?_)))))))))
  rintro aF w ⟨_, aJ, rfl, aA, aG, hB⟩
  replace hm := Mem.giveA hm aA hB; clear hB
  refine tAk (hm.thaw aA) [0, 1] rfl fun hS => tO (gb fun aK aH => tf rfl rfl (fun a hf => e_call hf rfl call188 rfl (spec_l10Pick_ok _ c_ v1 (hm.now (GT.mono aA h1)) aD aF (hm.now aG) _ aH)) ?_)
  rintro aL w ⟨aI, rfl, hB⟩
  replace hm := hm.give hB; clear hB
  refine tAn rfl (tO (tf0 rfl rfl (fun a hf => e_storeN 1 hf hm rfl sizeOf49 rfl rfl rfl (one_cons rfl (one_cons rfl (one_cons (rep_one (hm.ow_rep 0 rfl)) one_nil))) rfl rfl) ?_))
  rintro _ w hm
  refine tAn rfl (tE (gRt ?_))
  replace hm := hm.thaw aA
  exact grc 1 results187 hm rfl isAgg49 sizeOf49 ⟨aI, rfl, hm.pk [0] rfl rfl⟩
theorem spec_l7Copy_ok (w0 : World) (c_ : Code_) (v1 : Value) (h1 : GT.rep (hp w0) [v1] c_.blocks) :
    ConM Tryz.prog 106 [(.agg #[nV c_.params, nV c_.regs, v1])] w0 (spec_l7Copy c_) fun r v w' => ∃ (x1 : Value), v = (.agg #[nV r.params, nV r.regs, x1]) ∧ Mem w0 (hp w0) w' [ow [x1] r.blocks] := by
  unfold spec_l7Copy
  refine gcon func106 rfl fun r => ?_
  have hm := Mem.start w0
  refine gS (gR (gBx hm rfl fun aD w hm => gAl hm zeroValue49 rfl fun aE w hm => gE (gS (gR (gF fo_49_0 rfl (gL hm 1 isAgg3 rfl (gF fo_49_1 rfl (gL hm 1 isAgg3 rfl (gY (yG rfl (y_build (vs := [(0, (nV c_.params)), (1, (nV c_.regs))]) (cs := #[nV c_.params, nV c_.regs, .slice none 0 0]) rfl rfl (by kernel_rfl))) (gAl hm zeroValue49 rfl fun aF w hm => gSN hm 0 sizeOf49 (one_cons rfl (one_cons rfl (one_cons rfl one_nil))) rfl fun w hm => gE (gS (gS (gR (gA rfl (gE (gBk ?_))))))))))))))))
  replace hm := hm.nilow (α := Block_)
  refine gNg (fun aO aC a w => ∃ (aB : Value), St 29 [(1, (pV aD)), (2, (pV aE)), (3, (pV aF)), (4, (nV aO))] w0 (hp w0) [blk aD [nV c_.params, nV c_.regs, v1] 49, blk aE [nV 0, nV 0, .slice none 0 0] 49, blk aF [nV c_.params, nV c_.regs, aB] 49, ow [aB] aC] a w) (fun a hf => ⟨.slice none 0 0, hf.sb rfl, hm.pk [3, 2, 1, 0] rfl rfl⟩) ?_ ?_
  ·repeat clear hm
   rintro _ _ aO aC a w ⟨aB, hf, hm⟩ ah ai aj _
   refine gv hf (gS (gS (gR (gM rfl (gF fo_49_2 rfl (gL hm 0 isAgg47 rfl ?_))))))
   obtain ⟨aP, aJ, rfl, ak⟩ := ro_slice h1
   refine gY (yV st_47 rfl) (gB rfl (gE (go _ 14 rfl (decide_eq_true (by omega)) (gct rfl (gSk (gS (gBk (gW (.p 0 (.p 2 (.p 4 (.q 1 (.e 3 (.p 5 (.e 6 (.e 7 (.e 8 (.e 9 (.p 10 (.e 11 .fin .nil)) .nil) .nil) .nil) .nil)) .nil))))) [3, 6, 7, 8] [0, 2, 4, 5, 10] hm [0, 1, 2, 3] [blk aD [nV c_.params, nV c_.regs, .slice aP c_.blocks.length aJ] 49, blk aE [nV 0, nV 0, .slice none 0 0] 49, blk aF [nV c_.params, nV c_.regs, aB] 49, ow [aB] aC] rfl mxo (by kernel_rfl) (fun _ _ _ h => h.2) fun w hm hS => tP rfl (fun w => yF fo_49_2 rfl) (tP rfl (fun w => yF fo_49_2 rfl) (tP rfl (fun w => yM rfl) (tQ rfl hS (fun w hm => yL hm 2 isAgg47 rfl) (tO (tY rfl (yL hm 0 isAgg47 rfl) (tAs hS (gg fun aQ aR aN => ?_)))))))))))))))
   obtain ⟨aK, aL, am, he⟩ := idx_form' h1 aN
   obtain ⟨rfl, _, rfl⟩ := sl3 he
   obtain ⟨aS, aT, aV, aW, aX, aY, aZ⟩ := rk_Block_ h1 aN
   refine tP rfl (fun w => yI st_47 aR (idx_lt aN) rfl) (tO (tY rfl (yn (aW.mono hm.lez) isAgg63 sizeOf63 rfl) (tAs hS (tO (gb fun aA aa => tf rfl rfl (fun a hf => e_call hf rfl call175 rfl (spec_l7CopyBlock_ok _ aQ aS (hm.now aX) aT (hm.now aY) aV (hm.now aZ) _ aa)) ?_)))))
   rintro an w ⟨aG, aH, aI, rfl, hB⟩
   replace hm := hm.give hB; clear hB
   refine tAk hm [3, 4, 5, 6] rfl fun hS => tO (tf rfl rfl (fun a hf => e_build (vs := #[(0, (.agg #[aG, aH, nV aA.jump, nV aA.on, aI]))]) (cs := [aG, aH, nV aA.jump, nV aA.on, aI]) et_47 hf hm rfl rfl (by kernel_rfl) rfl rfl) ?_)
   rintro _ w ⟨aM, rfl, hm⟩
   replace hm := hm.els_nil (α := Block_)
   replace hm := (mk_Block_ aA.jump aA.on hm 2 3 4 rfl).pk (L' := [els [] ([] : List Block_), blk aM [aG, aH, nV aA.jump, nV aA.on, aI] 63, ow [aG, aH, nV aA.jump, nV aA.on, aI] (aA : Block_), blk aD [nV c_.params, nV c_.regs, sV aK aL c_.blocks.length aJ] 49, blk aE [nV 0, nV 0, .slice none 0 0] 49, blk aF [nV c_.params, nV c_.regs, aB] 49, ow [aB] aC]) [0, 1, 2, 5, 6, 7, 8] rfl rfl
   replace hm := (hm.els_cons 0 2 (by decide) rfl rfl).pk (L' := [els [aG, aH, nV aA.jump, nV aA.on, aI] ([aA] : List Block_), blk aM [aG, aH, nV aA.jump, nV aA.on, aI] 63, blk aD [nV c_.params, nV c_.regs, sV aK aL c_.blocks.length aJ] 49, blk aE [nV 0, nV 0, .slice none 0 0] 49, blk aF [nV c_.params, nV c_.regs, aB] 49, ow [aB] aC]) [0, 1, 3, 4, 5, 6] rfl rfl
   replace hm := (hm.lit_els 1 0 (by decide) rfl rfl rfl rfl).pk (L' := [ow [sV aM 0 1 1] ([aA] : List Block_), blk aD [nV c_.params, nV c_.regs, sV aK aL c_.blocks.length aJ] 49, blk aE [nV 0, nV 0, .slice none 0 0] 49, blk aF [nV c_.params, nV c_.regs, aB] 49, ow [aB] aC]) [1, 2, 3, 4, 5] rfl rfl
   refine tAk hm [1, 2, 3, 4] rfl fun hS => tO (gb fun ao ab => ?_)
   obtain ⟨ac, ae⟩ := appM_some.1 ab
   replace hm := (hm.both 4 0 (by decide) rfl rfl).pk (L' := [blk aD [nV c_.params, nV c_.regs, sV aK aL c_.blocks.length aJ] 49, blk aE [nV 0, nV 0, .slice none 0 0] 49, blk aF [nV c_.params, nV c_.regs, aB] 49, both (ow [aB] aC) (ow [sV aM 0 1 1] ([aA] : List Block_))]) [1, 2, 3, 4] rfl rfl
   refine tf rfl rfl (fun a hf => e_appendD (xs := aC) (ys := ([aA] : List Block_)) 3 et_47 hf hm rfl rfl rfl rfl ac) ?_
   rintro af w hm
   rw [ae] at hm
   refine tAn rfl (tP rfl (fun w => yF fo_49_2 rfl) (tO (tf0 rfl rfl (fun a hf => e_store1 2 hf hm rfl sizeOf47 rfl rfl rfl (rep_one (hm.ow_rep 3 rfl)) rfl) ?_)))
   rintro _ w hm
   exact tAn rfl (tE (gR (gM rfl (gP (by omega) (by omega) rfl (gA rfl (gE (gZe fun a hf => ⟨af, hf.sb rfl, hm.pk [0, 1, 2, 3] rfl rfl⟩)))))))
  repeat clear hm
  rintro ap aq a w ⟨ag, hf, hm⟩ ar au
  refine gv hf (gS (gS (gR (gM rfl (gF fo_49_2 rfl (gL hm 0 isAgg47 rfl ?_))))))
  obtain ⟨av, aw, rfl, ax⟩ := ro_slice h1
  exact gY (yV st_47 rfl) (gB rfl (gE (go _ 14 rfl (decide_eq_false (by omega)) (gcf rfl (gXt (gHh (gS (gR (gY (yn (hm.blk_at 2 rfl) isAgg49 sizeOf49 rfl) (gSN hm 1 sizeOf49 (one_cons rfl (one_cons rfl (one_cons (rep_one (hm.ow_rep 3 rfl)) one_nil))) rfl fun w hm => gE (gRt (grc 1 results106 hm rfl isAgg49 sizeOf49 ⟨ag, rfl, hm.pk [3] rfl rfl⟩))))))))))))
theorem spec_l18Even_ok (w0 : World) (c_ : Code_) (v1 : Value) (h1 : GT.rep (hp w0) [v1] c_.blocks) :
    ConM Tryz.prog 195 [(.agg #[nV c_.params, nV c_.regs, v1])] w0 (spec_l18Even c_) fun r v w' => ∃ (x1 : Value), v = (.agg #[nV r.params, nV r.regs, x1]) ∧ Mem w0 (hp w0) w' [ow [x1] r.blocks] := by
  unfold spec_l18Even
  refine gcon func195 rfl fun r => ?_
  have hm := Mem.start w0
  refine gS (gR (gBx hm rfl fun an w hm => gAl hm zeroValue49 rfl fun aF w hm => gE (gS (gR (gY (yn (hm.blk_at 1 rfl) isAgg49 sizeOf49 rfl) (gCg rfl call106 (spec_l7Copy_ok _ c_ v1 (hm.now h1)) ?_))))))
  rintro aA ao ap w ⟨aq, rfl, hB⟩
  replace hm := hm.give hB; clear hB
  refine gAl hm zeroValue49 rfl fun aG w hm => gSN hm 0 sizeOf49 (one_cons rfl (one_cons rfl (one_cons (rep_one (hm.ow_rep 1 rfl)) one_nil))) rfl fun w hm => gE (gS (gS (gR (gA rfl (gE ?_)))))
  obtain ⟨aP, aC, rfl, ar⟩ := ro_slice (hm.ow_rep 1 rfl)
  refine gBk (gNf hm (fun aH aK => [(2, (pV aF)), (3, (pV aG)), (4, (nV aH))]) (fun aH aK => [blk aF [nV 0, nV 0, .slice none 0 0] 49, blk aG [nV aA.params, nV aA.regs, .slice aP aA.blocks.length aC] 49, ow [.slice aP aA.blocks.length aC] aK]) [2, 0, 1] rfl ?_ ?_)
  ·repeat clear hm
   intro _ _ aH aK w hm au av aw _
   refine gS (gS (gR (gM rfl (gF fo_49_2 rfl (gL hm 1 isAgg47 rfl ?_)))))
   have ax := rep_len (hm.ow_rep 2 rfl)
   refine gY (yV st_47 rfl) (gB rfl (gE (go _ 12 rfl (decide_eq_true (by omega)) (gct rfl (gSk (gS (gJ hm (fun aQ => [(2, (pV aF)), (3, (pV aG)), (4, (nV aH))]) (fun aQ => [blk aF [nV 0, nV 0, .slice none 0 0] 49, blk aG [nV aA.params, nV aA.regs, .slice aP aA.blocks.length aC] 49, ow [.slice aP aA.blocks.length aC] aQ]) (fun aQ => ?_) ?_)))))))
   ·refine gBk (gS (gR (gF fo_49_2 rfl (gL hm 1 isAgg47 rfl (gM rfl (gg fun aB ab aN => ?_))))))
    obtain ⟨aD, aE, ay, he⟩ := idx_form' (hm.ow_rep 2 rfl) aN
    obtain ⟨rfl, _, rfl⟩ := sl3 he
    obtain ⟨az, bA, bB, bC, bD, bE, bF⟩ := rk_Block_ (hm.ow_rep 2 rfl) aN
    have hL2_1 := rep_slice_len (hm.ow_rep 2 rfl)
    refine gI st_47 ab (idx_lt2 aN hL2_1) rfl (gA rfl (gE (gS ?_)))
    obtain ⟨aI, aJ, aL, hm⟩ := pin_Block_ hm 2 rfl aN
    refine gJ hm (fun aR => [(2, (pV aF)), (3, (pV aG)), (4, (nV aH)), (5, (.pointer (some ⟨aD, aE + (aH).toNat * 5, none⟩))), (38, (.bool (aR)))]) (fun aR => [blk aF [nV 0, nV 0, .slice none 0 0] 49, blk aG [nV aA.params, nV aA.regs, sV aD aE aA.blocks.length aC] 49, holeE aD aE aA.blocks.length aC (aK : List Block_) (aH).toNat [aI, aJ, nV aB.jump, nV aB.on, aL], ow [aI] aB.phis, ow [aJ] aB.ins, ow [aL] aB.next_]) (fun aR => ?_) ?_
    ·refine gW (.p 0 (.p 1 (.p 2 (.e 3 (.p 4 (.p 5 (.p 6 (.p 7 (.p 8 (.p 12 (.p 13 (.p 14 (.q 9 (.p 10 (.q 11 (.e 15 (.p 16 (.e 17 (.p 18 (.p 19 .fin)) .nil)) .nil)))))))))))) .nil)))) [15, 17] [0, 1, 2, 4, 5, 6, 7, 8, 10, 12, 13, 14, 16, 18, 19] hm [0, 1, 2, 3, 4, 5] [ow [aL] aB.next_, ow [aJ] aB.ins, ow [aI] aB.phis, blk aF [nV 0, nV 0, .slice none 0 0] 49, blk aG [nV aA.params, nV aA.regs, sV aD aE aA.blocks.length aC] 49, holeE aD aE aA.blocks.length aC (aK : List Block_) (aH).toNat [aI, aJ, nV aB.jump, nV aB.on, aL]] rfl mxo (by kernel_rfl) (fun _ _ _ h => h.2) fun w hm hS => tP rfl (fun w => yM rfl) (tP rfl (fun w => yG rfl (y_nilptr rfl rfl)) (tP rfl (fun w => yF fo_63_2 rfl) (tO (tY rfl (yl isAgg3 ((hm.holeE_at 5 rfl).cell (j := 2) rfl) rfl) (tAn rfl (tP rfl (fun w => yB rfl) (tP rfl (fun w => yM rfl) (gsd 24 rfl (fun ac => ?_) fun ac => ?_))))))))
     ·refine tP rfl (fun w => yM rfl) (tP rfl (fun w => yG rfl (y_nilptr rfl rfl)) (tP rfl (fun w => yF fo_63_4 rfl) (tP rfl (fun w => yM rfl) (tP rfl (fun w => yG rfl (y_nilptr rfl rfl)) (tP rfl (fun w => yF fo_63_4 rfl) (tQ rfl hS (fun w hm => yl isAgg43 ((hm.holeE_at 5 rfl).cell (j := 4) rfl) rfl) (gg fun ae af aT => ?_)))))))
      obtain ⟨bG, bH, bJ, he⟩ := idx_form (hm.ow_rep 0 rfl) aT
      subst he
      exact tP rfl (fun w => yI st_43 af (idx_lt aT) rfl) (tQ rfl hS (fun w hm => yl isAgg3 ((flat_cells (cs := [nV ae]) (hm.ow_rep 0 rfl) aT rfl).cell (j := 0) rfl) rfl) (tO (tY rfl (yl isAgg43 ((hm.holeE_at 5 rfl).cell (j := 4) rfl) rfl) (tAs hS (gg fun ag ah aZ => tP rfl (fun w => yI st_43 ah (idx_lt aZ) rfl) (tO (tY rfl (yl isAgg3 ((flat_cells (cs := [nV ag]) (hm.ow_rep 0 rfl) aZ rfl).cell (j := 0) rfl) rfl) (tAs hS (tP rfl (fun w => yB rfl) (tP rfl (fun w => yKt rfl) (tE (gz hm [3, 4, 5, 2, 1, 0] rfl))))))))))))
     exact tPo rfl rfl (tPo rfl rfl (tPo rfl rfl (tPo rfl rfl (tPo rfl rfl (tPo rfl rfl (tQo rfl hS rfl (tPo rfl rfl (tQo rfl hS rfl (tO (tEo rfl rfl (tAs hS (tPo rfl rfl (tO (tEo rfl rfl (tAs hS (tPo rfl rfl (tP rfl (fun w => yKf rfl) (tE (gz hm [3, 4, 5, 2, 1, 0] rfl)))))))))))))))))))
    repeat clear hm
    intro aR w hm
    refine gJ hm (fun aS => [(2, (pV aF)), (3, (pV aG)), (4, (nV aH))]) (fun aS => [blk aF [nV 0, nV 0, .slice none 0 0] 49, blk aG [nV aA.params, nV aA.regs, sV aD aE aA.blocks.length aC] 49, ow [sV aD aE aA.blocks.length aC] aS]) (fun aS => ?_) ?_
    ·refine gs 38 rfl (fun ai => ?_) fun ai => ?_
     ·refine gct rfl (gS (gR (gM rfl (gY (yG rfl (y_nilptr rfl rfl)) (gF fo_63_2 rfl ?_)))))
      have aj : ∀ u ∈ ([nV 1] : List Value), u.oneCell' = true := (one_cons rfl one_nil)
      refine gf0 rfl (fun a hf => e_storeH (j := 2) (vs := [nV 1]) 2 hf hm rfl rfl rfl sizeOf3 rfl rfl rfl aj rfl) ?_
      rintro _ w hm
      replace hm : Mem w0 (hp w0) _ [blk aF [nV 0, nV 0, .slice none 0 0] 49, blk aG [nV aA.params, nV aA.regs, sV aD aE aA.blocks.length aC] 49, holeE aD aE aA.blocks.length aC (aK : List Block_) (aH).toNat [aI, aJ, nV 1, nV aB.on, aL], ow [aI] aB.phis, ow [aJ] aB.ins, ow [aL] aB.next_] := hm
      refine gE (gS (gR (gM rfl (gY (yG rfl (y_nilptr rfl rfl)) (gF fo_63_3 rfl ?_)))))
      have ak : ∀ u ∈ ([nV 0] : List Value), u.oneCell' = true := (one_cons rfl one_nil)
      refine gf0 rfl (fun a hf => e_storeH (j := 3) (vs := [nV 0]) 2 hf hm rfl rfl rfl sizeOf3 rfl rfl rfl ak rfl) ?_
      rintro _ w hm
      replace hm : Mem w0 (hp w0) _ [blk aF [nV 0, nV 0, .slice none 0 0] 49, blk aG [nV aA.params, nV aA.regs, sV aD aE aA.blocks.length aC] 49, holeE aD aE aA.blocks.length aC (aK : List Block_) (aH).toNat [aI, aJ, nV 1, nV 0, aL], ow [aI] aB.phis, ow [aJ] aB.ins, ow [aL] aB.next_] := hm
      refine gE (gR (gM rfl (gM rfl (gY (yG rfl (y_nilptr rfl rfl)) (gF fo_63_4 rfl (gY (yl isAgg43 ((hm.holeE_at 2 rfl).cell (j := 4) rfl) rfl) (gg fun aM am aV => ?_)))))))
      obtain ⟨aW, aX, aY, he⟩ := idx_form (hm.ow_rep 5 rfl) aV
      subst he
      refine gI st_43 am (idx_lt aV) rfl (gY (yl isAgg3 ((flat_cells (cs := [nV aM]) (hm.ow_rep 5 rfl) aV rfl).cell (j := 0) rfl) rfl) (gf rfl (fun a hf => e_build (vs := #[(0, (nV aM))]) (cs := [nV aM]) et_43 hf hm rfl rfl (by kernel_rfl) rfl rfl) ?_))
      rintro _ w ⟨aO, rfl, hm⟩
      replace hm := hm.lit (xs := ([aM] : List Int)) 0 rfl rfl rfl rfl
      refine gY (yG rfl (y_nilptr rfl rfl)) (gF fo_63_4 rfl ?_)
      have aa : ∀ u ∈ ([sV aO 0 1 1] : List Value), u.oneCell' = true := (one_cons rfl one_nil)
      refine gf0 rfl (fun a hf => e_storeH (j := 4) (vs := [sV aO 0 1 1]) 3 hf hm rfl rfl rfl sizeOf43 rfl rfl (cells_one (aa _ (List.mem_singleton.2 rfl))) aa rfl) ?_
      rintro _ w hm
      replace hm : Mem w0 (hp w0) _ [ow [sV aO 0 1 1] ([aM] : List Int), blk aF [nV 0, nV 0, .slice none 0 0] 49, blk aG [nV aA.params, nV aA.regs, sV aD aE aA.blocks.length aC] 49, holeE aD aE aA.blocks.length aC (aK : List Block_) (aH).toNat [aI, aJ, nV 1, nV 0, sV aO 0 1 1], ow [aI] aB.phis, ow [aJ] aB.ins, ow [sV aW aX aB.next_.length aY] aB.next_] := hm
      refine gE ?_
      replace hm := (mk_Block_ 1 0 hm 4 5 0 rfl).pk (L' := [blk aF [nV 0, nV 0, .slice none 0 0] 49, blk aG [nV aA.params, nV aA.regs, sV aD aE aA.blocks.length aC] 49, holeE aD aE aA.blocks.length aC (aK : List Block_) (aH).toNat [aI, aJ, nV 1, nV 0, sV aO 0 1 1], ow [aI, aJ, nV 1, nV 0, sV aO 0 1 1] ((⟨aB.phis, aB.ins, 1, 0, ([aM] : List Int)⟩ : Block_) : Block_), ow [sV aW aX aB.next_.length aY] aB.next_]) [1, 2, 3, 4, 6] rfl rfl
      replace hm := (hm.shutE (y := ((⟨aB.phis, aB.ins, 1, 0, ([aM] : List Int)⟩ : Block_) : Block_)) 2 3 (by decide) rfl rfl).pk (L' := [blk aF [nV 0, nV 0, .slice none 0 0] 49, blk aG [nV aA.params, nV aA.regs, sV aD aE aA.blocks.length aC] 49, ow [sV aD aE aA.blocks.length aC] (aK.set (aH).toNat (⟨aB.phis, aB.ins, 1, 0, ([aM] : List Int)⟩ : Block_)), ow [sV aW aX aB.next_.length aY] aB.next_]) [0, 1, 2, 4] rfl rfl
      have bK := List.getElem?_set_self (a := ((⟨aB.phis, aB.ins, 1, 0, ([aM] : List Int)⟩ : Block_) : Block_)) (idx_lt aN)
      exact gz hm [0, 1, 2] rfl
     refine gcf rfl (gSk ?_)
     replace hm := (mk_Block_ aB.jump aB.on hm 3 4 5 rfl).pk (L' := [blk aF [nV 0, nV 0, .slice none 0 0] 49, blk aG [nV aA.params, nV aA.regs, sV aD aE aA.blocks.length aC] 49, holeE aD aE aA.blocks.length aC (aK : List Block_) (aH).toNat [aI, aJ, nV aB.jump, nV aB.on, aL], ow [aI, aJ, nV aB.jump, nV aB.on, aL] (aB : Block_)]) [0, 1, 2, 3] rfl rfl
     replace hm := (hm.shutE (y := (aB : Block_)) 2 3 (by decide) rfl rfl).pk (L' := [blk aF [nV 0, nV 0, .slice none 0 0] 49, blk aG [nV aA.params, nV aA.regs, sV aD aE aA.blocks.length aC] 49, ow [sV aD aE aA.blocks.length aC] (aK.set (aH).toNat aB)]) [0, 1, 2] rfl rfl
     rw [set_same aN] at hm
     exact gz hm [0, 1, 2] rfl
    repeat clear hm
    intro aS w hm
    exact gz hm [0, 1, 2] rfl
   repeat clear hm
   intro aQ w hm
   exact gR (gM rfl (gP (by omega) (by omega) rfl (gA rfl (gE (gze hm [0, 1, 2] rfl)))))
  repeat clear hm
  intro bL bM w hm bN bO
  refine gS (gS (gR (gM rfl (gF fo_49_2 rfl (gL hm 1 isAgg47 rfl ?_)))))
  have bP := rep_len (hm.ow_rep 2 rfl)
  exact gY (yV st_47 rfl) (gB rfl (gE (go _ 12 rfl (decide_eq_false (by omega)) (gcf rfl (gXt (gHh (gS (gR (gY (yn (hm.blk_at 1 rfl) isAgg49 sizeOf49 rfl) (gSN hm 0 sizeOf49 (one_cons rfl (one_cons rfl (one_cons rfl one_nil))) rfl fun w hm => gE (gRt (grc 0 results195 hm rfl isAgg49 sizeOf49 ⟨.slice aP aA.blocks.length aC, rfl, hm.pk [2] rfl rfl⟩))))))))))))
theorem spec_l18Empty_ok (w0 : World) (c_ : Code_) (v1 : Value) (h1 : GT.rep (hp w0) [v1] c_.blocks) (b_ : Int) :
    ConM Tryz.prog 269 [(.agg #[nV c_.params, nV c_.regs, v1]), nV b_] w0 (spec_l18Empty c_ b_) fun r v w' => v = (.bool (r)) ∧ Below w0.heap.size w0 w' := by
  unfold spec_l18Empty
  refine gcon func269 rfl fun r => ?_
  have hm := Mem.start w0
  refine gS (gR (gBx hm rfl fun aF w hm => gA rfl (gE (gS (gR (gF fo_49_2 rfl (gL hm 0 isAgg47 rfl (gM rfl (gg fun aB aT aG => ?_)))))))))
  obtain ⟨aH, aI, aJ, he⟩ := idx_form' h1 aG
  subst he
  obtain ⟨aL, aM, aN, aV, aO, aP, aC⟩ := rk_Block_ h1 aG
  refine gI st_47 aT (idx_lt aG) rfl (gY (yn (aV.mono hm.lez) isAgg63 sizeOf63 rfl) (gAl hm zeroValue63 rfl fun aK w hm => gSN hm 0 sizeOf63 (one_cons (rep_one aO) (one_cons (rep_one aP) (one_cons rfl (one_cons rfl (one_cons (rep_one aC) one_nil))))) rfl fun w hm => gE (gS (gS (gJ hm (fun aD => [(1, (nV b_)), (2, (pV aF)), (5, (pV aK)), (29, (.bool (aD)))]) (fun aD => [blk aF [nV c_.params, nV c_.regs, sV aH aI c_.blocks.length aJ] 49, blk aK [aL, aM, nV aB.jump, nV aB.on, aN] 63]) (fun aD => ?_) ?_)))))
  ·refine gR (gM rfl (gB rfl (gM rfl (gsd 13 rfl (fun aW => ?_) fun aW => ?_))))
   ·exact gO rfl (gO rfl (gO rfl (gO rfl (gKt rfl (gM rfl (gO rfl (gO rfl (gO rfl (gO rfl (gKt rfl (gM rfl (gO rfl (gO rfl (gO rfl (gKt rfl (gE (gz hm [1, 0] rfl)))))))))))))))))
   refine gF fo_63_0 rfl (gL hm 0 isAgg60 rfl ?_)
   obtain ⟨ah, ai, rfl, aj⟩ := ro_slice aO
   refine gY (yV st_60 rfl) (gB rfl (gKf rfl (gM rfl (gsd 19 rfl (fun aX => ?_) fun aX => ?_))))
   ·exact gO rfl (gO rfl (gO rfl (gO rfl (gKt rfl (gM rfl (gO rfl (gO rfl (gO rfl (gKt rfl (gE (gz hm [1, 0] rfl)))))))))))
   refine gF fo_63_1 rfl (gL hm 0 isAgg61 rfl ?_)
   obtain ⟨ak, am, rfl, an⟩ := ro_slice aP
   refine gY (yV st_61 rfl) (gB rfl (gKf rfl (gM rfl (gsd 25 rfl (fun aY => ?_) fun aY => ?_))))
   ·exact gO rfl (gO rfl (gO rfl (gKt rfl (gE (gz hm [1, 0] rfl)))))
   exact gF fo_63_2 rfl (gL hm 0 isAgg3 rfl (gB rfl (gKf rfl (gE (gz hm [1, 0] rfl)))))
  repeat clear hm
  intro aD w hm
  refine gs 29 rfl (fun aZ => ?_) fun aZ => ?_
  ·exact gct rfl (gS (gR (gA rfl (gE (gRt (gr1 results269 rfl ⟨rfl, hm.below⟩))))))
  refine gcf rfl (gSk (gS (gJ hm (fun aE => [(4, (.bool (aE)))]) (fun aE => []) (fun aE => ?_) ?_)))
  ·refine gW (.p 0 (.p 4 (.e 1 (.p 2 (.e 3 (.p 5 (.p 6 (.p 7 (.p 9 (.q 8 (.e 10 (.p 11 (.e 12 (.p 13 (.p 14 (.e 15 (.p 16 (.p 17 (.p 18 (.p 19 (.p 21 (.e 20 (.e 22 (.p 23 (.p 24 (.p 25 (.p 26 .fin)))) .nil) .nil)))))) .nil))) .nil)) .nil)))))) .nil)) .nil))) [10, 12] [0, 2, 4, 5, 6, 7, 9, 11, 13, 14, 16, 17, 18, 19, 21, 23, 24, 25, 26] hm [0, 1] [blk aF [nV c_.params, nV c_.regs, sV aH aI c_.blocks.length aJ] 49, blk aK [aL, aM, nV aB.jump, nV aB.on, aN] 63] rfl mxo (by kernel_rfl) (fun _ _ _ h => h.2) fun w hm hS => tP rfl (fun w => yF fo_63_4 rfl) (tP rfl (fun w => yM rfl) (tO (tY rfl (yL hm 1 isAgg43 rfl) (tAn rfl (gg fun aQ aR aA => ?_)))))
   obtain ⟨ao, ap, aq, he⟩ := idx_form aC aA
   subst he
   refine tP rfl (fun w => yI st_43 aR (idx_lt aA) rfl) (tO (tY rfl (yl isAgg3 ((flat_cells (cs := [nV aQ]) (hm.now aC) aA rfl).cell (j := 0) rfl) rfl) (tAn rfl (tP rfl (fun w => yB rfl) (tP rfl (fun w => yM rfl) (gsd 36 rfl (fun aa => ?_) fun aa => ?_))))))
   ·refine tP rfl (fun w => yF fo_49_2 rfl) (tP rfl (fun w => yF fo_63_4 rfl) (tQ rfl hS (fun w hm => yL hm 0 isAgg47 rfl) (tO (tY rfl (yL hm 1 isAgg43 rfl) (tAs hS (tP rfl (fun w => yI st_43 aR (idx_lt aA) rfl) (tO (tY rfl (yl isAgg3 ((flat_cells (cs := [nV aQ]) (hm.now aC) aA rfl).cell (j := 0) rfl) rfl) (tAs hS (gg fun ar ab aS => ?_))))))))))
    obtain ⟨au, av, aw, ac, ae, ax, ay⟩ := rk_Block_ h1 aS
    refine tP rfl (fun w => yI st_47 ab (idx_lt aS) rfl) (tP rfl (fun w => yF fo_63_0 rfl) (tO (tY rfl (yl isAgg60 ((ac.mono hm.lez).cell (j := 0) rfl) rfl) (tAn rfl ?_))))
    obtain ⟨az, bA, rfl, bB⟩ := ro_slice ae
    refine tP rfl (fun w => yV st_60 rfl) (tP rfl (fun w => yB rfl) (tP rfl (fun w => yKt rfl) (tP rfl (fun w => yM rfl) (gsd 49 rfl (fun af => ?_) fun af => ?_))))
    ·refine tP rfl (fun w => yM rfl) (tO (tY rfl (yn (hm.blk_at 0 rfl) isAgg49 sizeOf49 rfl) (tAn rfl (tO (gb fun bC ag => tf rfl rfl (fun a hf => e_call hf rfl call129 rfl (spec_l7Preds_ok _ c_ (sV aH aI c_.blocks.length aJ) (hm.now h1) b_ _ ag)) ?_)))))
     rintro bD w ⟨_, rfl, hB⟩
     replace hm := hm.give hB; clear hB
     refine tAn rfl ?_
     obtain ⟨bE, bF, rfl, bG⟩ := ro_slice (hm.ow_rep 0 rfl)
     exact tP rfl (fun w => yV st_43 rfl) (tP rfl (fun w => yB rfl) (tP rfl (fun w => yKt rfl) (tP rfl (fun w => yA rfl) (tE (gz hm [] rfl)))))
    exact tPo rfl rfl (tO (tEo rfl rfl (tAn rfl (tO (tEo rfl rfl (tAn rfl (tPo rfl rfl (tPo rfl rfl (tP rfl (fun w => yKf rfl) (tP rfl (fun w => yA rfl) (tE (gz hm [] rfl))))))))))))
   refine tPo rfl rfl (tPo rfl rfl (tQo rfl hS rfl (tO (tEo rfl rfl (tAs hS (tPo rfl rfl (tO (tEo rfl rfl (tAs hS (tPo rfl rfl (tPo rfl rfl (tO (tEo rfl rfl (tAn rfl (tPo rfl rfl (tPo rfl rfl (tP rfl (fun w => yKf rfl) (tP rfl (fun w => yM rfl) (tPo rfl rfl (tO (tEo rfl rfl (tAn rfl (tO (tEo rfl rfl (tAn rfl (tPo rfl rfl (tPo rfl rfl (tP rfl (fun w => yKf rfl) (tP rfl (fun w => yA rfl) (tE ?_))))))))))))))))))))))))))))))
   exact gz hm [] rfl
  repeat clear hm
  intro aE w hm
  exact gRt (gr1 results269 rfl ⟨rfl, hm.below⟩)
theorem spec_l18Skip_ok (w0 : World) (c_ : Code_) (v1 : Value) (h1 : GT.rep (hp w0) [v1] c_.blocks) :
    ConM Tryz.prog 196 [(.agg #[nV c_.params, nV c_.regs, v1])] w0 (spec_l18Skip c_) fun r v w' => ∃ (x1 : Value), v = (.agg #[nV r.params, nV r.regs, x1]) ∧ Mem w0 (hp w0) w' [ow [x1] r.blocks] := by
  unfold spec_l18Skip
  refine gcon func196 rfl fun r => ?_
  have hm := Mem.start w0
  refine gS (gR (gBx hm rfl fun bM w hm => gAl hm zeroValue49 rfl fun aF w hm => gE (gS (gR (gY (yn (hm.blk_at 1 rfl) isAgg49 sizeOf49 rfl) (gCg rfl call106 (spec_l7Copy_ok _ c_ v1 (hm.now h1)) ?_))))))
  rintro aA bN bO w ⟨bP, rfl, hB⟩
  replace hm := hm.give hB; clear hB
  refine gAl hm zeroValue49 rfl fun aG w hm => gSN hm 0 sizeOf49 (one_cons rfl (one_cons rfl (one_cons (rep_one (hm.ow_rep 1 rfl)) one_nil))) rfl fun w hm => gE (gS (gS (gR (gA rfl (gE ?_)))))
  obtain ⟨aN, aC, rfl, bQ⟩ := ro_slice (hm.ow_rep 1 rfl)
  refine gJ hm (fun aO => [(2, (pV aF)), (3, (pV aG))]) (fun aO => [blk aF [nV 0, nV 0, .slice none 0 0] 49, blk aG [nV aA.params, nV aA.regs, .slice aN aA.blocks.length aC] 49, ow [.slice aN aA.blocks.length aC] aO]) (fun aO => ?_) ?_
  ·refine gBk (gMf hm (fun aJ => [(2, (pV aF)), (3, (pV aG)), (4, (nV aJ.2))]) (fun aJ => [blk aF [nV 0, nV 0, .slice none 0 0] 49, blk aG [nV aA.params, nV aA.regs, .slice aN aA.blocks.length aC] 49, ow [.slice aN aA.blocks.length aC] aJ.1]) [2, 0, 1] rfl ?_)
   repeat clear hm
   intro bR ax aJ w hm bS ay
   refine gS (gS (gR (gM rfl (gF fo_49_2 rfl (gL hm 1 isAgg47 rfl ?_)))))
   have bT := rep_len (hm.ow_rep 2 rfl)
   refine gY (yV st_47 rfl) (gB rfl (gE (gsd 14 rfl (fun az => ?_) fun az => ?_)))
   ·refine gct rfl (gSk (gS (gJ hm (fun aP => [(2, (pV aF)), (3, (pV aG)), (4, (nV aP.2))]) (fun aP => [blk aF [nV 0, nV 0, .slice none 0 0] 49, blk aG [nV aA.params, nV aA.regs, .slice aN aA.blocks.length aC] 49, ow [.slice aN aA.blocks.length aC] aP.1]) (fun aP => ?_) ?_)))
    ·refine gBk (gS (gS (gR (gY (yn (hm.blk_at 1 rfl) isAgg49 sizeOf49 rfl) (gM rfl (gC hm rfl call269 (spec_l18Empty_ok _ (⟨aA.params, aA.regs, aJ.1⟩ : Code_) (.slice aN aA.blocks.length aC) (hm.ow_rep 2 rfl) aJ.2) fun bU bV w hm => gN rfl (gE (gsn 20 rfl (fun bA => ?_) fun bA => ?_))))))))
     ·exact gct rfl (gXt (gHh (gz hm [0, 1, 2] rfl)))
     refine gcf rfl (gSk (gS (gR (gF fo_49_2 rfl (gL hm 1 isAgg47 rfl (gM rfl (gg fun aM bB aQ => ?_)))))))
     obtain ⟨aD, aE, bW, he⟩ := idx_form' (hm.ow_rep 2 rfl) aQ
     obtain ⟨rfl, _, rfl⟩ := sl3 he
     obtain ⟨bX, bY, bZ, b8, b9, ba, bb⟩ := rk_Block_ (hm.ow_rep 2 rfl) aQ
     have hL3_1 := rep_slice_len (hm.ow_rep 2 rfl)
     refine gI st_47 bB (idx_lt2 aQ hL3_1) rfl (gF fo_63_4 rfl ?_)
     obtain ⟨ak, am, bc, hm⟩ := pin_Block_ hm 2 rfl aQ
     refine gY (yl isAgg43 ((hm.holeE_at 5 rfl).cell (j := 4) rfl) rfl) (gg fun aL bC ag => ?_)
     obtain ⟨an, ao, ap, he⟩ := idx_form (hm.ow_rep 0 rfl) ag
     subst he
     refine gI st_43 bC (idx_lt ag) rfl (gY (yl isAgg3 ((flat_cells (cs := [nV aL]) (hm.ow_rep 0 rfl) ag rfl).cell (j := 0) rfl) rfl) (gA rfl (gE (gS (gS ?_)))))
     replace hm := (mk_Block_ aM.jump aM.on hm 2 1 0 rfl).pk (L' := [ow [ak, am, nV aM.jump, nV aM.on, sV an ao aM.next_.length ap] (aM : Block_), blk aF [nV 0, nV 0, .slice none 0 0] 49, blk aG [nV aA.params, nV aA.regs, sV aD aE aA.blocks.length aC] 49, holeE aD aE aA.blocks.length aC (aJ.1 : List Block_) (aJ.2).toNat [ak, am, nV aM.jump, nV aM.on, sV an ao aM.next_.length ap]]) [2, 3, 4, 5] rfl rfl
     replace hm := (hm.shutE (y := (aM : Block_)) 3 0 (by decide) rfl rfl).pk (L' := [blk aF [nV 0, nV 0, .slice none 0 0] 49, blk aG [nV aA.params, nV aA.regs, sV aD aE aA.blocks.length aC] 49, ow [sV aD aE aA.blocks.length aC] (aJ.1.set (aJ.2).toNat aM)]) [1, 2, 3] rfl rfl
     rw [set_same aQ] at hm
     refine gR (gA rfl (gE (gBk (gNf hm (fun aI ah => [(2, (pV aF)), (3, (pV aG)), (4, (nV aJ.2)), (5, (nV aL)), (6, (nV aI))]) (fun aI ah => [blk aF [nV 0, nV 0, .slice none 0 0] 49, blk aG [nV aA.params, nV aA.regs, sV aD aE aA.blocks.length aC] 49, ow [sV aD aE aA.blocks.length aC] ah]) [0, 1, 2] rfl ?_ ?_))))
     ·repeat clear hm
      intro _ _ aI ah w hm bd be bf _
      refine gS (gS (gR (gM rfl (gF fo_49_2 rfl (gL hm 1 isAgg47 rfl ?_)))))
      have bg := rep_len (hm.ow_rep 2 rfl)
      refine gY (yV st_47 rfl) (gB rfl (gE (go _ 33 rfl (decide_eq_true (by omega)) (gct rfl (gSk (gS (gBk (gS (gR (gA rfl (gE (gJ hm (fun aR => [(2, (pV aF)), (3, (pV aG)), (4, (nV aJ.2)), (5, (nV aL)), (6, (nV aI))]) (fun aR => [blk aF [nV 0, nV 0, .slice none 0 0] 49, blk aG [nV aA.params, nV aA.regs, sV aD aE aA.blocks.length aC] 49, ow [sV aD aE aA.blocks.length aC] aR]) (fun aR => ?_) ?_))))))))))))
      ·refine gBk (gMf hm (fun aH => [(2, (pV aF)), (3, (pV aG)), (4, (nV aJ.2)), (5, (nV aL)), (6, (nV aI)), (7, (nV aH.2))]) (fun aH => [blk aF [nV 0, nV 0, .slice none 0 0] 49, blk aG [nV aA.params, nV aA.regs, sV aD aE aA.blocks.length aC] 49, ow [sV aD aE aA.blocks.length aC] aH.1]) [0, 1, 2] rfl ?_)
       repeat clear hm
       intro bh bD aH w hm bi bE
       refine gS (gS (gR (gM rfl (gF fo_49_2 rfl (gL hm 1 isAgg47 rfl (gM rfl (gg fun aB ai aK => ?_)))))))
       obtain ⟨bj, bk, bl, bm, bo, bp, bq⟩ := rk_Block_ (hm.ow_rep 2 rfl) aK
       have hL6_1 := rep_slice_len (hm.ow_rep 2 rfl)
       refine gI st_47 ai (idx_lt2 aK hL6_1) rfl (gF fo_63_4 rfl ?_)
       obtain ⟨aS, aT, br, hm⟩ := pin_Block_ hm 2 rfl aK
       refine gY (yl isAgg43 ((hm.holeE_at 5 rfl).cell (j := 4) rfl) rfl) ?_
       obtain ⟨aV, aW, rfl, bt⟩ := ro_slice (hm.ow_rep 0 rfl)
       refine gY (yV st_43 rfl) (gB rfl (gE (gsd 44 rfl (fun bF => ?_) fun bF => ?_)))
       ·refine gct rfl (gSk (gS (gJ hm (fun aX => [(2, (pV aF)), (3, (pV aG)), (4, (nV aJ.2)), (5, (nV aL)), (6, (nV aI)), (7, (nV aH.2))]) (fun aX => [blk aF [nV 0, nV 0, .slice none 0 0] 49, blk aG [nV aA.params, nV aA.regs, sV aD aE aA.blocks.length aC] 49, ow [sV aD aE aA.blocks.length aC] aX]) (fun aX => ?_) ?_)))
        ·refine gBk (gS ?_)
         replace hm := (mk_Block_ aB.jump aB.on hm 2 1 0 rfl).pk (L' := [ow [aS, aT, nV aB.jump, nV aB.on, .slice aV aB.next_.length aW] (aB : Block_), blk aF [nV 0, nV 0, .slice none 0 0] 49, blk aG [nV aA.params, nV aA.regs, sV aD aE aA.blocks.length aC] 49, holeE aD aE aA.blocks.length aC (aH.1 : List Block_) (aI).toNat [aS, aT, nV aB.jump, nV aB.on, .slice aV aB.next_.length aW]]) [2, 3, 4, 5] rfl rfl
         replace hm := (hm.shutE (y := (aB : Block_)) 3 0 (by decide) rfl rfl).pk (L' := [blk aF [nV 0, nV 0, .slice none 0 0] 49, blk aG [nV aA.params, nV aA.regs, sV aD aE aA.blocks.length aC] 49, ow [sV aD aE aA.blocks.length aC] (aH.1.set (aI).toNat aB)]) [1, 2, 3] rfl rfl
         rw [set_same aK] at hm
         refine gR (gF fo_49_2 rfl (gL hm 1 isAgg47 rfl (gM rfl ?_)))
         obtain ⟨bu, bv, bw, bx, bz, cA, cB⟩ := rk_Block_ (hm.ow_rep 2 rfl) aK
         have hL7_1 := rep_slice_len (hm.ow_rep 2 rfl)
         refine gI st_47 ai (idx_lt2 aK hL7_1) rfl (gF fo_63_4 rfl ?_)
         obtain ⟨aY, aZ, cC, hm⟩ := pin_Block_ hm 2 rfl aK
         refine gY (yl isAgg43 ((hm.holeE_at 5 rfl).cell (j := 4) rfl) rfl) (gM rfl (gg fun bG bH aj => ?_))
         obtain ⟨aa, ab, ac, he⟩ := idx_form (hm.ow_rep 0 rfl) aj
         subst he
         refine gI st_43 bH (idx_lt aj) rfl (gY (yl isAgg3 ((flat_cells (cs := [nV bG]) (hm.ow_rep 0 rfl) aj rfl).cell (j := 0) rfl) rfl) (gM rfl (gB rfl (gE (gJ hm (fun ae => [(2, (pV aF)), (3, (pV aG)), (4, (nV aJ.2)), (5, (nV aL)), (6, (nV aI)), (7, (nV aH.2))]) (fun ae => [blk aF [nV 0, nV 0, .slice none 0 0] 49, blk aG [nV aA.params, nV aA.regs, sV aD aE aA.blocks.length aC] 49, ow [sV aD aE aA.blocks.length aC] ae]) (fun ae => ?_) ?_)))))
         ·refine gsd 57 rfl (fun bJ => ?_) fun bJ => ?_
          ·refine gct rfl ?_
           replace hm := (mk_Block_ aB.jump aB.on hm 2 1 0 rfl).pk (L' := [ow [aY, aZ, nV aB.jump, nV aB.on, sV aa ab aB.next_.length ac] (aB : Block_), blk aF [nV 0, nV 0, .slice none 0 0] 49, blk aG [nV aA.params, nV aA.regs, sV aD aE aA.blocks.length aC] 49, holeE aD aE aA.blocks.length aC (aH.1 : List Block_) (aI).toNat [aY, aZ, nV aB.jump, nV aB.on, sV aa ab aB.next_.length ac]]) [2, 3, 4, 5] rfl rfl
           replace hm := (hm.shutE (y := (aB : Block_)) 3 0 (by decide) rfl rfl).pk (L' := [blk aF [nV 0, nV 0, .slice none 0 0] 49, blk aG [nV aA.params, nV aA.regs, sV aD aE aA.blocks.length aC] 49, ow [sV aD aE aA.blocks.length aC] (aH.1.set (aI).toNat aB)]) [1, 2, 3] rfl rfl
           rw [set_same aK] at hm
           refine gR (gF fo_49_2 rfl (gL hm 1 isAgg47 rfl (gM rfl ?_)))
           obtain ⟨cD, cE, cF, cG, cH, cI, cJ⟩ := rk_Block_ (hm.ow_rep 2 rfl) aK
           have hL8_1 := rep_slice_len (hm.ow_rep 2 rfl)
           refine gI st_47 ai (idx_lt2 aK hL8_1) rfl (gF fo_63_4 rfl ?_)
           obtain ⟨aq, ar, cK, hm⟩ := pin_Block_ hm 2 rfl aK
           refine gY (yl isAgg43 ((hm.holeE_at 5 rfl).cell (j := 4) rfl) rfl) (gM rfl (gM rfl (gg fun cL bK af => ?_)))
           obtain ⟨au, av, aw, he⟩ := idx_form (hm.ow_rep 0 rfl) af
           subst he
           refine gI st_43 bK (idx_lt af) rfl (gf0 rfl (fun a hf => e_setElem (x1 := aL) (j := 0) (vs := [nV aL]) 0 hf hm rfl af rfl sizeOf3 rfl rfl rfl (one_cons rfl one_nil) rfl rfl) ?_)
           rintro _ w hm
           have cM := List.getElem?_set_self (a := aL) (idx_lt af)
           refine gE ?_
           replace hm := (mk_Block_ aB.jump aB.on hm 2 1 0 rfl).pk (L' := [ow [aq, ar, nV aB.jump, nV aB.on, sV au av aB.next_.length aw] ((⟨aB.phis, aB.ins, aB.jump, aB.on, (aB.next_.set (aH.2).toNat aL)⟩ : Block_) : Block_), blk aF [nV 0, nV 0, .slice none 0 0] 49, blk aG [nV aA.params, nV aA.regs, sV aD aE aA.blocks.length aC] 49, holeE aD aE aA.blocks.length aC (aH.1 : List Block_) (aI).toNat [aq, ar, nV aB.jump, nV aB.on, sV au av aB.next_.length aw]]) [2, 3, 4, 5] rfl rfl
           replace hm := (hm.shutE (y := ((⟨aB.phis, aB.ins, aB.jump, aB.on, (aB.next_.set (aH.2).toNat aL)⟩ : Block_) : Block_)) 3 0 (by decide) rfl rfl).pk (L' := [blk aF [nV 0, nV 0, .slice none 0 0] 49, blk aG [nV aA.params, nV aA.regs, sV aD aE aA.blocks.length aC] 49, ow [sV aD aE aA.blocks.length aC] (aH.1.set (aI).toNat (⟨aB.phis, aB.ins, aB.jump, aB.on, (aB.next_.set (aH.2).toNat aL)⟩ : Block_))]) [1, 2, 3] rfl rfl
           have cN := List.getElem?_set_self (a := ((⟨aB.phis, aB.ins, aB.jump, aB.on, (aB.next_.set (aH.2).toNat aL)⟩ : Block_) : Block_)) (idx_lt aK)
           exact gz hm [0, 1, 2] rfl
          refine gcf rfl (gSk ?_)
          replace hm := (mk_Block_ aB.jump aB.on hm 2 1 0 rfl).pk (L' := [ow [aY, aZ, nV aB.jump, nV aB.on, sV aa ab aB.next_.length ac] (aB : Block_), blk aF [nV 0, nV 0, .slice none 0 0] 49, blk aG [nV aA.params, nV aA.regs, sV aD aE aA.blocks.length aC] 49, holeE aD aE aA.blocks.length aC (aH.1 : List Block_) (aI).toNat [aY, aZ, nV aB.jump, nV aB.on, sV aa ab aB.next_.length ac]]) [2, 3, 4, 5] rfl rfl
          replace hm := (hm.shutE (y := (aB : Block_)) 3 0 (by decide) rfl rfl).pk (L' := [blk aF [nV 0, nV 0, .slice none 0 0] 49, blk aG [nV aA.params, nV aA.regs, sV aD aE aA.blocks.length aC] 49, ow [sV aD aE aA.blocks.length aC] (aH.1.set (aI).toNat aB)]) [1, 2, 3] rfl rfl
          rw [set_same aK] at hm
          exact gz hm [0, 1, 2] rfl
         repeat clear hm
         intro ae w hm
         exact gz hm [0, 1, 2] rfl
        repeat clear hm
        intro aX w hm
        exact gR (gM rfl (gB rfl (gA rfl (gE (gze hm [0, 1, 2] rfl)))))
       refine gcf rfl (gXt (gHh ?_))
       replace hm := (mk_Block_ aB.jump aB.on hm 2 1 0 rfl).pk (L' := [ow [aS, aT, nV aB.jump, nV aB.on, .slice aV aB.next_.length aW] (aB : Block_), blk aF [nV 0, nV 0, .slice none 0 0] 49, blk aG [nV aA.params, nV aA.regs, sV aD aE aA.blocks.length aC] 49, holeE aD aE aA.blocks.length aC (aH.1 : List Block_) (aI).toNat [aS, aT, nV aB.jump, nV aB.on, .slice aV aB.next_.length aW]]) [2, 3, 4, 5] rfl rfl
       replace hm := (hm.shutE (y := (aB : Block_)) 3 0 (by decide) rfl rfl).pk (L' := [blk aF [nV 0, nV 0, .slice none 0 0] 49, blk aG [nV aA.params, nV aA.regs, sV aD aE aA.blocks.length aC] 49, ow [sV aD aE aA.blocks.length aC] (aH.1.set (aI).toNat aB)]) [1, 2, 3] rfl rfl
       rw [set_same aK] at hm
       exact gLp bE bD (gz hm [0, 1, 2] rfl)
      repeat clear hm
      intro aR w hm
      exact gR (gM rfl (gP (by omega) (by omega) rfl (gA rfl (gE (gze hm [0, 1, 2] rfl)))))
     repeat clear hm
     intro cO cP w hm cQ cR
     refine gS (gS (gR (gM rfl (gF fo_49_2 rfl (gL hm 1 isAgg47 rfl ?_)))))
     have cS := rep_len (hm.ow_rep 2 rfl)
     exact gY (yV st_47 rfl) (gB rfl (gE (go _ 33 rfl (decide_eq_false (by omega)) (gcf rfl (gXt (gHh (gR (gA rfl (gE (gz hm [0, 1, 2] rfl))))))))))
    repeat clear hm
    intro aP w hm
    exact gR (gM rfl (gB rfl (gA rfl (gE (gze hm [0, 1, 2] rfl)))))
   exact gcf rfl (gXt (gHh (gLp ay ax (gz hm [0, 1, 2] rfl))))
  repeat clear hm
  intro aO w hm
  refine gS (gR (gY (yn (hm.blk_at 1 rfl) isAgg49 sizeOf49 rfl) (gCg rfl call187 (spec_l10Drop_ok _ (⟨aA.params, aA.regs, aO⟩ : Code_) (.slice aN aA.blocks.length aC) (hm.ow_rep 2 rfl)) ?_)))
  rintro cT cU cV w ⟨bL, rfl, hB⟩
  replace hm := hm.give hB; clear hB
  exact gSN hm 1 sizeOf49 (one_cons rfl (one_cons rfl (one_cons (rep_one (hm.ow_rep 0 rfl)) one_nil))) rfl fun w hm => gE (gRt (grc 1 results196 hm rfl isAgg49 sizeOf49 ⟨bL, rfl, hm.pk [0] rfl rfl⟩))
theorem spec_l18Next_ok (w0 : World) (c_ : Code_) (v1 : Value) (h1 : GT.rep (hp w0) [v1] c_.blocks) (b_ : Int) :
    ConM Tryz.prog 270 [(.agg #[nV c_.params, nV c_.regs, v1]), nV b_] w0 (spec_l18Next c_ b_) fun r v w' => v = (nV r) ∧ Below w0.heap.size w0 w' := by
  unfold spec_l18Next
  refine gcon func270 rfl fun r => ?_
  have hm := Mem.start w0
  refine gS (gR (gBx hm rfl fun aX w hm => gA rfl (gE (gS (gR (gF fo_49_2 rfl (gL hm 0 isAgg47 rfl (gM rfl (gg fun aY aG aB => ?_)))))))))
  obtain ⟨aH, aI, aJ, he⟩ := idx_form' h1 aB
  subst he
  obtain ⟨aZ, aa, ab, aK, aL, aM, aC⟩ := rk_Block_ h1 aB
  refine gI st_47 aG (idx_lt aB) rfl (gY (yn (aK.mono hm.lez) isAgg63 sizeOf63 rfl) (gAl hm zeroValue63 rfl fun ac w hm => gSN hm 0 sizeOf63 (one_cons (rep_one aL) (one_cons (rep_one aM) (one_cons rfl (one_cons rfl (one_cons (rep_one aC) one_nil))))) rfl fun w hm => gE (gS (gS (gR (gF fo_63_2 rfl (gL hm 0 isAgg3 rfl (gB rfl (gE (gsd 14 rfl (fun aN => ?_) fun aN => ?_))))))))))
  ·exact gct rfl (gS (gR (gA rfl (gE (gRt (gr1 results270 rfl ⟨rfl, hm.below⟩))))))
  refine gcf rfl (gSk (gS (gR (gF fo_63_4 rfl (gL hm 0 isAgg43 rfl (gg fun aD aO aE => ?_))))))
  obtain ⟨ae, af, ag, he⟩ := idx_form aC aE
  subst he
  refine gI st_43 aO (idx_lt aE) rfl (gY (yl isAgg3 ((flat_cells (cs := [nV aD]) (hm.now aC) aE rfl).cell (j := 0) rfl) rfl) (gA rfl (gE (gS (gS (gJ hm (fun aA => [(6, (nV aD)), (42, (.bool (aA)))]) (fun aA => []) (fun aA => ?_) ?_))))))
  ·refine gR (gM rfl (gM rfl (gB rfl (gM rfl (gsd 22 rfl (fun aP => ?_) fun aP => ?_)))))
   ·exact gO rfl (gO rfl (gKt rfl (gM rfl (gO rfl (gO rfl (gO rfl (gO rfl (gO rfl (gO rfl (gO rfl (gO rfl (gKt rfl (gM rfl (gO rfl (gO rfl (gO rfl (gO rfl (gO rfl (gKt rfl (gE (gz hm [] rfl)))))))))))))))))))))
   refine gM rfl (gB rfl (gKf rfl (gM rfl (gsd 26 rfl (fun aQ => ?_) fun aQ => ?_))))
   ·exact gO rfl (gO rfl (gO rfl (gO rfl (gO rfl (gO rfl (gO rfl (gO rfl (gKt rfl (gM rfl (gO rfl (gO rfl (gO rfl (gO rfl (gO rfl (gKt rfl (gE (gz hm [] rfl)))))))))))))))))
   refine gF fo_49_2 rfl (gL hm 1 isAgg47 rfl (gM rfl (gg fun ah aR aF => ?_)))
   obtain ⟨ai, aj, ak, aS, aT, am, an⟩ := rk_Block_ h1 aF
   refine gI st_47 aR (idx_lt aF) rfl (gF fo_63_0 rfl (gY (yl isAgg60 ((aS.mono hm.lez).cell (j := 0) rfl) rfl) ?_))
   obtain ⟨ao, ap, rfl, aq⟩ := ro_slice aT
   refine gY (yV st_60 rfl) (gB rfl (gKf rfl (gM rfl (gsd 36 rfl (fun aV => ?_) fun aV => ?_))))
   ·exact gO rfl (gO rfl (gO rfl (gO rfl (gO rfl (gKt rfl (gE (gz hm [] rfl)))))))
   refine gY (yn (hm.blk_at 1 rfl) isAgg49 sizeOf49 rfl) (gM rfl (gCg rfl call129 (spec_l7Preds_ok _ c_ (sV aH aI c_.blocks.length aJ) (hm.now h1) aD) ?_))
   rintro ar au av w ⟨_, rfl, hB⟩
   replace hm := hm.give hB; clear hB
   obtain ⟨aw, ax, rfl, ay⟩ := ro_slice (hm.ow_rep 0 rfl)
   exact gY (yV st_43 rfl) (gB rfl (gKf rfl (gE (gz hm [] rfl))))
  repeat clear hm
  intro aA w hm
  refine gs 42 rfl (fun aW => ?_) fun aW => ?_
  ·exact gct rfl (gS (gR (gA rfl (gE (gRt (gr1 results270 rfl ⟨rfl, hm.below⟩))))))
  exact gcf rfl (gSk (gS (gR (gM rfl (gA rfl (gE (gRt (gr1 results270 rfl ⟨rfl, hm.below⟩))))))))
end Go.Proofs.YtabgclojkbijbaaGreat
