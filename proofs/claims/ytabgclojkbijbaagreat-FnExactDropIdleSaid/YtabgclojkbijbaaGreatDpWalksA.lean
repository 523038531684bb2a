/- A part of the proof of FnExactDropIdleSaid. -/
import Derived.Test.YtabgclojkbijbaaGreatDpModels
import Derived.Test.YtabgclojkbijbaaGreatChecked
import Derived.Test.YtabgclojkbijbaaGreatDpLays
import Derived.Test.YtabgclojkbijbaaGreatWkAd
namespace Go.Proofs.YtabgclojkbijbaaGreat
open Go Go.Wk Go.RowKit
set_option maxRecDepth 4000
set_option maxHeartbeats 4000000
open Tryz
theorem mxo : Tryz.prog.follows .mixedOrders = true := by kernel_rfl
theorem fo_24_0 : FieldOff Tryz.prog 24 0 0 := by have h := FieldOff.mk (k := 0) underlying24 rfl sizeOf22; exact h
theorem fo_28_0 : FieldOff Tryz.prog 28 0 0 := by have h := FieldOff.mk (k := 0) underlying28 rfl sizeOf26; exact h
theorem fo_49_0 : FieldOff Tryz.prog 49 0 0 := by have h := FieldOff.mk (k := 0) underlying49 rfl sizeOf3; exact h
theorem fo_49_1 : FieldOff Tryz.prog 49 1 1 := by have h := FieldOff.mk (k := 1) underlying49 rfl sizeOf3; exact h
theorem fo_49_2 : FieldOff Tryz.prog 49 2 2 := by have h := FieldOff.mk (k := 2) underlying49 rfl sizeOf47; exact h
theorem fo_63_0 : FieldOff Tryz.prog 63 0 0 := by have h := FieldOff.mk (k := 0) underlying63 rfl sizeOf60; exact h
theorem fo_63_1 : FieldOff Tryz.prog 63 1 1 := by have h := FieldOff.mk (k := 1) underlying63 rfl sizeOf61; exact h
theorem fo_63_2 : FieldOff Tryz.prog 63 2 2 := by have h := FieldOff.mk (k := 2) underlying63 rfl sizeOf3; exact h
theorem fo_63_3 : FieldOff Tryz.prog 63 3 3 := by have h := FieldOff.mk (k := 3) underlying63 rfl sizeOf3; exact h
theorem fo_63_4 : FieldOff Tryz.prog 63 4 4 := by have h := FieldOff.mk (k := 4) underlying63 rfl sizeOf43; exact h
theorem fo_65_0 : FieldOff Tryz.prog 65 0 0 := by have h := FieldOff.mk (k := 0) underlying65 rfl sizeOf3; exact h
theorem fo_65_1 : FieldOff Tryz.prog 65 1 1 := by have h := FieldOff.mk (k := 1) underlying65 rfl sizeOf3; exact h
theorem fo_65_2 : FieldOff Tryz.prog 65 2 2 := by have h := FieldOff.mk (k := 2) underlying65 rfl sizeOf43; exact h
theorem fo_65_3 : FieldOff Tryz.prog 65 3 3 := by have h := FieldOff.mk (k := 3) underlying65 rfl sizeOf3; exact h
theorem fo_88_0 : FieldOff Tryz.prog 88 0 0 := by have h := FieldOff.mk (k := 0) underlying88 rfl sizeOf3; exact h
theorem fo_88_1 : FieldOff Tryz.prog 88 1 1 := by have h := FieldOff.mk (k := 1) underlying88 rfl sizeOf3; exact h
theorem fo_88_2 : FieldOff Tryz.prog 88 2 2 := by have h := FieldOff.mk (k := 2) underlying88 rfl sizeOf86; exact h
theorem fo_93_0 : FieldOff Tryz.prog 93 0 0 := by have h := FieldOff.mk (k := 0) underlying93 rfl sizeOf45; exact h
theorem fo_93_1 : FieldOff Tryz.prog 93 1 1 := by have h := FieldOff.mk (k := 1) underlying93 rfl sizeOf45; exact h
theorem fo_109_0 : FieldOff Tryz.prog 109 0 0 := by have h := FieldOff.mk (k := 0) underlying109 rfl sizeOf49; exact h
theorem fo_109_1 : FieldOff Tryz.prog 109 1 3 := by have h := FieldOff.mk (k := 1) underlying109 rfl sizeOf107; exact h
theorem fo_109_2 : FieldOff Tryz.prog 109 2 4 := by have h := FieldOff.mk (k := 2) underlying109 rfl sizeOf68; exact h
theorem fo_127_0 : FieldOff Tryz.prog 127 0 0 := by have h := FieldOff.mk (k := 0) underlying127 rfl sizeOf3; exact h
theorem fo_127_1 : FieldOff Tryz.prog 127 1 1 := by have h := FieldOff.mk (k := 1) underlying127 rfl sizeOf43; exact h
theorem fo_198_0 : FieldOff Tryz.prog 198 0 0 := by have h := FieldOff.mk (k := 0) underlying198 rfl sizeOf195; exact h
theorem fo_198_1 : FieldOff Tryz.prog 198 1 1 := by have h := FieldOff.mk (k := 1) underlying198 rfl sizeOf196; exact h
theorem fo_198_2 : FieldOff Tryz.prog 198 2 2 := by have h := FieldOff.mk (k := 2) underlying198 rfl sizeOf3; exact h
theorem fo_198_3 : FieldOff Tryz.prog 198 3 3 := by have h := FieldOff.mk (k := 3) underlying198 rfl sizeOf3; exact h
theorem fo_198_4 : FieldOff Tryz.prog 198 4 4 := by have h := FieldOff.mk (k := 4) underlying198 rfl sizeOf43; exact h
theorem fo_275_0 : FieldOff Tryz.prog 275 0 0 := by have h := FieldOff.mk (k := 0) underlying275 rfl sizeOf3; exact h
theorem fo_275_1 : FieldOff Tryz.prog 275 1 1 := by have h := FieldOff.mk (k := 1) underlying275 rfl sizeOf43; exact h
theorem fo_277_0 : FieldOff Tryz.prog 277 0 0 := by have h := FieldOff.mk (k := 0) underlying277 rfl sizeOf3; exact h
theorem fo_277_1 : FieldOff Tryz.prog 277 1 1 := by have h := FieldOff.mk (k := 1) underlying277 rfl sizeOf3; exact h
theorem fo_277_2 : FieldOff Tryz.prog 277 2 2 := by have h := FieldOff.mk (k := 2) underlying277 rfl sizeOf43; exact h
theorem fo_277_3 : FieldOff Tryz.prog 277 3 3 := by have h := FieldOff.mk (k := 3) underlying277 rfl sizeOf3; exact h
theorem st_22 : SliceTy Tryz.prog 22 88 3 := ⟨underlying22, sizeOf88⟩
theorem st_26 : SliceTy Tryz.prog 26 49 3 := ⟨underlying26, sizeOf49⟩
theorem st_43 : SliceTy Tryz.prog 43 3 1 := ⟨underlying43, sizeOf3⟩
theorem st_45 : SliceTy Tryz.prog 45 90 1 := ⟨underlying45, sizeOf90⟩
theorem st_47 : SliceTy Tryz.prog 47 63 5 := ⟨underlying47, sizeOf63⟩
theorem st_60 : SliceTy Tryz.prog 60 127 2 := ⟨underlying60, sizeOf127⟩
theorem st_61 : SliceTy Tryz.prog 61 65 4 := ⟨underlying61, sizeOf65⟩
theorem st_68 : SliceTy Tryz.prog 68 43 1 := ⟨underlying68, sizeOf43⟩
theorem st_86 : SliceTy Tryz.prog 86 198 5 := ⟨underlying86, sizeOf198⟩
theorem st_90 : SliceTy Tryz.prog 90 4 1 := ⟨underlying90, sizeOf4⟩
theorem st_107 : SliceTy Tryz.prog 107 106 1 := ⟨underlying107, sizeOf106⟩
theorem st_195 : SliceTy Tryz.prog 195 275 2 := ⟨underlying195, sizeOf275⟩
theorem st_196 : SliceTy Tryz.prog 196 277 4 := ⟨underlying196, sizeOf277⟩
theorem et_26 : ElemTy Tryz.prog 26 49 3 (.agg #[(.int .i64 (0)), (.int .i64 (0)), (.slice none 0 0)]) := ⟨underlying26, ⟨_, (by kernel_rfl : Tryz.prog.info? 49 = some t49), rfl, by decide, rfl⟩, rfl, by decide⟩
theorem et_43 : ElemTy Tryz.prog 43 3 1 (.int .i64 (0)) := ⟨underlying43, ⟨_, (by kernel_rfl : Tryz.prog.info? 3 = some t3), rfl, by decide, rfl⟩, rfl, by decide⟩
theorem et_45 : ElemTy Tryz.prog 45 90 1 (.slice none 0 0) := ⟨underlying45, ⟨_, (by kernel_rfl : Tryz.prog.info? 90 = some t90), rfl, by decide, rfl⟩, rfl, by decide⟩
theorem et_47 : ElemTy Tryz.prog 47 63 5 (.agg #[(.slice none 0 0), (.slice none 0 0), (.int .i64 (0)), (.int .i64 (0)), (.slice none 0 0)]) := ⟨underlying47, ⟨_, (by kernel_rfl : Tryz.prog.info? 63 = some t63), rfl, by decide, rfl⟩, rfl, by decide⟩
theorem et_60 : ElemTy Tryz.prog 60 127 2 (.agg #[(.int .i64 (0)), (.slice none 0 0)]) := ⟨underlying60, ⟨_, (by kernel_rfl : Tryz.prog.info? 127 = some t127), rfl, by decide, rfl⟩, rfl, by decide⟩
theorem et_61 : ElemTy Tryz.prog 61 65 4 (.agg #[(.int .i64 (0)), (.int .i64 (0)), (.slice none 0 0), (.int .i64 (0))]) := ⟨underlying61, ⟨_, (by kernel_rfl : Tryz.prog.info? 65 = some t65), rfl, by decide, rfl⟩, rfl, by decide⟩
theorem et_68 : ElemTy Tryz.prog 68 43 1 (.slice none 0 0) := ⟨underlying68, ⟨_, (by kernel_rfl : Tryz.prog.info? 43 = some t43), rfl, by decide, rfl⟩, rfl, by decide⟩
theorem et_90 : ElemTy Tryz.prog 90 4 1 (.bool (false)) := ⟨underlying90, ⟨_, (by kernel_rfl : Tryz.prog.info? 4 = some t4), rfl, by decide, rfl⟩, rfl, by decide⟩
theorem et_107 : ElemTy Tryz.prog 107 106 1 (.map none) := ⟨underlying107, ⟨_, (by kernel_rfl : Tryz.prog.info? 106 = some t106), rfl, by decide, rfl⟩, rfl, by decide⟩
theorem laws_szIntS_ok (w0 : World) (a_ : List Int) (v1 : Value) (h1 : GT.rep (hp w0) [v1] a_) (left : Int) :
    ConM Tryz.prog 299 [v1, (nV left)] w0 (laws_szIntS a_ left) fun r v w' => v = (nV r) ∧ Below w0.heap.size w0 w' := by
  unfold laws_szIntS
  refine gcon func299 rfl fun r => ?_
  have hm := Mem.start w0
  refine gS (gR (gA rfl (gE (gS (gR (gM rfl (gM rfl ?_)))))))
  obtain ⟨aB, aC, rfl, aD⟩ := ro_slice h1
  refine gY (yV st_43 rfl) (gB rfl (gA rfl (gE (gS (gS (gR (gM rfl (gB rfl (gE (gsd 10 rfl (fun aA => ?_) fun aA => ?_))))))))))
  ·
   exact gct rfl (gS (gR (gA rfl (gE (gRt (gr1 results299 rfl ⟨rfl, hm.below⟩))))))
  exact gcf rfl (gSk (gS (gR (gM rfl (gA rfl (gE (gRt (gr1 results299 rfl ⟨rfl, hm.below⟩))))))))
theorem laws_szPhi_ok (w0 : World) (a_ : Phi_) (v1 : Value) (h1 : GT.rep (hp w0) [v1] a_.args) (left : Int) :
    ConM Tryz.prog 334 [(.agg #[(nV a_.to), v1]), (nV left)] w0 (laws_szPhi a_ left) fun r v w' => v = (nV r) ∧ Below w0.heap.size w0 w' := by
  unfold laws_szPhi
  refine gcon func334 rfl fun r => ?_
  have hm := Mem.start w0
  refine gS (gR (gBx hm rfl fun aB w hm => gA rfl (gE (gS (gR (gF fo_275_1 rfl (gL hm 0 isAgg43 rfl (gM rfl (gC hm rfl call299 (laws_szIntS_ok _ a_.args v1 (hm.now h1) left) fun aC aD w hm => gA rfl (gE (gS (gS (gR (gM rfl (gB rfl (gE (gsd 10 rfl (fun aA => ?_) fun aA => ?_)))))))))))))))))
  ·
   exact gct rfl (gS (gR (gA rfl (gE (gRt (gr1 results334 rfl ⟨rfl, hm.below⟩))))))
  exact gcf rfl (gSk (gS (gR (gM rfl (gA rfl (gE (gRt (gr1 results334 rfl ⟨rfl, hm.below⟩))))))))
theorem laws_szPhiS_ok (w0 : World) (a_ : List Phi_) (v1 : Value) (h1 : GT.rep (hp w0) [v1] a_) (left : Int) :
    ConM Tryz.prog 297 [v1, (nV left)] w0 (laws_szPhiS a_ left) fun r v w' => v = (nV r) ∧ Below w0.heap.size w0 w' := by
  unfold laws_szPhiS
  refine gcon func297 rfl fun r => ?_
  have hm := Mem.start w0
  refine gS (gR (gA rfl (gE (gS (gR (gM rfl (gM rfl ?_)))))))
  obtain ⟨aD, aE, rfl, aO⟩ := ro_slice h1
  refine gY (yV st_195 rfl) (gB rfl (gA rfl (gE (gS (gS (gR (gM rfl (gB rfl (gE (gsd 11 rfl (fun aF => ?_) fun aF => ?_))))))))))
  ·
   exact gct rfl (gS (gR (gA rfl (gE (gRt (gr1 results297 rfl ⟨rfl, hm.below⟩))))))
  refine gcf rfl (gSk (gS (gS (gR (gA rfl (gE (gBk (gNg (fun aC aA a w => 0 ≤ aA ∧ St 27 [(0, (.slice aD a_.length aE)), (1, (nV aA)), (5, (nV aC))] w0 (hp w0) [] a w) (fun a hf => ⟨(by first | omega | (dsimp only; omega)), hf.sb rfl, hm.pk [] rfl rfl⟩) ?_ ?_))))))))
  ·
   repeat clear hm
   rintro aP aG aC aA a w ⟨aQ, hf, hm⟩ aR aS aT aH
   refine gv hf (gS (gS (gR (gM rfl (gM rfl (gY (yV st_195 rfl) (gB rfl (gE (go _ 15 rfl (decide_eq_true (by omega)) (gct rfl (gSk (gS (gBk (gS (gR (gM rfl (gM rfl (gg fun aI aJ aB => ?_))))))))))))))))))
   obtain ⟨aV, aW, aX, he⟩ := idx_form' h1 aB
   obtain ⟨rfl, _, rfl⟩ := sl3 he
   obtain ⟨aK, aL, aM⟩ := rk_Phi_ h1 aB
   refine gI st_195 aJ (idx_lt aB) rfl (gY (yn (aL.mono hm.lez) isAgg275 sizeOf275 rfl) (gM rfl (gC hm rfl call334 (laws_szPhi_ok _ aI aK (hm.now aM) aA) fun aY aZ w hm => gA rfl (gE (gS (gR (gM rfl (gB rfl (gE (gsd 25 rfl (fun aN => ?_) fun aN => ?_))))))))))
   ·
    exact gct rfl (gS (gR (gA rfl (gE (gRt (gLr aH aG (gr1 results297 rfl ⟨rfl, hm.below⟩)))))))
   exact gcf rfl (gSk (gR (gM rfl (gP (by omega) (by omega) rfl (gA rfl (gE (gZe fun a hf => ⟨(by first | omega | (dsimp only; omega)), hf.sb rfl, hm.pk [] rfl rfl⟩)))))))
  repeat clear hm
  rintro aa ab a w ⟨ac, hf, hm⟩ ae af
  exact gv hf (gS (gS (gR (gM rfl (gM rfl (gY (yV st_195 rfl) (gB rfl (gE (go _ 15 rfl (decide_eq_false (by omega)) (gcf rfl (gXt (gHh (gS (gR (gM rfl (gA rfl (gE (gRt (gr1 results297 rfl ⟨rfl, hm.below⟩)))))))))))))))))))
theorem laws_szIns_ok (w0 : World) (a_ : Ins_) (v1 : Value) (h1 : GT.rep (hp w0) [v1] a_.args) (left : Int) :
    ConM Tryz.prog 335 [(.agg #[(nV a_.op), (nV a_.to), v1, (nV a_.n_)]), (nV left)] w0 (laws_szIns a_ left) fun r v w' => v = (nV r) ∧ Below w0.heap.size w0 w' := by
  unfold laws_szIns
  refine gcon func335 rfl fun r => ?_
  have hm := Mem.start w0
  refine gS (gR (gBx hm rfl fun aB w hm => gA rfl (gE (gS (gR (gF fo_277_2 rfl (gL hm 0 isAgg43 rfl (gM rfl (gC hm rfl call299 (laws_szIntS_ok _ a_.args v1 (hm.now h1) left) fun aC aD w hm => gA rfl (gE (gS (gS (gR (gM rfl (gB rfl (gE (gsd 10 rfl (fun aA => ?_) fun aA => ?_)))))))))))))))))
  ·
   exact gct rfl (gS (gR (gA rfl (gE (gRt (gr1 results335 rfl ⟨rfl, hm.below⟩))))))
  exact gcf rfl (gSk (gS (gR (gM rfl (gA rfl (gE (gRt (gr1 results335 rfl ⟨rfl, hm.below⟩))))))))
theorem laws_szInsS_ok (w0 : World) (a_ : List Ins_) (v1 : Value) (h1 : GT.rep (hp w0) [v1] a_) (left : Int) :
    ConM Tryz.prog 298 [v1, (nV left)] w0 (laws_szInsS a_ left) fun r v w' => v = (nV r) ∧ Below w0.heap.size w0 w' := by
  unfold laws_szInsS
  refine gcon func298 rfl fun r => ?_
  have hm := Mem.start w0
  refine gS (gR (gA rfl (gE (gS (gR (gM rfl (gM rfl ?_)))))))
  obtain ⟨aD, aE, rfl, aO⟩ := ro_slice h1
  refine gY (yV st_196 rfl) (gB rfl (gA rfl (gE (gS (gS (gR (gM rfl (gB rfl (gE (gsd 11 rfl (fun aF => ?_) fun aF => ?_))))))))))
  ·
   exact gct rfl (gS (gR (gA rfl (gE (gRt (gr1 results298 rfl ⟨rfl, hm.below⟩))))))
  refine gcf rfl (gSk (gS (gS (gR (gA rfl (gE (gBk (gNg (fun aC aA a w => 0 ≤ aA ∧ St 27 [(0, (.slice aD a_.length aE)), (1, (nV aA)), (5, (nV aC))] w0 (hp w0) [] a w) (fun a hf => ⟨(by first | omega | (dsimp only; omega)), hf.sb rfl, hm.pk [] rfl rfl⟩) ?_ ?_))))))))
  ·
   repeat clear hm
   rintro aP aG aC aA a w ⟨aQ, hf, hm⟩ aR aS aT aH
   refine gv hf (gS (gS (gR (gM rfl (gM rfl (gY (yV st_196 rfl) (gB rfl (gE (go _ 15 rfl (decide_eq_true (by omega)) (gct rfl (gSk (gS (gBk (gS (gR (gM rfl (gM rfl (gg fun aI aJ aB => ?_))))))))))))))))))
   obtain ⟨aV, aW, aX, he⟩ := idx_form' h1 aB
   obtain ⟨rfl, _, rfl⟩ := sl3 he
   obtain ⟨aK, aL, aM⟩ := rk_Ins_ h1 aB
   refine gI st_196 aJ (idx_lt aB) rfl (gY (yn (aL.mono hm.lez) isAgg277 sizeOf277 rfl) (gM rfl (gC hm rfl call335 (laws_szIns_ok _ aI aK (hm.now aM) aA) fun aY aZ w hm => gA rfl (gE (gS (gR (gM rfl (gB rfl (gE (gsd 25 rfl (fun aN => ?_) fun aN => ?_))))))))))
   ·
    exact gct rfl (gS (gR (gA rfl (gE (gRt (gLr aH aG (gr1 results298 rfl ⟨rfl, hm.below⟩)))))))
   exact gcf rfl (gSk (gR (gM rfl (gP (by omega) (by omega) rfl (gA rfl (gE (gZe fun a hf => ⟨(by first | omega | (dsimp only; omega)), hf.sb rfl, hm.pk [] rfl rfl⟩)))))))
  repeat clear hm
  rintro aa ab a w ⟨ac, hf, hm⟩ ae af
  exact gv hf (gS (gS (gR (gM rfl (gM rfl (gY (yV st_196 rfl) (gB rfl (gE (go _ 15 rfl (decide_eq_false (by omega)) (gcf rfl (gXt (gHh (gS (gR (gM rfl (gA rfl (gE (gRt (gr1 results298 rfl ⟨rfl, hm.below⟩)))))))))))))))))))
theorem laws_szBlock_ok (w0 : World) (a_ : Block_) (v1 : Value) (h1 : GT.rep (hp w0) [v1] a_.phis) (v2 : Value) (h2 : GT.rep (hp w0) [v2] a_.ins) (v3 : Value) (h3 : GT.rep (hp w0) [v3] a_.next_) (left : Int) :
    ConM Tryz.prog 233 [(.agg #[v1, v2, (nV a_.jump), (nV a_.on), v3]), (nV left)] w0 (laws_szBlock a_ left) fun r v w' => v = (nV r) ∧ Below w0.heap.size w0 w' := by
  unfold laws_szBlock
  refine gcon func233 rfl fun r => ?_
  have hm := Mem.start w0
  refine gS (gR (gBx hm rfl fun aF w hm => gA rfl (gE (gS (gR (gF fo_198_0 rfl (gL hm 0 isAgg195 rfl (gM rfl (gC hm rfl call297 (laws_szPhiS_ok _ a_.phis v1 (hm.now h1) left) fun aA aG w hm => gA rfl (gE (gS (gS (gR (gM rfl (gB rfl (gE (gsd 10 rfl (fun aB => ?_) fun aB => ?_)))))))))))))))))
  ·
   exact gct rfl (gS (gR (gA rfl (gE (gRt (gr1 results233 rfl ⟨rfl, hm.below⟩))))))
  refine gcf rfl (gSk (gS (gR (gF fo_198_1 rfl (gL hm 0 isAgg196 rfl (gM rfl (gC hm rfl call298 (laws_szInsS_ok _ a_.ins v2 (hm.now h2) aA) fun aC aH w hm => gA rfl (gE (gS (gS (gR (gM rfl (gB rfl (gE (gsd 16 rfl (fun aD => ?_) fun aD => ?_)))))))))))))))
  ·
   exact gct rfl (gS (gR (gA rfl (gE (gRt (gr1 results233 rfl ⟨rfl, hm.below⟩))))))
  refine gcf rfl (gSk (gS (gR (gF fo_198_4 rfl (gL hm 0 isAgg43 rfl (gM rfl (gC hm rfl call299 (laws_szIntS_ok _ a_.next_ v3 (hm.now h3) aC) fun aI aJ w hm => gA rfl (gE (gS (gS (gR (gM rfl (gB rfl (gE (gsd 22 rfl (fun aE => ?_) fun aE => ?_)))))))))))))))
  ·
   exact gct rfl (gS (gR (gA rfl (gE (gRt (gr1 results233 rfl ⟨rfl, hm.below⟩))))))
  exact gcf rfl (gSk (gS (gR (gM rfl (gA rfl (gE (gRt (gr1 results233 rfl ⟨rfl, hm.below⟩))))))))
theorem laws_szBlockS_ok (w0 : World) (a_ : List Block_) (v1 : Value) (h1 : GT.rep (hp w0) [v1] a_) (left : Int) :
    ConM Tryz.prog 152 [v1, (nV left)] w0 (laws_szBlockS a_ left) fun r v w' => v = (nV r) ∧ Below w0.heap.size w0 w' := by
  unfold laws_szBlockS
  refine gcon func152 rfl fun r => ?_
  have hm := Mem.start w0
  refine gS (gR (gA rfl (gE (gS (gR (gM rfl (gM rfl ?_)))))))
  obtain ⟨aD, aE, rfl, aS⟩ := ro_slice h1
  refine gY (yV st_86 rfl) (gB rfl (gA rfl (gE (gS (gS (gR (gM rfl (gB rfl (gE (gsd 11 rfl (fun aF => ?_) fun aF => ?_))))))))))
  ·
   exact gct rfl (gS (gR (gA rfl (gE (gRt (gr1 results152 rfl ⟨rfl, hm.below⟩))))))
  refine gcf rfl (gSk (gS (gS (gR (gA rfl (gE (gBk (gNg (fun aC aA a w => 0 ≤ aA ∧ St 27 [(0, (.slice aD a_.length aE)), (1, (nV aA)), (5, (nV aC))] w0 (hp w0) [] a w) (fun a hf => ⟨(by first | omega | (dsimp only; omega)), hf.sb rfl, hm.pk [] rfl rfl⟩) ?_ ?_))))))))
  ·
   repeat clear hm
   rintro aT aG aC aA a w ⟨aV, hf, hm⟩ aW aX aY aH
   refine gv hf (gS (gS (gR (gM rfl (gM rfl (gY (yV st_86 rfl) (gB rfl (gE (go _ 15 rfl (decide_eq_true (by omega)) (gct rfl (gSk (gS (gBk (gS (gR (gM rfl (gM rfl (gg fun aI aJ aB => ?_))))))))))))))))))
   obtain ⟨aZ, aa, ab, he⟩ := idx_form' h1 aB
   obtain ⟨rfl, _, rfl⟩ := sl3 he
   obtain ⟨aK, aL, aM, aN, aO, aP, aQ⟩ := rk_Block_ h1 aB
   refine gI st_86 aJ (idx_lt aB) rfl (gY (yn (aN.mono hm.lez) isAgg198 sizeOf198 rfl) (gM rfl (gC hm rfl call233 (laws_szBlock_ok _ aI aK (hm.now aO) aL (hm.now aP) aM (hm.now aQ) aA) fun ac ae w hm => gA rfl (gE (gS (gR (gM rfl (gB rfl (gE (gsd 25 rfl (fun aR => ?_) fun aR => ?_))))))))))
   ·
    exact gct rfl (gS (gR (gA rfl (gE (gRt (gLr aH aG (gr1 results152 rfl ⟨rfl, hm.below⟩)))))))
   exact gcf rfl (gSk (gR (gM rfl (gP (by omega) (by omega) rfl (gA rfl (gE (gZe fun a hf => ⟨(by first | omega | (dsimp only; omega)), hf.sb rfl, hm.pk [] rfl rfl⟩)))))))
  repeat clear hm
  rintro af ah a w ⟨ai, hf, hm⟩ aj ak
  exact gv hf (gS (gS (gR (gM rfl (gM rfl (gY (yV st_86 rfl) (gB rfl (gE (go _ 15 rfl (decide_eq_false (by omega)) (gcf rfl (gXt (gHh (gS (gR (gM rfl (gA rfl (gE (gRt (gr1 results152 rfl ⟨rfl, hm.below⟩)))))))))))))))))))
theorem laws_szCode_ok (w0 : World) (a_ : Code_) (v1 : Value) (h1 : GT.rep (hp w0) [v1] a_.blocks) (left : Int) :
    ConM Tryz.prog 85 [(.agg #[(nV a_.params), (nV a_.regs), v1]), (nV left)] w0 (laws_szCode a_ left) fun r v w' => v = (nV r) ∧ Below w0.heap.size w0 w' := by
  unfold laws_szCode
  refine gcon func85 rfl fun r => ?_
  have hm := Mem.start w0
  refine gS (gR (gBx hm rfl fun aB w hm => gA rfl (gE (gS (gR (gF fo_88_2 rfl (gL hm 0 isAgg86 rfl (gM rfl (gC hm rfl call152 (laws_szBlockS_ok _ a_.blocks v1 (hm.now h1) left) fun aC aD w hm => gA rfl (gE (gS (gS (gR (gM rfl (gB rfl (gE (gsd 10 rfl (fun aA => ?_) fun aA => ?_)))))))))))))))))
  ·
   exact gct rfl (gS (gR (gA rfl (gE (gRt (gr1 results85 rfl ⟨rfl, hm.below⟩))))))
  exact gcf rfl (gSk (gS (gR (gM rfl (gA rfl (gE (gRt (gr1 results85 rfl ⟨rfl, hm.below⟩))))))))
theorem laws_szCodeS_ok (w0 : World) (a_ : List Code_) (v1 : Value) (h1 : GT.rep (hp w0) [v1] a_) (left : Int) :
    ConM Tryz.prog 38 [v1, (nV left)] w0 (laws_szCodeS a_ left) fun r v w' => v = (nV r) ∧ Below w0.heap.size w0 w' := by
  unfold laws_szCodeS
  refine gcon func38 rfl fun r => ?_
  have hm := Mem.start w0
  refine gS (gR (gA rfl (gE (gS (gR (gM rfl (gM rfl ?_)))))))
  obtain ⟨aD, aE, rfl, aO⟩ := ro_slice h1
  refine gY (yV st_22 rfl) (gB rfl (gA rfl (gE (gS (gS (gR (gM rfl (gB rfl (gE (gsd 11 rfl (fun aF => ?_) fun aF => ?_))))))))))
  ·
   exact gct rfl (gS (gR (gA rfl (gE (gRt (gr1 results38 rfl ⟨rfl, hm.below⟩))))))
  refine gcf rfl (gSk (gS (gS (gR (gA rfl (gE (gBk (gNg (fun aC aA a w => 0 ≤ aA ∧ St 27 [(0, (.slice aD a_.length aE)), (1, (nV aA)), (5, (nV aC))] w0 (hp w0) [] a w) (fun a hf => ⟨(by first | omega | (dsimp only; omega)), hf.sb rfl, hm.pk [] rfl rfl⟩) ?_ ?_))))))))
  ·
   repeat clear hm
   rintro aP aG aC aA a w ⟨aQ, hf, hm⟩ aR aS aT aH
   refine gv hf (gS (gS (gR (gM rfl (gM rfl (gY (yV st_22 rfl) (gB rfl (gE (go _ 15 rfl (decide_eq_true (by omega)) (gct rfl (gSk (gS (gBk (gS (gR (gM rfl (gM rfl (gg fun aI aJ aB => ?_))))))))))))))))))
   obtain ⟨aV, aW, aX, he⟩ := idx_form' h1 aB
   obtain ⟨rfl, _, rfl⟩ := sl3 he
   obtain ⟨aK, aL, aM⟩ := rk_Code_ h1 aB
   refine gI st_22 aJ (idx_lt aB) rfl (gY (yn (aL.mono hm.lez) isAgg88 sizeOf88 rfl) (gM rfl (gC hm rfl call85 (laws_szCode_ok _ aI aK (hm.now aM) aA) fun aY aZ w hm => gA rfl (gE (gS (gR (gM rfl (gB rfl (gE (gsd 25 rfl (fun aN => ?_) fun aN => ?_))))))))))
   ·
    exact gct rfl (gS (gR (gA rfl (gE (gRt (gLr aH aG (gr1 results38 rfl ⟨rfl, hm.below⟩)))))))
   exact gcf rfl (gSk (gR (gM rfl (gP (by omega) (by omega) rfl (gA rfl (gE (gZe fun a hf => ⟨(by first | omega | (dsimp only; omega)), hf.sb rfl, hm.pk [] rfl rfl⟩)))))))
  repeat clear hm
  rintro aa ab a w ⟨ac, hf, hm⟩ ae af
  exact gv hf (gS (gS (gR (gM rfl (gM rfl (gY (yV st_22 rfl) (gB rfl (gE (go _ 15 rfl (decide_eq_false (by omega)) (gcf rfl (gXt (gHh (gS (gR (gM rfl (gA rfl (gE (gRt (gr1 results38 rfl ⟨rfl, hm.below⟩)))))))))))))))))))
theorem laws_szUnit_ok (w0 : World) (a_ : Unit_) (v1 : Value) (h1 : GT.rep (hp w0) [v1] a_.codes) (left : Int) :
    ConM Tryz.prog 13 [(.agg #[v1]), (nV left)] w0 (laws_szUnit a_ left) fun r v w' => v = (nV r) ∧ Below w0.heap.size w0 w' := by
  unfold laws_szUnit
  refine gcon func13 rfl fun r => ?_
  have hm := Mem.start w0
  refine gS (gR (gBx hm rfl fun aB w hm => gA rfl (gE (gS (gR (gF fo_24_0 rfl (gL hm 0 isAgg22 rfl (gM rfl (gC hm rfl call38 (laws_szCodeS_ok _ a_.codes v1 (hm.now h1) left) fun aC aD w hm => gA rfl (gE (gS (gS (gR (gM rfl (gB rfl (gE (gsd 10 rfl (fun aA => ?_) fun aA => ?_)))))))))))))))))
  ·
   exact gct rfl (gS (gR (gA rfl (gE (gRt (gr1 results13 rfl ⟨rfl, hm.below⟩))))))
  exact gcf rfl (gSk (gS (gR (gM rfl (gA rfl (gE (gRt (gr1 results13 rfl ⟨rfl, hm.below⟩))))))))
theorem laws_toIntS_ok (w0 : World) (a_ : List Int) (v1 : Value) (h1 : GT.rep (hp w0) [v1] a_) :
    ConM Tryz.prog 302 [v1] w0 (laws_toIntS a_) fun r v w' => ∃ (x1 : Value), v = x1 ∧ Mem w0 (hp w0) w' [ow [x1] r] := by
  unfold laws_toIntS
  refine gcon func302 rfl fun r => ?_
  have hm := Mem.start w0
  refine gS (gR (gA rfl (gE (gS (gR (gM rfl ?_))))))
  obtain ⟨aJ, aK, rfl, aQ⟩ := ro_slice h1
  refine gY (yV st_43 rfl) (gb fun aA aL => ?_)
  obtain ⟨⟨aM, aN⟩, aI⟩ := makeM_some.1 aL
  refine gf rfl (fun a hf => e_make (x0 := (0 : Int)) et_43 (fun _ => (Flat.own_iff.2 rfl)) hf hm rfl rfl rfl aM (Int.le_refl _) aN) ?_
  rintro aR w hm
  rw [aI] at hm
  have h0_1l : (aA.length : Int) = (a_.length : Int) := by rw [← aI]; simp only [List.length_replicate]; omega
  refine gA rfl (gE (gS (gS (gR (gA rfl (gE ?_))))))
  obtain ⟨aD, aE, rfl, aS⟩ := ro_slice (hm.ow_rep 0 rfl)
  refine gBk (gNf hm (fun aF aG => [(0, (.slice aJ a_.length aK)), (3, (.slice aD aA.length aE)), (4, (nV aF))]) (fun aF aG => [ow [(.slice aD aA.length aE)] aG]) [0] rfl ?_ ?_)
  ·
   repeat clear hm
   intro _ _ aF aG w hm aT aV aW _
   refine gS (gS (gR (gM rfl (gM rfl (gY (yV st_43 rfl) (gB rfl (gE (go _ 11 rfl (decide_eq_true (by omega)) (gct rfl (gSk (gS (gBk (gR (gM rfl (gM rfl (gM rfl (gM rfl (gg fun aB aO aH => ?_))))))))))))))))))
   obtain ⟨aX, aY, aZ, he⟩ := idx_form h1 aH
   obtain ⟨rfl, _, rfl⟩ := sl3 he
   refine gI st_43 aO (idx_lt aH) rfl (gY (yl isAgg3 ((flat_cells (cs := [(nV aB)]) (hm.now h1) aH rfl).cell (j := 0) rfl) rfl) (gg fun aa aP aC => ?_))
   obtain ⟨ab, ac, ae, he⟩ := idx_form (hm.ow_rep 0 rfl) aC
   obtain ⟨rfl, _, rfl⟩ := sl3 he
   have hL1_1 := rep_slice_len (hm.ow_rep 0 rfl)
   refine gI st_43 aP (idx_lt2 aC hL1_1) rfl (gf0 rfl (fun a hf => e_setElem (x1 := aB) (j := 0) (vs := [(nV aB)]) 0 hf hm rfl aC rfl sizeOf3 rfl rfl rfl (one_cons rfl one_nil) rfl rfl) ?_)
   rintro _ w hm
   have af := List.getElem?_set_self (a := aB) (idx_lt aC)
   exact gE (gR (gM rfl (gP (by omega) (by omega) rfl (gA rfl (gE (gze hm [0] rfl))))))
  repeat clear hm
  intro ah ai w hm aj ak
  exact gS (gS (gR (gM rfl (gM rfl (gY (yV st_43 rfl) (gB rfl (gE (go _ 11 rfl (decide_eq_false (by omega)) (gcf rfl (gXt (gHh (gS (gR (gM rfl (gA rfl (gE (gRt (gr1 results302 rfl ⟨(.slice aD aA.length aE), rfl, hm.pk [0] rfl rfl⟩))))))))))))))))))
theorem laws_toPhi_ok (w0 : World) (a_ : Phi_) (v1 : Value) (h1 : GT.rep (hp w0) [v1] a_.args) :
    ConM Tryz.prog 336 [(.agg #[(nV a_.to), v1])] w0 (laws_toPhi a_) fun r v w' => ∃ (x1 : Value), v = (.agg #[(nV r.to), x1]) ∧ Mem w0 (hp w0) w' [ow [x1] r.args] := by
  unfold laws_toPhi
  refine gcon func336 rfl fun r => ?_
  have hm := Mem.start w0
  refine gS (gR (gBx hm rfl fun aB w hm => gAl hm zeroValue127 rfl fun aC w hm => gE (gS (gR (gAl hm zeroValue127 rfl fun aD w hm => gE (gS (gR (gF fo_275_0 rfl (gL hm 2 isAgg3 rfl (gF fo_127_0 rfl (gS1 hm 0 sizeOf3 rfl rfl fun w hm => gE (gS (gR (gF fo_275_1 rfl (gL hm 2 isAgg43 rfl (gCg rfl call302 (laws_toIntS_ok _ a_.args v1 (hm.now h1)) ?_))))))))))))))))
  rintro aE aF aA w ⟨_, rfl, hB⟩
  replace hm := hm.give hB; clear hB
  exact gF fo_127_1 rfl (gS1 hm 1 sizeOf43 (rep_one (hm.ow_rep 0 rfl)) rfl fun w hm => gE (gS (gR (gY (yn (hm.blk_at 1 rfl) isAgg127 sizeOf127 rfl) (gSN hm 2 sizeOf127 (one_cons rfl (one_cons (rep_one (hm.ow_rep 0 rfl)) one_nil)) rfl fun w hm => gE (gRt (grc 2 results336 hm rfl isAgg127 sizeOf127 ⟨aA, rfl, hm.pk [0] rfl rfl⟩)))))))
theorem laws_toPhiS_ok (w0 : World) (a_ : List Phi_) (v1 : Value) (h1 : GT.rep (hp w0) [v1] a_) :
    ConM Tryz.prog 300 [v1] w0 (laws_toPhiS a_) fun r v w' => ∃ (x1 : Value), v = x1 ∧ Mem w0 (hp w0) w' [ow [x1] r] := by
  unfold laws_toPhiS
  refine gcon func300 rfl fun r => ?_
  have hm := Mem.start w0
  refine gS (gR (gA rfl (gE (gS (gR (gM rfl ?_))))))
  obtain ⟨aM, aN, rfl, aY⟩ := ro_slice h1
  refine gY (yV st_195 rfl) (gb fun aB aO => ?_)
  obtain ⟨⟨aP, aQ⟩, aJ⟩ := makeM_some.1 aO
  refine gf rfl (fun a hf => e_make (x0 := ((⟨0, []⟩ : Phi_) : Phi_)) et_60 (fun _ => ⟨[(nV 0)], [(.slice none 0 0)], rfl, fun _ => False, fun _ => False, fun _ h => h.elim, fun _ h => h.elim, fun _ h => h.elim, (Flat.own_iff.2 rfl), (own_list.2 (.inl ⟨rfl, rfl⟩))⟩) hf hm rfl rfl rfl aP (Int.le_refl _) aQ) ?_
  rintro aZ w hm
  rw [aJ] at hm
  have h0_1l : (aB.length : Int) = (a_.length : Int) := by rw [← aJ]; simp only [List.length_replicate]; omega
  refine gA rfl (gE (gS (gS (gR (gA rfl (gE ?_))))))
  obtain ⟨aF, aC, rfl, aa⟩ := ro_slice (hm.ow_rep 0 rfl)
  refine gBk (gNf hm (fun aG aD => [(0, (.slice aM a_.length aN)), (3, (.slice aF aB.length aC)), (4, (nV aG))]) (fun aG aD => [ow [(.slice aF aB.length aC)] aD]) [0] rfl ?_ ?_)
  ·
   repeat clear hm
   intro _ _ aG aD w hm ab ac ae _
   refine gS (gS (gR (gM rfl (gM rfl (gY (yV st_195 rfl) (gB rfl (gE (go _ 11 rfl (decide_eq_true (by omega)) (gct rfl (gSk (gS (gBk (gR (gM rfl (gM rfl (gM rfl (gM rfl (gg fun aR aS aH => ?_))))))))))))))))))
   obtain ⟨af, ah, ai, he⟩ := idx_form' h1 aH
   obtain ⟨rfl, _, rfl⟩ := sl3 he
   obtain ⟨aT, aV, aW⟩ := rk_Phi_ h1 aH
   refine gI st_195 aS (idx_lt aH) rfl (gY (yn (aV.mono hm.lez) isAgg275 sizeOf275 rfl) (gCg rfl call336 (laws_toPhi_ok _ aR aT (hm.now aW)) ?_))
   rintro aA aj ak w ⟨aI, rfl, hB⟩
   replace hm := hm.give hB; clear hB
   refine gg fun al aX aE => ?_
   obtain ⟨aK, aL, am, he⟩ := idx_form' (hm.ow_rep 1 rfl) aE
   obtain ⟨rfl, _, rfl⟩ := sl3 he
   obtain ⟨an, ao, ap⟩ := rk_Phi_ (hm.ow_rep 1 rfl) aE
   have hL1_1 := rep_slice_len (hm.ow_rep 1 rfl)
   refine gI st_60 aX (idx_lt2 aE hL1_1) rfl ?_
   replace hm : Mem w0 (hp w0) _ [ow [(nV aA.to), aI] (aA : Phi_), ow [(sV aK aL aB.length aC)] aD] := mk_Phi_ aA.to hm 0 rfl
   replace hm := (hm.both 1 0 (by decide) rfl rfl).pk (L' := [both (ow [(sV aK aL aB.length aC)] aD) (ow [(nV aA.to), aI] (aA : Phi_))]) [1] rfl rfl
   refine gf0 rfl (fun a hf => e_putElem (x1 := (aA : Phi_)) (vs := [(nV aA.to), aI]) 0 hf hm rfl aE rfl sizeOf127 rfl rfl rfl rfl) ?_
   rintro _ w hm
   have aq := List.getElem?_set_self (a := (aA : Phi_)) (idx_lt aE)
   exact gE (gR (gM rfl (gP (by omega) (by omega) rfl (gA rfl (gE (gze hm [0] rfl))))))
  repeat clear hm
  intro ar au w hm av aw
  exact gS (gS (gR (gM rfl (gM rfl (gY (yV st_195 rfl) (gB rfl (gE (go _ 11 rfl (decide_eq_false (by omega)) (gcf rfl (gXt (gHh (gS (gR (gM rfl (gA rfl (gE (gRt (gr1 results300 rfl ⟨(.slice aF aB.length aC), rfl, hm.pk [0] rfl rfl⟩))))))))))))))))))
theorem laws_toIns_ok (w0 : World) (a_ : Ins_) (v1 : Value) (h1 : GT.rep (hp w0) [v1] a_.args) :
    ConM Tryz.prog 337 [(.agg #[(nV a_.op), (nV a_.to), v1, (nV a_.n_)])] w0 (laws_toIns a_) fun r v w' => ∃ (x1 : Value), v = (.agg #[(nV r.op), (nV r.to), x1, (nV r.n_)]) ∧ Mem w0 (hp w0) w' [ow [x1] r.args] := by
  unfold laws_toIns
  refine gcon func337 rfl fun r => ?_
  have hm := Mem.start w0
  refine gS (gR (gBx hm rfl fun aB w hm => gAl hm zeroValue65 rfl fun aC w hm => gE (gS (gR (gAl hm zeroValue65 rfl fun aD w hm => gE (gS (gR (gF fo_277_0 rfl (gL hm 2 isAgg3 rfl (gF fo_65_0 rfl (gS1 hm 0 sizeOf3 rfl rfl fun w hm => gE (gS (gR (gF fo_277_1 rfl (gL hm 2 isAgg3 rfl (gF fo_65_1 rfl (gS1 hm 0 sizeOf3 rfl rfl fun w hm => gE (gS (gR (gF fo_277_2 rfl (gL hm 2 isAgg43 rfl (gCg rfl call302 (laws_toIntS_ok _ a_.args v1 (hm.now h1)) ?_))))))))))))))))))))))
  rintro aE aF aA w ⟨_, rfl, hB⟩
  replace hm := hm.give hB; clear hB
  exact gF fo_65_2 rfl (gS1 hm 1 sizeOf43 (rep_one (hm.ow_rep 0 rfl)) rfl fun w hm => gE (gS (gR (gF fo_277_3 rfl (gL hm 3 isAgg3 rfl (gF fo_65_3 rfl (gS1 hm 1 sizeOf3 rfl rfl fun w hm => gE (gS (gR (gY (yn (hm.blk_at 1 rfl) isAgg65 sizeOf65 rfl) (gSN hm 2 sizeOf65 (one_cons rfl (one_cons rfl (one_cons (rep_one (hm.ow_rep 0 rfl)) (one_cons rfl one_nil)))) rfl fun w hm => gE (gRt (grc 2 results337 hm rfl isAgg65 sizeOf65 ⟨aA, rfl, hm.pk [0] rfl rfl⟩)))))))))))))
theorem laws_toInsS_ok (w0 : World) (a_ : List Ins_) (v1 : Value) (h1 : GT.rep (hp w0) [v1] a_) :
    ConM Tryz.prog 301 [v1] w0 (laws_toInsS a_) fun r v w' => ∃ (x1 : Value), v = x1 ∧ Mem w0 (hp w0) w' [ow [x1] r] := by
  unfold laws_toInsS
  refine gcon func301 rfl fun r => ?_
  have hm := Mem.start w0
  refine gS (gR (gA rfl (gE (gS (gR (gM rfl ?_))))))
  obtain ⟨aM, aN, rfl, aY⟩ := ro_slice h1
  refine gY (yV st_196 rfl) (gb fun aB aO => ?_)
  obtain ⟨⟨aP, aQ⟩, aJ⟩ := makeM_some.1 aO
  refine gf rfl (fun a hf => e_make (x0 := ((⟨0, 0, [], 0⟩ : Ins_) : Ins_)) et_61 (fun _ => ⟨[(nV 0)], [(nV 0), (.slice none 0 0), (nV 0)], rfl, fun _ => False, fun _ => False, fun _ h => h.elim, fun _ h => h.elim, fun _ h => h.elim, (Flat.own_iff.2 rfl), ⟨[(nV 0)], [(.slice none 0 0), (nV 0)], rfl, fun _ => False, fun _ => False, fun _ h => h.elim, fun _ h => h.elim, fun _ h => h.elim, (Flat.own_iff.2 rfl), ⟨[(.slice none 0 0)], [(nV 0)], rfl, fun _ => False, fun _ => False, fun _ h => h.elim, fun _ h => h.elim, fun _ h => h.elim, (own_list.2 (.inl ⟨rfl, rfl⟩)), (Flat.own_iff.2 rfl)⟩⟩⟩) hf hm rfl rfl rfl aP (Int.le_refl _) aQ) ?_
  rintro aZ w hm
  rw [aJ] at hm
  have h0_1l : (aB.length : Int) = (a_.length : Int) := by rw [← aJ]; simp only [List.length_replicate]; omega
  refine gA rfl (gE (gS (gS (gR (gA rfl (gE ?_))))))
  obtain ⟨aF, aC, rfl, aa⟩ := ro_slice (hm.ow_rep 0 rfl)
  refine gBk (gNf hm (fun aG aD => [(0, (.slice aM a_.length aN)), (3, (.slice aF aB.length aC)), (4, (nV aG))]) (fun aG aD => [ow [(.slice aF aB.length aC)] aD]) [0] rfl ?_ ?_)
  ·
   repeat clear hm
   intro _ _ aG aD w hm ab ac ae _
   refine gS (gS (gR (gM rfl (gM rfl (gY (yV st_196 rfl) (gB rfl (gE (go _ 11 rfl (decide_eq_true (by omega)) (gct rfl (gSk (gS (gBk (gR (gM rfl (gM rfl (gM rfl (gM rfl (gg fun aR aS aH => ?_))))))))))))))))))
   obtain ⟨af, ah, ai, he⟩ := idx_form' h1 aH
   obtain ⟨rfl, _, rfl⟩ := sl3 he
   obtain ⟨aT, aV, aW⟩ := rk_Ins_ h1 aH
   refine gI st_196 aS (idx_lt aH) rfl (gY (yn (aV.mono hm.lez) isAgg277 sizeOf277 rfl) (gCg rfl call337 (laws_toIns_ok _ aR aT (hm.now aW)) ?_))
   rintro aA aj ak w ⟨aI, rfl, hB⟩
   replace hm := hm.give hB; clear hB
   refine gg fun al aX aE => ?_
   obtain ⟨aK, aL, am, he⟩ := idx_form' (hm.ow_rep 1 rfl) aE
   obtain ⟨rfl, _, rfl⟩ := sl3 he
   obtain ⟨an, ao, ap⟩ := rk_Ins_ (hm.ow_rep 1 rfl) aE
   have hL1_1 := rep_slice_len (hm.ow_rep 1 rfl)
   refine gI st_61 aX (idx_lt2 aE hL1_1) rfl ?_
   replace hm : Mem w0 (hp w0) _ [ow [(nV aA.op), (nV aA.to), aI, (nV aA.n_)] (aA : Ins_), ow [(sV aK aL aB.length aC)] aD] := mk_Ins_ aA.op aA.to aA.n_ hm 0 rfl
   replace hm := (hm.both 1 0 (by decide) rfl rfl).pk (L' := [both (ow [(sV aK aL aB.length aC)] aD) (ow [(nV aA.op), (nV aA.to), aI, (nV aA.n_)] (aA : Ins_))]) [1] rfl rfl
   refine gf0 rfl (fun a hf => e_putElem (x1 := (aA : Ins_)) (vs := [(nV aA.op), (nV aA.to), aI, (nV aA.n_)]) 0 hf hm rfl aE rfl sizeOf65 rfl rfl rfl rfl) ?_
   rintro _ w hm
   have aq := List.getElem?_set_self (a := (aA : Ins_)) (idx_lt aE)
   exact gE (gR (gM rfl (gP (by omega) (by omega) rfl (gA rfl (gE (gze hm [0] rfl))))))
  repeat clear hm
  intro ar au w hm av aw
  exact gS (gS (gR (gM rfl (gM rfl (gY (yV st_196 rfl) (gB rfl (gE (go _ 11 rfl (decide_eq_false (by omega)) (gcf rfl (gXt (gHh (gS (gR (gM rfl (gA rfl (gE (gRt (gr1 results301 rfl ⟨(.slice aF aB.length aC), rfl, hm.pk [0] rfl rfl⟩))))))))))))))))))
theorem laws_toBlock_ok (w0 : World) (a_ : Block_) (v1 : Value) (h1 : GT.rep (hp w0) [v1] a_.phis) (v2 : Value) (h2 : GT.rep (hp w0) [v2] a_.ins) (v3 : Value) (h3 : GT.rep (hp w0) [v3] a_.next_) :
    ConM Tryz.prog 236 [(.agg #[v1, v2, (nV a_.jump), (nV a_.on), v3])] w0 (laws_toBlock a_) fun r v w' => ∃ (x1 : Value) (x2 : Value) (x3 : Value), v = (.agg #[x1, x2, (nV r.jump), (nV r.on), x3]) ∧ Mem w0 (hp w0) w' [ow [x1] r.phis, ow [x2] r.ins, ow [x3] r.next_] := by
  unfold laws_toBlock
  refine gcon func236 rfl fun r => ?_
  have hm := Mem.start w0
  refine gS (gR (gBx hm rfl fun aD w hm => gAl hm zeroValue63 rfl fun aE w hm => gE (gS (gR (gAl hm zeroValue63 rfl fun aF w hm => gE (gS (gR (gF fo_198_0 rfl (gL hm 2 isAgg195 rfl (gCg rfl call300 (laws_toPhiS_ok _ a_.phis v1 (hm.now h1)) ?_))))))))))
  rintro aG aH aA w ⟨_, rfl, hB⟩
  replace hm := hm.give hB; clear hB
  refine gF fo_63_0 rfl (gS1 hm 1 sizeOf60 (rep_one (hm.ow_rep 0 rfl)) rfl fun w hm => gE (gS (gR (gF fo_198_1 rfl (gL hm 3 isAgg196 rfl (gCg rfl call301 (laws_toInsS_ok _ a_.ins v2 (hm.now h2)) ?_))))))
  rintro aI aJ aB w ⟨_, rfl, hB⟩
  replace hm := hm.give hB; clear hB
  refine gF fo_63_1 rfl (gS1 hm 2 sizeOf61 (rep_one (hm.ow_rep 0 rfl)) rfl fun w hm => gE (gS (gR (gF fo_198_2 rfl (gL hm 4 isAgg3 rfl (gF fo_63_2 rfl (gS1 hm 2 sizeOf3 rfl rfl fun w hm => gE (gS (gR (gF fo_198_3 rfl (gL hm 4 isAgg3 rfl (gF fo_63_3 rfl (gS1 hm 2 sizeOf3 rfl rfl fun w hm => gE (gS (gR (gF fo_198_4 rfl (gL hm 4 isAgg43 rfl (gCg rfl call302 (laws_toIntS_ok _ a_.next_ v3 (hm.now h3)) ?_))))))))))))))))))
  rintro aK aL aC w ⟨_, rfl, hB⟩
  replace hm := hm.give hB; clear hB
  exact gF fo_63_4 rfl (gS1 hm 3 sizeOf43 (rep_one (hm.ow_rep 0 rfl)) rfl fun w hm => gE (gS (gR (gY (yn (hm.blk_at 3 rfl) isAgg63 sizeOf63 rfl) (gSN hm 4 sizeOf63 (one_cons (rep_one (hm.ow_rep 2 rfl)) (one_cons (rep_one (hm.ow_rep 1 rfl)) (one_cons rfl (one_cons rfl (one_cons (rep_one (hm.ow_rep 0 rfl)) one_nil))))) rfl fun w hm => gE (gRt (grc 4 results236 hm rfl isAgg63 sizeOf63 ⟨aA, aB, aC, rfl, hm.pk [2, 1, 0] rfl rfl⟩)))))))
theorem laws_toBlockS_ok (w0 : World) (a_ : List Block_) (v1 : Value) (h1 : GT.rep (hp w0) [v1] a_) :
    ConM Tryz.prog 157 [v1] w0 (laws_toBlockS a_) fun r v w' => ∃ (x1 : Value), v = x1 ∧ Mem w0 (hp w0) w' [ow [x1] r] := by
  unfold laws_toBlockS
  refine gcon func157 rfl fun r => ?_
  have hm := Mem.start w0
  refine gS (gR (gA rfl (gE (gS (gR (gM rfl ?_))))))
  obtain ⟨aO, aP, rfl, af⟩ := ro_slice h1
  refine gY (yV st_86 rfl) (gb fun aB aQ => ?_)
  obtain ⟨⟨aR, aS⟩, aL⟩ := makeM_some.1 aQ
  refine gf rfl (fun a hf => e_make (x0 := ((⟨[], [], 0, 0, []⟩ : Block_) : Block_)) et_47 (fun _ => ⟨[(.slice none 0 0)], [(.slice none 0 0), (nV 0), (nV 0), (.slice none 0 0)], rfl, fun _ => False, fun _ => False, fun _ h => h.elim, fun _ h => h.elim, fun _ h => h.elim, (own_list.2 (.inl ⟨rfl, rfl⟩)), ⟨[(.slice none 0 0)], [(nV 0), (nV 0), (.slice none 0 0)], rfl, fun _ => False, fun _ => False, fun _ h => h.elim, fun _ h => h.elim, fun _ h => h.elim, (own_list.2 (.inl ⟨rfl, rfl⟩)), ⟨[(nV 0)], [(nV 0), (.slice none 0 0)], rfl, fun _ => False, fun _ => False, fun _ h => h.elim, fun _ h => h.elim, fun _ h => h.elim, (Flat.own_iff.2 rfl), ⟨[(nV 0)], [(.slice none 0 0)], rfl, fun _ => False, fun _ => False, fun _ h => h.elim, fun _ h => h.elim, fun _ h => h.elim, (Flat.own_iff.2 rfl), (own_list.2 (.inl ⟨rfl, rfl⟩))⟩⟩⟩⟩) hf hm rfl rfl rfl aR (Int.le_refl _) aS) ?_
  rintro ah w hm
  rw [aL] at hm
  have h0_1l : (aB.length : Int) = (a_.length : Int) := by rw [← aL]; simp only [List.length_replicate]; omega
  refine gA rfl (gE (gS (gS (gR (gA rfl (gE ?_))))))
  obtain ⟨aF, aC, rfl, ai⟩ := ro_slice (hm.ow_rep 0 rfl)
  refine gBk (gNf hm (fun aG aD => [(0, (.slice aO a_.length aP)), (3, (.slice aF aB.length aC)), (4, (nV aG))]) (fun aG aD => [ow [(.slice aF aB.length aC)] aD]) [0] rfl ?_ ?_)
  ·
   repeat clear hm
   intro _ _ aG aD w hm aj ak al _
   refine gS (gS (gR (gM rfl (gM rfl (gY (yV st_86 rfl) (gB rfl (gE (go _ 11 rfl (decide_eq_true (by omega)) (gct rfl (gSk (gS (gBk (gR (gM rfl (gM rfl (gM rfl (gM rfl (gg fun aT aV aH => ?_))))))))))))))))))
   obtain ⟨am, an, ao, he⟩ := idx_form' h1 aH
   obtain ⟨rfl, _, rfl⟩ := sl3 he
   obtain ⟨aW, aX, aY, aZ, aa, ab, ac⟩ := rk_Block_ h1 aH
   refine gI st_86 aV (idx_lt aH) rfl (gY (yn (aZ.mono hm.lez) isAgg198 sizeOf198 rfl) (gCg rfl call236 (laws_toBlock_ok _ aT aW (hm.now aa) aX (hm.now ab) aY (hm.now ac)) ?_))
   rintro aA ap aq w ⟨aI, aJ, aK, rfl, hB⟩
   replace hm := hm.give hB; clear hB
   refine gg fun ar ae aE => ?_
   obtain ⟨aM, aN, au, he⟩ := idx_form' (hm.ow_rep 3 rfl) aE
   obtain ⟨rfl, _, rfl⟩ := sl3 he
   obtain ⟨av, aw, ax, ay, az, bA, bB⟩ := rk_Block_ (hm.ow_rep 3 rfl) aE
   have hL1_1 := rep_slice_len (hm.ow_rep 3 rfl)
   refine gI st_47 ae (idx_lt2 aE hL1_1) rfl ?_
   replace hm := (mk_Block_ aA.jump aA.on hm 0 1 2 rfl).pk (L' := [ow [aI, aJ, (nV aA.jump), (nV aA.on), aK] (aA : Block_), ow [(sV aM aN aB.length aC)] aD]) [0, 3] rfl rfl
   replace hm := (hm.both 1 0 (by decide) rfl rfl).pk (L' := [both (ow [(sV aM aN aB.length aC)] aD) (ow [aI, aJ, (nV aA.jump), (nV aA.on), aK] (aA : Block_))]) [1] rfl rfl
   refine gf0 rfl (fun a hf => e_putElem (x1 := (aA : Block_)) (vs := [aI, aJ, (nV aA.jump), (nV aA.on), aK]) 0 hf hm rfl aE rfl sizeOf63 rfl rfl rfl rfl) ?_
   rintro _ w hm
   have bC := List.getElem?_set_self (a := (aA : Block_)) (idx_lt aE)
   exact gE (gR (gM rfl (gP (by omega) (by omega) rfl (gA rfl (gE (gze hm [0] rfl))))))
  repeat clear hm
  intro bD bE w hm bF bG
  exact gS (gS (gR (gM rfl (gM rfl (gY (yV st_86 rfl) (gB rfl (gE (go _ 11 rfl (decide_eq_false (by omega)) (gcf rfl (gXt (gHh (gS (gR (gM rfl (gA rfl (gE (gRt (gr1 results157 rfl ⟨(.slice aF aB.length aC), rfl, hm.pk [0] rfl rfl⟩))))))))))))))))))
theorem laws_toCode_ok (w0 : World) (a_ : Code_) (v1 : Value) (h1 : GT.rep (hp w0) [v1] a_.blocks) :
    ConM Tryz.prog 93 [(.agg #[(nV a_.params), (nV a_.regs), v1])] w0 (laws_toCode a_) fun r v w' => ∃ (x1 : Value), v = (.agg #[(nV r.params), (nV r.regs), x1]) ∧ Mem w0 (hp w0) w' [ow [x1] r.blocks] := by
  unfold laws_toCode
  refine gcon func93 rfl fun r => ?_
  have hm := Mem.start w0
  refine gS (gR (gBx hm rfl fun aB w hm => gAl hm zeroValue49 rfl fun aC w hm => gE (gS (gR (gAl hm zeroValue49 rfl fun aD w hm => gE (gS (gR (gF fo_88_0 rfl (gL hm 2 isAgg3 rfl (gF fo_49_0 rfl (gS1 hm 0 sizeOf3 rfl rfl fun w hm => gE (gS (gR (gF fo_88_1 rfl (gL hm 2 isAgg3 rfl (gF fo_49_1 rfl (gS1 hm 0 sizeOf3 rfl rfl fun w hm => gE (gS (gR (gF fo_88_2 rfl (gL hm 2 isAgg86 rfl (gCg rfl call157 (laws_toBlockS_ok _ a_.blocks v1 (hm.now h1)) ?_))))))))))))))))))))))
  rintro aE aF aA w ⟨_, rfl, hB⟩
  replace hm := hm.give hB; clear hB
  exact gF fo_49_2 rfl (gS1 hm 1 sizeOf47 (rep_one (hm.ow_rep 0 rfl)) rfl fun w hm => gE (gS (gR (gY (yn (hm.blk_at 1 rfl) isAgg49 sizeOf49 rfl) (gSN hm 2 sizeOf49 (one_cons rfl (one_cons rfl (one_cons (rep_one (hm.ow_rep 0 rfl)) one_nil))) rfl fun w hm => gE (gRt (grc 2 results93 hm rfl isAgg49 sizeOf49 ⟨aA, rfl, hm.pk [0] rfl rfl⟩)))))))
theorem laws_toCodeS_ok (w0 : World) (a_ : List Code_) (v1 : Value) (h1 : GT.rep (hp w0) [v1] a_) :
    ConM Tryz.prog 45 [v1] w0 (laws_toCodeS a_) fun r v w' => ∃ (x1 : Value), v = x1 ∧ Mem w0 (hp w0) w' [ow [x1] r] := by
  unfold laws_toCodeS
  refine gcon func45 rfl fun r => ?_
  have hm := Mem.start w0
  refine gS (gR (gA rfl (gE (gS (gR (gM rfl ?_))))))
  obtain ⟨aM, aN, rfl, aY⟩ := ro_slice h1
  refine gY (yV st_22 rfl) (gb fun aB aO => ?_)
  obtain ⟨⟨aP, aQ⟩, aJ⟩ := makeM_some.1 aO
  refine gf rfl (fun a hf => e_make (x0 := ((⟨0, 0, []⟩ : Code_) : Code_)) et_26 (fun _ => ⟨[(nV 0)], [(nV 0), (.slice none 0 0)], rfl, fun _ => False, fun _ => False, fun _ h => h.elim, fun _ h => h.elim, fun _ h => h.elim, (Flat.own_iff.2 rfl), ⟨[(nV 0)], [(.slice none 0 0)], rfl, fun _ => False, fun _ => False, fun _ h => h.elim, fun _ h => h.elim, fun _ h => h.elim, (Flat.own_iff.2 rfl), (own_list.2 (.inl ⟨rfl, rfl⟩))⟩⟩) hf hm rfl rfl rfl aP (Int.le_refl _) aQ) ?_
  rintro aZ w hm
  rw [aJ] at hm
  have h0_1l : (aB.length : Int) = (a_.length : Int) := by rw [← aJ]; simp only [List.length_replicate]; omega
  refine gA rfl (gE (gS (gS (gR (gA rfl (gE ?_))))))
  obtain ⟨aF, aC, rfl, aa⟩ := ro_slice (hm.ow_rep 0 rfl)
  refine gBk (gNf hm (fun aG aD => [(0, (.slice aM a_.length aN)), (3, (.slice aF aB.length aC)), (4, (nV aG))]) (fun aG aD => [ow [(.slice aF aB.length aC)] aD]) [0] rfl ?_ ?_)
  ·
   repeat clear hm
   intro _ _ aG aD w hm ab ac ae _
   refine gS (gS (gR (gM rfl (gM rfl (gY (yV st_22 rfl) (gB rfl (gE (go _ 11 rfl (decide_eq_true (by omega)) (gct rfl (gSk (gS (gBk (gR (gM rfl (gM rfl (gM rfl (gM rfl (gg fun aR aS aH => ?_))))))))))))))))))
   obtain ⟨af, ah, ai, he⟩ := idx_form' h1 aH
   obtain ⟨rfl, _, rfl⟩ := sl3 he
   obtain ⟨aT, aV, aW⟩ := rk_Code_ h1 aH
   refine gI st_22 aS (idx_lt aH) rfl (gY (yn (aV.mono hm.lez) isAgg88 sizeOf88 rfl) (gCg rfl call93 (laws_toCode_ok _ aR aT (hm.now aW)) ?_))
   rintro aA aj ak w ⟨aI, rfl, hB⟩
   replace hm := hm.give hB; clear hB
   refine gg fun al aX aE => ?_
   obtain ⟨aK, aL, am, he⟩ := idx_form' (hm.ow_rep 1 rfl) aE
   obtain ⟨rfl, _, rfl⟩ := sl3 he
   obtain ⟨an, ao, ap⟩ := rk_Code_ (hm.ow_rep 1 rfl) aE
   have hL1_1 := rep_slice_len (hm.ow_rep 1 rfl)
   refine gI st_26 aX (idx_lt2 aE hL1_1) rfl ?_
   replace hm : Mem w0 (hp w0) _ [ow [(nV aA.params), (nV aA.regs), aI] (aA : Code_), ow [(sV aK aL aB.length aC)] aD] := mk_Code_ aA.params aA.regs hm 0 rfl
   replace hm := (hm.both 1 0 (by decide) rfl rfl).pk (L' := [both (ow [(sV aK aL aB.length aC)] aD) (ow [(nV aA.params), (nV aA.regs), aI] (aA : Code_))]) [1] rfl rfl
   refine gf0 rfl (fun a hf => e_putElem (x1 := (aA : Code_)) (vs := [(nV aA.params), (nV aA.regs), aI]) 0 hf hm rfl aE rfl sizeOf49 rfl rfl rfl rfl) ?_
   rintro _ w hm
   have aq := List.getElem?_set_self (a := (aA : Code_)) (idx_lt aE)
   exact gE (gR (gM rfl (gP (by omega) (by omega) rfl (gA rfl (gE (gze hm [0] rfl))))))
  repeat clear hm
  intro ar au w hm av aw
  exact gS (gS (gR (gM rfl (gM rfl (gY (yV st_22 rfl) (gB rfl (gE (go _ 11 rfl (decide_eq_false (by omega)) (gcf rfl (gXt (gHh (gS (gR (gM rfl (gA rfl (gE (gRt (gr1 results45 rfl ⟨(.slice aF aB.length aC), rfl, hm.pk [0] rfl rfl⟩))))))))))))))))))
theorem laws_toUnit_ok (w0 : World) (a_ : Unit_) (v1 : Value) (h1 : GT.rep (hp w0) [v1] a_.codes) :
    ConM Tryz.prog 15 [(.agg #[v1])] w0 (laws_toUnit a_) fun r v w' => ∃ (x1 : Value), v = (.agg #[x1]) ∧ Mem w0 (hp w0) w' [ow [x1] r.codes] := by
  unfold laws_toUnit
  refine gcon func15 rfl fun r => ?_
  have hm := Mem.start w0
  refine gS (gR (gBx hm rfl fun aB w hm => gAl hm zeroValue28 rfl fun aC w hm => gE (gS (gR (gAl hm zeroValue28 rfl fun aD w hm => gE (gS (gR (gF fo_24_0 rfl (gL hm 2 isAgg22 rfl (gCg rfl call45 (laws_toCodeS_ok _ a_.codes v1 (hm.now h1)) ?_))))))))))
  rintro aE aF aA w ⟨_, rfl, hB⟩
  replace hm := hm.give hB; clear hB
  exact gF fo_28_0 rfl (gS1 hm 1 sizeOf26 (rep_one (hm.ow_rep 0 rfl)) rfl fun w hm => gE (gS (gR (gY (yn (hm.blk_at 1 rfl) isAgg28 sizeOf28 rfl) (gSN hm 2 sizeOf28 (one_cons (rep_one (hm.ow_rep 0 rfl)) one_nil) rfl fun w hm => gE (gRt (grc 2 results15 hm rfl isAgg28 sizeOf28 ⟨aA, rfl, hm.pk [0] rfl rfl⟩)))))))
theorem spec_l1In_ok (w0 : World) (n_ : Int) (low : Int) (high : Int) :
    ConM Tryz.prog 41 [(nV n_), (nV low), (nV high)] w0 (spec_l1In n_ low high) fun r v w' => v = (.bool (r)) ∧ Below w0.heap.size w0 w' := by
  unfold spec_l1In
  refine gcon func41 rfl fun r => ?_
  have hm := Mem.start w0
  refine gS (gR (gA rfl (gE (gS (gJ hm (fun aA => [(6, (.bool (aA)))]) (fun aA => []) (fun aA => ?_) ?_)))))
  ·
   refine gR (gM rfl (gM rfl (gB rfl (gM rfl (gsd 10 rfl (fun aB => ?_) fun aB => ?_)))))
   ·
    exact gM rfl (gM rfl (gB rfl (gKt rfl (gA rfl (gE (gz hm [] rfl))))))
   exact gO rfl (gO rfl (gO rfl (gKf rfl (gA rfl (gE (gz hm [] rfl))))))
  repeat clear hm
  intro aA w hm
  exact gRt (gr1 results41 rfl ⟨rfl, hm.below⟩)
theorem spec_l7Regs_ok (w0 : World) (c_ : Code_) (v1 : Value) (h1 : GT.rep (hp w0) [v1] c_.blocks) (list : List Int) (v2 : Value) (h2 : GT.rep (hp w0) [v2] list) :
    ConM Tryz.prog 154 [(.agg #[(nV c_.params), (nV c_.regs), v1]), v2] w0 (spec_l7Regs c_ list) fun r v w' => v = (.bool (r)) ∧ Below w0.heap.size w0 w' := by
  unfold spec_l7Regs
  refine gcon func154 rfl fun r => ?_
  have hm := Mem.start w0
  refine gS (gR (gBx hm rfl fun aA w hm => gA rfl (gE (gS (gS (gR (gA rfl (gE (gBk (gNf hm (fun aB aD => [(1, v2), (2, (pV aA)), (5, (nV aB))]) (fun aB aD => [blk aA [(nV c_.params), (nV c_.regs), v1] 49]) [0] rfl ?_ ?_))))))))))
  ·
   repeat clear hm
   intro aK aF aB aD w hm aL aM aN aG
   refine gS (gS (gR (gM rfl (gM rfl ?_))))
   obtain ⟨aO, aP, rfl, aQ⟩ := ro_slice h2
   refine gY (yV st_43 rfl) (gB rfl (gE (go _ 9 rfl (decide_eq_true (by omega)) (gct rfl (gSk (gS (gBk (gS (gW (.p 0 (.p 1 (.p 2 (.p 4 (.q 3 (.e 5 (.p 6 (.e 7 (.p 8 .fin) .nil)) .nil)))))) [5] [0, 1, 2, 4, 6, 8] hm [0] [blk aA [(nV c_.params), (nV c_.regs), v1] 49] rfl mxo (by kernel_rfl) (fun _ _ _ h => h.2) fun w hm hS => tP rfl (fun w => yM rfl) (tP rfl (fun w => yM rfl) (gg fun aE aH aC => ?_)))))))))))
   obtain ⟨aR, aS, aT, he⟩ := idx_form h2 aC
   obtain ⟨rfl, _, rfl⟩ := sl3 he
   refine tP rfl (fun w => yI st_43 aH (idx_lt aC) rfl) (tP rfl (fun w => yF fo_49_1 rfl) (tQ rfl hS (fun w hm => yl isAgg3 ((flat_cells (cs := [(nV aE)]) (hm.now h2) aC rfl).cell (j := 0) rfl) rfl) (tO (tY rfl (yL hm 0 isAgg3 rfl) (tAs hS (tP rfl (fun w => yB rfl) (tO (gb fun aV aI => tf rfl rfl (fun a hf => e_call hf rfl call41 rfl (spec_l1In_ok _ aE 0 (w64 (c_.regs - 1)) _ aI)) ?_))))))))
   rintro aW w ⟨rfl, hB⟩
   replace hm := hm.below' hB; clear hB
   refine tAn rfl (tP rfl (fun w => yN rfl) (tE (gsn 20 rfl (fun aJ => ?_) fun aJ => ?_)))
   ·
    exact gct rfl (gS (gR (gA rfl (gE (gRt (gLr aG aF (gr1 results154 rfl ⟨rfl, hm.below⟩)))))))
   exact gcf rfl (gSk (gR (gM rfl (gP (by omega) (by omega) rfl (gA rfl (gE (gze hm [0] rfl)))))))
  repeat clear hm
  intro aX aY w hm aZ aa
  refine gS (gS (gR (gM rfl (gM rfl ?_))))
  obtain ⟨ab, ac, rfl, ae⟩ := ro_slice h2
  exact gY (yV st_43 rfl) (gB rfl (gE (go _ 9 rfl (decide_eq_false (by omega)) (gcf rfl (gXt (gHh (gS (gR (gA rfl (gE (gRt (gr1 results154 rfl ⟨rfl, hm.below⟩))))))))))))
theorem spec_l7Makes_ok (w0 : World) (op : Int) :
    ConM Tryz.prog 89 [(nV op)] w0 (spec_l7Makes op) fun r v w' => v = (.bool (r)) ∧ Below w0.heap.size w0 w' := by
  unfold spec_l7Makes
  refine gcon func89 rfl fun r => ?_
  have hm := Mem.start w0
  refine gS (gR (gA rfl (gE (gS (gJ hm (fun aA => [(2, (.bool (aA)))]) (fun aA => []) (fun aA => ?_) ?_)))))
  ·
   refine gR (gM rfl (gC hm rfl call41 (spec_l1In_ok _ op 1 14) fun aD aE w hm => gM rfl (gs 5 rfl (fun aB => ?_) fun aB => ?_)))
   ·
    refine gM rfl (gB rfl (gKt rfl (gM rfl (gsd 9 rfl (fun aC => ?_) fun aC => ?_))))
    ·
     exact gM rfl (gB rfl (gKt rfl (gA rfl (gE (gz hm [] rfl)))))
    exact gO rfl (gO rfl (gKf rfl (gA rfl (gE (gz hm [] rfl)))))
   exact gO rfl (gO rfl (gKf rfl (gM rfl (gO rfl (gO rfl (gKf rfl (gA rfl (gE (gz hm [] rfl)))))))))
  repeat clear hm
  intro aA w hm
  exact gRt (gr1 results89 rfl ⟨rfl, hm.below⟩)
theorem spec_l7Args_ok (w0 : World) (op : Int) :
    ConM Tryz.prog 234 [(nV op)] w0 (spec_l7Args op) fun r v w' => v = (nV r) ∧ Below w0.heap.size w0 w' := by
  unfold spec_l7Args
  refine gcon func234 rfl fun r => ?_
  have hm := Mem.start w0
  refine gS (gR (gA rfl (gE (gS (gBk (gS (gR (gM rfl (gB rfl (gA rfl (gE (gsd 3 rfl (fun aC => ?_) fun aC => ?_))))))))))))
  ·
   exact gct rfl (gS (gR (gA rfl (gE (gRt (gr1 results234 rfl ⟨rfl, hm.below⟩))))))
  refine gcf rfl (gS (gJ hm (fun aA => [(0, (nV op)), (6, (.bool (aA)))]) (fun aA => []) (fun aA => ?_) ?_))
  ·
   refine gR (gM rfl (gB rfl (gM rfl (gsd 9 rfl (fun aD => ?_) fun aD => ?_))))
   ·
    exact gO rfl (gO rfl (gKt rfl (gM rfl (gO rfl (gO rfl (gKt rfl (gM rfl (gO rfl (gO rfl (gKt rfl (gA rfl (gE (gz hm [] rfl)))))))))))))
   refine gM rfl (gB rfl (gKf rfl (gM rfl (gsd 13 rfl (fun aE => ?_) fun aE => ?_))))
   ·
    exact gO rfl (gO rfl (gKt rfl (gM rfl (gO rfl (gO rfl (gKt rfl (gA rfl (gE (gz hm [] rfl)))))))))
   refine gM rfl (gB rfl (gKf rfl (gM rfl (gsd 17 rfl (fun aF => ?_) fun aF => ?_))))
   ·
    exact gO rfl (gO rfl (gKt rfl (gA rfl (gE (gz hm [] rfl)))))
   exact gM rfl (gB rfl (gKf rfl (gA rfl (gE (gz hm [] rfl)))))
  repeat clear hm
  intro aA w hm
  refine gs 6 rfl (fun aG => ?_) fun aG => ?_
  ·
   exact gct rfl (gS (gR (gA rfl (gE (gRt (gr1 results234 rfl ⟨rfl, hm.below⟩))))))
  refine gcf rfl (gS (gJ hm (fun aB => [(21, (.bool (aB)))]) (fun aB => []) (fun aB => ?_) ?_))
  ·
   refine gR (gM rfl (gC hm rfl call41 (spec_l1In_ok _ op 3 9) fun aJ aK w hm => gM rfl (gs 24 rfl (fun aH => ?_) fun aH => ?_)))
   ·
    exact gO rfl (gO rfl (gKt rfl (gA rfl (gE (gz hm [] rfl)))))
   exact gM rfl (gB rfl (gKf rfl (gA rfl (gE (gz hm [] rfl)))))
  repeat clear hm
  intro aB w hm
  refine gs 21 rfl (fun aI => ?_) fun aI => ?_
  ·
   exact gct rfl (gS (gR (gA rfl (gE (gRt (gr1 results234 rfl ⟨rfl, hm.below⟩))))))
  exact gcf rfl (gSk (gS (gR (gA rfl (gE (gRt (gr1 results234 rfl ⟨rfl, hm.below⟩)))))))
theorem spec_l7Ins_ok (w0 : World) (u : Unit_) (v1 : Value) (h1 : GT.rep (hp w0) [v1] u.codes) (k_ : Int) (x_ : Ins_) (v2 : Value) (h2 : GT.rep (hp w0) [v2] x_.args) :
    ConM Tryz.prog 153 [(.agg #[v1]), (nV k_), (.agg #[(nV x_.op), (nV x_.to), v2, (nV x_.n_)])] w0 (spec_l7Ins u k_ x_) fun r v w' => v = (.bool (r)) ∧ Below w0.heap.size w0 w' := by
  unfold spec_l7Ins
  refine gcon func153 rfl fun r => ?_
  have hm := Mem.start w0
  refine gS (gR (gBx hm rfl fun aA w hm => gBx hm rfl fun aB w hm => gA rfl (gE (gS (gR (gF fo_28_0 rfl (gL hm 1 isAgg26 rfl (gM rfl (gg fun aC aP aK => ?_)))))))))
  obtain ⟨aD, aE, aF, he⟩ := idx_form' h1 aK
  subst he
  obtain ⟨aL, aQ, aN⟩ := rk_Code_ h1 aK
  refine gI st_26 aP (idx_lt aK) rfl (gY (yn (aQ.mono hm.lez) isAgg49 sizeOf49 rfl) (gAl hm zeroValue49 rfl fun aM w hm => gSN hm 0 sizeOf49 (one_cons rfl (one_cons rfl (one_cons (rep_one aN) one_nil))) rfl fun w hm => gE (gS (gS (gJ hm (fun aG => [(1, (nV k_)), (3, (pV aA)), (5, (pV aB)), (7, (pV aM)), (23, (.bool (aG)))]) (fun aG => [blk aA [(sV aD aE u.codes.length aF)] 28, blk aB [(nV x_.op), (nV x_.to), v2, (nV x_.n_)] 65, blk aM [(nV aC.params), (nV aC.regs), aL] 49]) (fun aG => ?_) ?_)))))
  ·
   refine gR (gF fo_65_0 rfl (gL hm 1 isAgg3 rfl (gC hm rfl call41 (spec_l1In_ok _ x_.op 1 14) fun am an w hm => gN rfl (gM rfl (gsn 17 rfl (fun aR => ?_) fun aR => ?_)))))
   ·
    exact gO rfl (gO rfl (gO rfl (gO rfl (gO rfl (gKt rfl (gE (gz hm [2, 1, 0] rfl)))))))
   exact gY (yn (hm.blk_at 0 rfl) isAgg49 sizeOf49 rfl) (gF fo_65_2 rfl (gL hm 1 isAgg43 rfl (gC hm rfl call154 (spec_l7Regs_ok _ aC aL (hm.now aN) x_.args v2 (hm.now h2)) fun ao ap w hm => gN rfl (gKf rfl (gE (gz hm [2, 1, 0] rfl))))))
  repeat clear hm
  intro aG w hm
  refine gs 23 rfl (fun aS => ?_) fun aS => ?_
  ·
   exact gct rfl (gS (gR (gA rfl (gE (gRt (gr1 results153 rfl ⟨rfl, hm.below⟩))))))
  refine gcf rfl (gSk (gS (gS (gJ hm (fun aH => [(1, (nV k_)), (3, (pV aA)), (5, (pV aB)), (44, (.bool (aH)))]) (fun aH => [blk aA [(sV aD aE u.codes.length aF)] 28, blk aB [(nV x_.op), (nV x_.to), v2, (nV x_.n_)] 65]) (fun aH => ?_) ?_))))
  ·
   refine gW (.p 0 (.p 3 (.p 5 (.q 1 (.q 4 (.q 6 (.p 7 (.e 2 (.e 8 (.p 9 (.p 10 (.p 11 (.e 12 (.e 13 (.p 14 (.p 15 (.p 16 (.e 17 (.p 18 (.p 19 (.p 20 .fin))) .nil)))) .nil) .nil)))) .nil) .nil)))))))) [1, 2, 4, 6] [0, 3, 5, 7, 9, 10, 11, 14, 15, 16, 18, 19, 20] hm [0, 1, 2] [blk aA [(sV aD aE u.codes.length aF)] 28, blk aB [(nV x_.op), (nV x_.to), v2, (nV x_.n_)] 65, blk aM [(nV aC.params), (nV aC.regs), aL] 49] rfl mxo (by kernel_rfl) (fun _ _ _ h => h.2) fun w hm hS => tP rfl (fun w => yF fo_65_0 rfl) (tP rfl (fun w => yF fo_65_1 rfl) (tP rfl (fun w => yF fo_49_1 rfl) (tQ rfl hS (fun w hm => yL hm 1 isAgg3 rfl) (tQ rfl hS (fun w hm => yL hm 1 isAgg3 rfl) (tQ rfl hS (fun w hm => yL hm 2 isAgg3 rfl) (tP rfl (fun w => yB rfl) (tO (gb fun aq aT => tf rfl rfl (fun a hf => e_call hf rfl call89 rfl (spec_l7Makes_ok _ x_.op _ aT)) ?_))))))))
   rintro ar w ⟨rfl, hB⟩
   replace hm := hm.below' hB; clear hB
   refine tAk hm [0, 1, 2] rfl fun hS => tO (gb fun au aV => tf rfl rfl (fun a hf => e_call hf rfl call41 rfl (spec_l1In_ok _ x_.to 0 (w64 (aC.regs - 1)) _ aV)) ?_)
   rintro av w ⟨rfl, hB⟩
   replace hm := hm.below' hB; clear hB
   refine tAn rfl (tP rfl (fun w => yG rfl (y_neqb underlying4 rfl rfl rfl)) (tP rfl (fun w => yM rfl) (gsd 34 rfl (fun aW => ?_) fun aW => ?_)))
   ·
    exact tPo rfl rfl (tO (tEo rfl rfl (tAn rfl (tO (tEo rfl rfl (tAn rfl (tPo rfl rfl (tPo rfl rfl (tPo rfl rfl (tO (tEo rfl rfl (tAn rfl (tPo rfl rfl (tPo rfl rfl (tP rfl (fun w => yKt rfl) (tE (gz hm [0, 1] rfl)))))))))))))))))
   refine tP rfl (fun w => yF fo_65_0 rfl) (tO (tY rfl (yL hm 1 isAgg3 rfl) (tAn rfl (tO (gb fun aw aX => tf rfl rfl (fun a hf => e_call hf rfl call89 rfl (spec_l7Makes_ok _ x_.op _ aX)) ?_)))))
   rintro ax w ⟨rfl, hB⟩
   replace hm := hm.below' hB; clear hB
   refine tAn rfl (tP rfl (fun w => yN rfl) (tP rfl (fun w => yM rfl) (gsn 39 rfl (fun aY => ?_) fun aY => ?_)))
   ·
    exact tP rfl (fun w => yF fo_65_1 rfl) (tO (tY rfl (yL hm 1 isAgg3 rfl) (tAn rfl (tP rfl (fun w => yB rfl) (tP rfl (fun w => yKt rfl) (tP rfl (fun w => yKf rfl) (tE (gz hm [0, 1] rfl))))))))
   exact tPo rfl rfl (tO (tEo rfl rfl (tAn rfl (tPo rfl rfl (tP rfl (fun w => yKf rfl) (tP rfl (fun w => yKf rfl) (tE (gz hm [0, 1] rfl))))))))
  repeat clear hm
  intro aH w hm
  refine gs 44 rfl (fun aZ => ?_) fun aZ => ?_
  ·
   exact gct rfl (gS (gR (gA rfl (gE (gRt (gr1 results153 rfl ⟨rfl, hm.below⟩))))))
  refine gcf rfl (gSk (gS (gS (gR (gF fo_65_0 rfl (gL hm 1 isAgg3 rfl (gB rfl (gE (gsd 47 rfl (fun aa => ?_) fun aa => ?_)))))))))
  ·
   refine gct rfl (gS (gJ hm (fun aI => [(6, (.bool (aI)))]) (fun aI => []) (fun aI => ?_) ?_))
   ·
    refine gW (.p 0 (.p 2 (.p 3 (.e 1 (.e 4 (.p 5 (.p 6 (.p 9 (.p 11 (.q 7 (.p 8 (.q 10 (.e 12 (.p 13 (.p 14 (.e 15 (.p 16 (.p 17 (.p 18 .fin))) .nil))) .nil)))))))) .nil) .nil)))) [7, 10, 12, 15] [0, 2, 3, 5, 6, 8, 9, 11, 13, 14, 16, 17, 18] hm [0, 1] [blk aA [(sV aD aE u.codes.length aF)] 28, blk aB [(nV x_.op), (nV x_.to), v2, (nV x_.n_)] 65] rfl mxo (by kernel_rfl) (fun _ _ _ h => h.2) fun w hm hS => tP rfl (fun w => yF fo_65_3 rfl) (tP rfl (fun w => yM rfl) (tP rfl (fun w => yB rfl) (tO (tY rfl (yL hm 1 isAgg3 rfl) (tAn rfl (tO (gb fun ay ab => tf rfl rfl (fun a hf => e_call hf rfl call41 rfl (spec_l1In_ok _ x_.n_ 0 (w64 (k_ - 1)) _ ab)) ?_)))))))
    rintro az w ⟨rfl, hB⟩
    replace hm := hm.below' hB; clear hB
    refine tAk hm [0, 1] rfl fun hS => tP rfl (fun w => yM rfl) (gs 53 rfl (fun ac => ?_) fun ac => ?_)
    ·
     refine tP rfl (fun w => yF fo_65_2 rfl) (tP rfl (fun w => yF fo_28_0 rfl) (tP rfl (fun w => yF fo_65_3 rfl) (tQ rfl hS (fun w hm => yL hm 1 isAgg43 rfl) ?_)))
     obtain ⟨bA, bB, rfl, bC⟩ := ro_slice h2
     refine tP rfl (fun w => yV st_43 rfl) (tQ rfl hS (fun w hm => yL hm 0 isAgg26 rfl) (tO (tY rfl (yL hm 1 isAgg3 rfl) (tAs hS (gg fun bD ae aO => ?_)))))
     obtain ⟨bE, af, bF⟩ := rk_Code_ h1 aO
     exact tP rfl (fun w => yI st_26 ae (idx_lt aO) rfl) (tP rfl (fun w => yF fo_49_0 rfl) (tO (tY rfl (yl isAgg3 ((af.mono hm.lez).cell (j := 0) rfl) rfl) (tAs hS (tP rfl (fun w => yB rfl) (tP rfl (fun w => yKt rfl) (tP rfl (fun w => yA rfl) (tE (gz hm [] rfl)))))))))
    exact tPo rfl rfl (tPo rfl rfl (tPo rfl rfl (tQo rfl hS rfl (tPo rfl rfl (tQo rfl hS rfl (tO (tEo rfl rfl (tAs hS (tPo rfl rfl (tPo rfl rfl (tO (tEo rfl rfl (tAs hS (tPo rfl rfl (tP rfl (fun w => yKf rfl) (tP rfl (fun w => yA rfl) (tE (gz hm [] rfl))))))))))))))))))
   repeat clear hm
   intro aI w hm
   exact gRt (gr1 results153 rfl ⟨rfl, hm.below⟩)
  refine gcf rfl (gSk (gS (gJ hm (fun aJ => [(6, (.bool (aJ)))]) (fun aJ => []) (fun aJ => ?_) ?_)))
  ·
   refine gW (.p 0 (.p 3 (.q 1 (.p 2 (.e 4 (.e 5 (.p 6 (.p 7 (.p 8 (.e 9 (.e 10 (.p 11 (.p 12 (.p 13 (.e 14 (.p 15 (.p 16 (.p 17 (.e 18 (.p 19 (.p 20 (.p 21 (.p 22 .fin)))) .nil)))) .nil)))) .nil) .nil)))) .nil) .nil))))) [4, 5] [0, 2, 3, 6, 7, 8, 11, 12, 13, 15, 16, 17, 19, 20, 21, 22] hm [0, 1] [blk aA [(sV aD aE u.codes.length aF)] 28, blk aB [(nV x_.op), (nV x_.to), v2, (nV x_.n_)] 65] rfl mxo (by kernel_rfl) (fun _ _ _ h => h.2) fun w hm hS => tP rfl (fun w => yF fo_65_2 rfl) (tP rfl (fun w => yF fo_65_0 rfl) (tQ rfl hS (fun w hm => yL hm 1 isAgg43 rfl) ?_))
   obtain ⟨bG, bH, rfl, bJ⟩ := ro_slice h2
   refine tP rfl (fun w => yV st_43 rfl) (tO (tY rfl (yL hm 1 isAgg3 rfl) (tAs hS (tO (gb fun bK ah => tf rfl rfl (fun a hf => e_call hf rfl call234 rfl (spec_l7Args_ok _ x_.op _ ah)) ?_)))))
   rintro bL w ⟨rfl, hB⟩
   replace hm := hm.below' hB; clear hB
   refine tAk hm [0, 1] rfl fun hS => tP rfl (fun w => yB rfl) (tP rfl (fun w => yM rfl) (gsd 73 rfl (fun ai => ?_) fun ai => ?_))
   ·
    refine tP rfl (fun w => yF fo_65_3 rfl) (tO (tY rfl (yL hm 1 isAgg3 rfl) (tAn rfl (tO (gb fun bM aj => tf rfl rfl (fun a hf => e_call hf rfl call41 rfl (spec_l1In_ok _ x_.n_ 0 255 _ aj)) ?_)))))
    rintro bN w ⟨rfl, hB⟩
    replace hm := hm.below' hB; clear hB
    refine tAn rfl (tP rfl (fun w => yKt rfl) (tP rfl (fun w => yM rfl) (gs 78 rfl (fun ak => ?_) fun ak => ?_)))
    ·
     refine tP rfl (fun w => yF fo_65_3 rfl) (tO (tY rfl (yL hm 1 isAgg3 rfl) (tAn rfl (tP rfl (fun w => yB rfl) (tP rfl (fun w => yM rfl) (gsd 82 rfl (fun al => ?_) fun al => ?_))))))
     ·
      exact tPo rfl rfl (tO (tEo rfl rfl (tAn rfl (tPo rfl rfl (tP rfl (fun w => yKt rfl) (tP rfl (fun w => yKt rfl) (tP rfl (fun w => yA rfl) (tE (gz hm [] rfl)))))))))
     exact tP rfl (fun w => yF fo_65_0 rfl) (tO (tY rfl (yL hm 1 isAgg3 rfl) (tAn rfl (tP rfl (fun w => yB rfl) (tP rfl (fun w => yKf rfl) (tP rfl (fun w => yKt rfl) (tP rfl (fun w => yA rfl) (tE (gz hm [] rfl)))))))))
    exact tPo rfl rfl (tO (tEo rfl rfl (tAn rfl (tPo rfl rfl (tPo rfl rfl (tPo rfl rfl (tO (tEo rfl rfl (tAn rfl (tPo rfl rfl (tPo rfl rfl (tP rfl (fun w => yKf rfl) (tP rfl (fun w => yA rfl) (tE (gz hm [] rfl)))))))))))))))
   exact tPo rfl rfl (tO (tEo rfl rfl (tAn rfl (tO (tEo rfl rfl (tAn rfl (tP rfl (fun w => yKf rfl) (tP rfl (fun w => yM rfl) (tPo rfl rfl (tO (tEo rfl rfl (tAn rfl (tPo rfl rfl (tPo rfl rfl (tPo rfl rfl (tO (tEo rfl rfl (tAn rfl (tPo rfl rfl (tPo rfl rfl (tP rfl (fun w => yKf rfl) (tP rfl (fun w => yA rfl) (tE (gz hm [] rfl))))))))))))))))))))))))
  repeat clear hm
  intro aJ w hm
  exact gRt (gr1 results153 rfl ⟨rfl, hm.below⟩)
theorem spec_l7Preds_ok (w0 : World) (c_ : Code_) (v1 : Value) (h1 : GT.rep (hp w0) [v1] c_.blocks) (b_ : Int) :
    ConM Tryz.prog 129 [(.agg #[(nV c_.params), (nV c_.regs), v1]), (nV b_)] w0 (spec_l7Preds c_ b_) fun r v w' => ∃ (x1 : Value), v = x1 ∧ Mem w0 (hp w0) w' [ow [x1] r] := by
  unfold spec_l7Preds
  refine gcon func129 rfl fun r => ?_
  have hm := Mem.start w0
  refine gS (gR (gBx hm rfl fun aB w hm => gA rfl (gE (gS (gR (gf rfl (fun a hf => e_build0 (α := Int) et_43 hm rfl) ?_))))))
  rintro af w hm
  refine gA rfl (gE (gS (gS (gR (gA rfl (gE ?_))))))
  obtain ⟨aS, aT, rfl, ah⟩ := ro_slice (hm.ow_rep 0 rfl)
  refine gBk (gNg (fun aA aC a w => ∃ (aF : Value), St 43 [(1, (nV b_)), (2, (pV aB)), (5, aF), (6, (nV aA))] w0 (hp w0) [blk aB [(nV c_.params), (nV c_.regs), v1] 49, ow [aF] aC] a w) (fun a hf => ⟨(.slice aS ([] : List Int).length aT), hf.sb rfl, hm.pk [1, 0] rfl rfl⟩) ?_ ?_)
  ·
   repeat clear hm
   rintro _ _ aA aC a w ⟨aF, hf, hm⟩ ai aj ak _
   refine gv hf (gS (gS (gR (gM rfl (gF fo_49_2 rfl (gL hm 0 isAgg47 rfl ?_))))))
   obtain ⟨aM, aN, rfl, al⟩ := ro_slice h1
   refine gY (yV st_47 rfl) (gB rfl (gE (go _ 13 rfl (decide_eq_true (by omega)) (gct rfl (gSk (gS (gBk (gS (gR (gA rfl (gE ?_)))))))))))
   obtain ⟨aG, aH, rfl, am⟩ := ro_slice (hm.ow_rep 1 rfl)
   refine gJg (fun aI a w => ∃ (aD : Value), St 43 [(1, (nV b_)), (2, (pV aB)), (5, aD), (6, (nV aA))] w0 (hp w0) [blk aB [(nV c_.params), (nV c_.regs), (.slice aM c_.blocks.length aN)] 49, ow [aD] aI] a w) (fun aI => ?_) ?_
   ·
    refine gBk (gMf hm (fun aJ => [(1, (nV b_)), (2, (pV aB)), (5, (.slice aG aC.length aH)), (6, (nV aA)), (7, (nV aJ))]) (fun aJ => [blk aB [(nV c_.params), (nV c_.regs), (.slice aM c_.blocks.length aN)] 49, ow [(.slice aG aC.length aH)] aC]) [0, 1] rfl ?_)
    repeat clear hm
    intro an aO aJ w hm ao aP
    refine gS (gS (gR (gM rfl (gF fo_49_2 rfl (gL hm 0 isAgg47 rfl (gM rfl (gg fun ap aQ aE => ?_)))))))
    obtain ⟨aq, ar, au, he⟩ := idx_form' h1 aE
    obtain ⟨rfl, _, rfl⟩ := sl3 he
    obtain ⟨av, aw, ax, aR, ay, az, aK⟩ := rk_Block_ h1 aE
    refine gI st_47 aQ (idx_lt aE) rfl (gF fo_63_4 rfl (gY (yl isAgg43 ((aR.mono hm.lez).cell (j := 4) rfl) rfl) ?_))
    obtain ⟨bA, bB, rfl, bC⟩ := ro_slice aK
    refine gY (yV st_43 rfl) (gB rfl (gE (gsd 24 rfl (fun aV => ?_) fun aV => ?_)))
    ·
     refine gct rfl (gSk (gS (gBk (gS (gR (gF fo_49_2 rfl (gL hm 0 isAgg47 rfl (gM rfl (gI st_47 aQ (idx_lt aE) rfl (gF fo_63_4 rfl (gY (yl isAgg43 ((aR.mono hm.lez).cell (j := 4) rfl) rfl) (gM rfl (gg fun aW aX aL => ?_)))))))))))))
     obtain ⟨bD, bE, bF, he⟩ := idx_form aK aL
     obtain ⟨rfl, _, rfl⟩ := sl3 he
     refine gI st_43 aX (idx_lt aL) rfl (gY (yl isAgg3 ((flat_cells (cs := [(nV aW)]) (hm.now aK) aL rfl).cell (j := 0) rfl) rfl) (gM rfl (gB rfl (gE (gsd 37 rfl (fun aY => ?_) fun aY => ?_)))))
     ·
      refine gct rfl (gS (gR (gM rfl (gM rfl (gf rfl (fun a hf => e_build (vs := #[(0, (nV aA))]) (cs := [(nV aA)]) et_43 hf hm rfl rfl (by kernel_rfl) rfl rfl) ?_)))))
      rintro _ w ⟨bG, rfl, hm⟩
      replace hm := hm.lit (xs := ([aA] : List Int)) 0 rfl rfl rfl rfl
      refine gb fun bH aZ => ?_
      obtain ⟨aa, ab⟩ := appM_some.1 aZ
      refine gf rfl (fun a hf => e_append 2 et_43 hf hm rfl (hm.ow_rep 0 rfl) rfl rfl rfl aa) ?_
      rintro ac w hm
      rw [ab] at hm
      exact gA rfl (gE (gXt (gHm rfl (gHh (gLp aP aO (gZ fun a hf => ⟨ac, hf.sb rfl, hm.pk [1, 2] rfl rfl⟩))))))
     exact gcf rfl (gSk (gR (gM rfl (gB rfl (gA rfl (gE (gze hm [0, 1] rfl)))))))
    exact gcf rfl (gXt (gHh (gLp aP aO (gZ fun a hf => ⟨(.slice aG aC.length aH), hf.sb rfl, hm.pk [0, 1] rfl rfl⟩))))
   repeat clear hm
   rintro aI a w ⟨aD, hf, hm⟩
   exact gv hf (gR (gM rfl (gP (by omega) (by omega) rfl (gA rfl (gE (gZe fun a hf => ⟨aD, hf.sb rfl, hm.pk [0, 1] rfl rfl⟩))))))
  repeat clear hm
  rintro bJ bK a w ⟨ae, hf, hm⟩ bL bM
  refine gv hf (gS (gS (gR (gM rfl (gF fo_49_2 rfl (gL hm 0 isAgg47 rfl ?_))))))
  obtain ⟨bN, bO, rfl, bP⟩ := ro_slice h1
  exact gY (yV st_47 rfl) (gB rfl (gE (go _ 13 rfl (decide_eq_false (by omega)) (gcf rfl (gXt (gHh (gS (gR (gM rfl (gA rfl (gE (gRt (gr1 results129 rfl ⟨ae, rfl, hm.pk [1] rfl rfl⟩)))))))))))))
theorem spec_l7Block_ok (w0 : World) (u : Unit_) (v1 : Value) (h1 : GT.rep (hp w0) [v1] u.codes) (k_ : Int) (b_ : Int) :
    ConM Tryz.prog 86 [(.agg #[v1]), (nV k_), (nV b_)] w0 (spec_l7Block u k_ b_) fun r v w' => v = (.bool (r)) ∧ Below w0.heap.size w0 w' := by
  unfold spec_l7Block
  refine gcon func86 rfl fun r => ?_
  have hm := Mem.start w0
  refine gS (gR (gBx hm rfl fun aE w hm => gA rfl (gE (gS (gR (gF fo_28_0 rfl (gL hm 0 isAgg26 rfl (gM rfl (gg fun aB bD af => ?_)))))))))
  obtain ⟨aI, aJ, aK, he⟩ := idx_form' h1 af
  subst he
  obtain ⟨bq, bE, aO⟩ := rk_Code_ h1 af
  refine gI st_26 bD (idx_lt af) rfl (gY (yn (bE.mono hm.lez) isAgg49 sizeOf49 rfl) (gAl hm zeroValue49 rfl fun aC w hm => gSN hm 0 sizeOf49 (one_cons rfl (one_cons rfl (one_cons (rep_one aO) one_nil))) rfl fun w hm => gE (gS (gR (gF fo_49_2 rfl (gL hm 0 isAgg47 rfl (gM rfl (gg fun aA bF ah => ?_))))))))
  obtain ⟨aF, aG, aH, he⟩ := idx_form' aO ah
  subst he
  obtain ⟨aL, aN, aQ, bG, aR, aS, aP⟩ := rk_Block_ aO ah
  refine gI st_47 bF (idx_lt ah) rfl (gY (yn (bG.mono hm.lez) isAgg63 sizeOf63 rfl) (gAl hm zeroValue63 rfl fun aD w hm => gSN hm 0 sizeOf63 (one_cons (rep_one aR) (one_cons (rep_one aS) (one_cons rfl (one_cons rfl (one_cons (rep_one aP) one_nil))))) rfl fun w hm => gE (gS (gR (gA rfl (gE (gS (gS (gR (gF fo_63_2 rfl (gL hm 0 isAgg3 rfl (gE (gJge (fun aZ a w => 0 ≤ aA.jump ∧ aA.jump ≤ 3 ∧ 0 ≤ aZ ∧ aZ ≤ 2 ∧ St 136 [(1, (nV k_)), (2, (nV b_)), (3, (pV aE)), (7, (pV aC)), (8, (pV aD)), (9, (nV aZ))] w0 (hp w0) [blk aE [(sV aI aJ u.codes.length aK)] 28, blk aC [(nV aB.params), (nV aB.regs), (sV aF aG aB.blocks.length aH)] 49, blk aD [aL, aN, (nV aA.jump), (nV aA.on), aQ] 63] a w) (fun br au => ?_) ?_)))))))))))))
  ·
   refine gBk (gS (gR (gB rfl (gA rfl (gE (gJge (fun aa a w => 0 ≤ aA.jump ∧ aA.jump ≤ 3 ∧ 0 ≤ aa ∧ aa ≤ 2 ∧ St 136 [(1, (nV k_)), (2, (nV b_)), (3, (pV aE)), (7, (pV aC)), (8, (pV aD)), (9, (nV aa))] w0 (hp w0) [blk aE [(sV aI aJ u.codes.length aK)] 28, blk aC [(nV aB.params), (nV aB.regs), (sV aF aG aB.blocks.length aH)] 49, blk aD [aL, aN, (nV aA.jump), (nV aA.on), aQ] 63] a w) (fun bs av => ?_) ?_))))))
   ·
    refine gsd 26 rfl (fun bH => ?_) fun bH => ?_
    ·
     refine gct rfl (gS (gR (gF fo_63_3 rfl (gL hm 0 isAgg3 rfl (gB rfl (gE (gsd 30 rfl (fun bJ => ?_) fun bJ => ?_)))))))
     ·
      exact gct rfl (gS (gR (gA rfl (gE (gRt (gEr av (gEr au (gr1 results86 rfl ⟨rfl, hm.below⟩))))))))
     exact gcf rfl (gSk (gZe fun a hf => ⟨(by first | omega | (dsimp only; omega)), (by first | omega | (dsimp only; omega)), (by first | omega | (dsimp only; omega)), (by first | omega | (dsimp only; omega)), hf.sb rfl, hm.pk [2, 1, 0] rfl rfl⟩))
    refine gcf rfl (gS (gR (gB rfl (gA rfl (gE (gJge (fun ab a w => 0 ≤ aA.jump ∧ aA.jump ≤ 3 ∧ 0 ≤ ab ∧ ab ≤ 2 ∧ St 136 [(1, (nV k_)), (2, (nV b_)), (3, (pV aE)), (7, (pV aC)), (8, (pV aD)), (9, (nV ab))] w0 (hp w0) [blk aE [(sV aI aJ u.codes.length aK)] 28, blk aC [(nV aB.params), (nV aB.regs), (sV aF aG aB.blocks.length aH)] 49, blk aD [aL, aN, (nV aA.jump), (nV aA.on), aQ] 63] a w) (fun bt bK => ?_) ?_))))))
    ·
     refine gsd 31 rfl (fun bL => ?_) fun bL => ?_
     ·
      exact gct rfl (gR (gA rfl (gE (gZe fun a hf => ⟨(by first | omega | (dsimp only; omega)), (by first | omega | (dsimp only; omega)), (by first | omega | (dsimp only; omega)), (by first | omega | (dsimp only; omega)), hf.sb rfl, hm.pk [2, 1, 0] rfl rfl⟩))))
     refine gcf rfl (gS (gR (gB rfl (gA rfl (gE (gsd 33 rfl (fun bM => ?_) fun bM => ?_))))))
     ·
      exact gct rfl (gR (gA rfl (gE (gZe fun a hf => ⟨(by first | omega | (dsimp only; omega)), (by first | omega | (dsimp only; omega)), (by first | omega | (dsimp only; omega)), (by first | omega | (dsimp only; omega)), hf.sb rfl, hm.pk [2, 1, 0] rfl rfl⟩))))
     exact gcf rfl (gS (gR (gA rfl (gE (gRt (gEr bK (gEr av (gEr au (gr1 results86 rfl ⟨rfl, hm.below⟩)))))))))
    repeat clear hm
    rintro ab a w ⟨bu, bv, bx, bz, hf, hm⟩
    exact gv hf (gZe fun a hf => ⟨(by first | omega | (dsimp only; omega)), (by first | omega | (dsimp only; omega)), (by first | omega | (dsimp only; omega)), (by first | omega | (dsimp only; omega)), hf.sb rfl, hm.pk [0, 1, 2] rfl rfl⟩)
   repeat clear hm
   rintro aa a w ⟨cA, cB, cC, cD, hf, hm⟩
   exact gv hf (gZe fun a hf => ⟨(by first | omega | (dsimp only; omega)), (by first | omega | (dsimp only; omega)), (by first | omega | (dsimp only; omega)), (by first | omega | (dsimp only; omega)), hf.sb rfl, hm.pk [0, 1, 2] rfl rfl⟩)
  repeat clear hm
  rintro aZ a w ⟨cE, cF, cG, cH, hf, hm⟩
  refine gv hf (gS (gS (gJg (fun ai a w => 0 ≤ aA.jump ∧ aA.jump ≤ 3 ∧ St 136 [(1, (nV k_)), (2, (nV b_)), (3, (pV aE)), (7, (pV aC)), (8, (pV aD)), (53, (.bool (ai)))] w0 (hp w0) [blk aE [(sV aI aJ u.codes.length aK)] 28, blk aC [(nV aB.params), (nV aB.regs), (sV aF aG aB.blocks.length aH)] 49, blk aD [aL, aN, (nV aA.jump), (nV aA.on), aQ] 63] a w) (fun ai => ?_) ?_)))
  ·
   refine gR (gF fo_63_4 rfl (gL hm 2 isAgg43 rfl ?_))
   obtain ⟨cI, cJ, rfl, cK⟩ := ro_slice aP
   refine gY (yV st_43 rfl) (gM rfl (gB rfl (gM rfl (gsd 40 rfl (fun bN => ?_) fun bN => ?_))))
   ·
    exact gO rfl (gO rfl (gO rfl (gO rfl (gO rfl (gO rfl (gO rfl (gO rfl (gO rfl (gO rfl (gO rfl (gO rfl (gKt rfl (gE (gZ fun a hf => ⟨(by first | omega | (dsimp only; omega)), (by first | omega | (dsimp only; omega)), hf.sb rfl, hm.pk [0, 1, 2] rfl rfl⟩))))))))))))))
   refine gF fo_63_2 rfl (gL hm 2 isAgg3 rfl (gB rfl (gM rfl (gsd 44 rfl (fun bO => ?_) fun bO => ?_))))
   ·
    exact gF fo_63_3 rfl (gL hm 2 isAgg3 rfl (gF fo_49_1 rfl (gL hm 1 isAgg3 rfl (gB rfl (gC hm rfl call41 (spec_l1In_ok _ aA.on 0 (w64 (aB.regs - 1))) fun cL cM w hm => gN rfl (gKt rfl (gKf rfl (gE (gZ fun a hf => ⟨(by first | omega | (dsimp only; omega)), (by first | omega | (dsimp only; omega)), hf.sb rfl, hm.pk [0, 1, 2] rfl rfl⟩)))))))))
   exact gO rfl (gO rfl (gO rfl (gO rfl (gO rfl (gO rfl (gO rfl (gKf rfl (gKf rfl (gE (gZ fun a hf => ⟨(by first | omega | (dsimp only; omega)), (by first | omega | (dsimp only; omega)), hf.sb rfl, hm.pk [0, 1, 2] rfl rfl⟩))))))))))
  repeat clear hm
  rintro ai a w ⟨cN, cO, hf, hm⟩
  refine gv hf (gs 53 rfl (fun bP => ?_) fun bP => ?_)
  ·
   exact gct rfl (gS (gR (gA rfl (gE (gRt (gr1 results86 rfl ⟨rfl, hm.below⟩))))))
  refine gcf rfl (gSk (gS (gS (gR (gA rfl (gE (gBk (gNf hm (fun aj aw => [(1, (nV k_)), (2, (nV b_)), (3, (pV aE)), (7, (pV aC)), (8, (pV aD)), (10, (nV aj))]) (fun aj aw => [blk aE [(sV aI aJ u.codes.length aK)] 28, blk aC [(nV aB.params), (nV aB.regs), (sV aF aG aB.blocks.length aH)] 49, blk aD [aL, aN, (nV aA.jump), (nV aA.on), aQ] 63]) [0, 1, 2] rfl ?_ ?_))))))))
  ·
   repeat clear hm
   intro cP bQ aj aw w hm cQ cR cS bR
   refine gS (gS (gR (gM rfl (gF fo_63_4 rfl (gL hm 2 isAgg43 rfl ?_)))))
   obtain ⟨bS, bT, rfl, cT⟩ := ro_slice aP
   refine gY (yV st_43 rfl) (gB rfl (gE (go _ 58 rfl (decide_eq_true (by omega)) (gct rfl (gSk (gS (gBk (gS (gW (.p 0 (.p 2 (.p 5 (.q 1 (.p 3 (.q 4 (.e 6 (.p 7 (.p 8 (.e 9 (.p 10 .fin) .nil))) .nil))))))) [6] [0, 2, 3, 5, 7, 8, 10] hm [0, 1, 2] [blk aE [(sV aI aJ u.codes.length aK)] 28, blk aC [(nV aB.params), (nV aB.regs), (sV aF aG aB.blocks.length aH)] 49, blk aD [aL, aN, (nV aA.jump), (nV aA.on), (.slice bS aA.next_.length bT)] 63] rfl mxo (by kernel_rfl) (fun _ _ _ h => h.2) fun w hm hS => tP rfl (fun w => yF fo_63_4 rfl) (tP rfl (fun w => yM rfl) (tP rfl (fun w => yF fo_49_2 rfl) (tQ rfl hS (fun w hm => yL hm 2 isAgg43 rfl) (gg fun ax bU ak => ?_)))))))))))))
   obtain ⟨cU, cV, cW, he⟩ := idx_form aP ak
   obtain ⟨rfl, _, rfl⟩ := sl3 he
   refine tP rfl (fun w => yI st_43 bU (idx_lt ak) rfl) (tQ rfl hS (fun w hm => yl isAgg3 ((flat_cells (cs := [(nV ax)]) (hm.now aP) ak rfl).cell (j := 0) rfl) rfl) (tO (tY rfl (yL hm 1 isAgg47 rfl) (tAs hS ?_))))
   have cX := rep_len aO
   refine tP rfl (fun w => yV st_47 rfl) (tP rfl (fun w => yS (by omega) (by omega) rfl) (tO (gb fun cY bV => tf rfl rfl (fun a hf => e_call hf rfl call41 rfl (spec_l1In_ok _ ax 1 (((aB.blocks.length : Int)) - 1) _ bV)) ?_)))
   rintro cZ w ⟨rfl, hB⟩
   replace hm := hm.below' hB; clear hB
   refine tAn rfl (tP rfl (fun w => yN rfl) (tE (gsn 71 rfl (fun bW => ?_) fun bW => ?_)))
   ·
    exact gct rfl (gS (gR (gA rfl (gE (gRt (gLr bR bQ (gr1 results86 rfl ⟨rfl, hm.below⟩)))))))
   exact gcf rfl (gSk (gR (gM rfl (gP (by omega) (by omega) rfl (gA rfl (gE (gze hm [0, 1, 2] rfl)))))))
  repeat clear hm
  intro c4 c5 w hm c6 c7
  refine gS (gS (gR (gM rfl (gF fo_63_4 rfl (gL hm 2 isAgg43 rfl ?_)))))
  obtain ⟨aT, aV, rfl, c8⟩ := ro_slice aP
  refine gY (yV st_43 rfl) (gB rfl (gE (go _ 58 rfl (decide_eq_false (by omega)) (gcf rfl (gXt (gHh (gS (gS (gR (gA rfl (gE (gBk (gNf hm (fun al ay => [(1, (nV k_)), (2, (nV b_)), (3, (pV aE)), (7, (pV aC)), (8, (pV aD)), (11, (nV al))]) (fun al ay => [blk aE [(sV aI aJ u.codes.length aK)] 28, blk aC [(nV aB.params), (nV aB.regs), (sV aF aG aB.blocks.length aH)] 49, blk aD [aL, aN, (nV aA.jump), (nV aA.on), (.slice aT aA.next_.length aV)] 63]) [0, 1, 2] rfl ?_ ?_)))))))))))))
  ·
   repeat clear hm
   intro c9 bX al ay w hm ca cb cc bY
   refine gS (gS (gR (gM rfl (gF fo_63_1 rfl (gL hm 2 isAgg61 rfl ?_)))))
   obtain ⟨bZ, b6, rfl, cd⟩ := ro_slice aS
   refine gY (yV st_61 rfl) (gB rfl (gE (go _ 76 rfl (decide_eq_true (by omega)) (gct rfl (gSk (gS (gBk (gS (gW (.p 1 (.p 2 (.p 4 (.q 0 (.e 3 (.p 5 (.e 6 (.e 7 (.p 8 .fin) .nil) .nil)) .nil))))) [3, 6] [1, 2, 4, 5, 8] hm [0, 1, 2] [blk aE [(sV aI aJ u.codes.length aK)] 28, blk aC [(nV aB.params), (nV aB.regs), (sV aF aG aB.blocks.length aH)] 49, blk aD [aL, (.slice bZ aA.ins.length b6), (nV aA.jump), (nV aA.on), (.slice aT aA.next_.length aV)] 63] rfl mxo (by kernel_rfl) (fun _ _ _ h => h.2) fun w hm hS => tP rfl (fun w => yM rfl) (tP rfl (fun w => yF fo_63_1 rfl) (tP rfl (fun w => yM rfl) (tQ rfl hS (fun w hm => yn (hm.blk_at 0 rfl) isAgg28 sizeOf28 rfl) (tO (tY rfl (yL hm 2 isAgg61 rfl) (tAs hS (gg fun b8 b9 am => ?_))))))))))))))))
   obtain ⟨ce, cf, cg, he⟩ := idx_form' aS am
   obtain ⟨rfl, _, rfl⟩ := sl3 he
   obtain ⟨ba, bb, bc⟩ := rk_Ins_ aS am
   refine tP rfl (fun w => yI st_61 b9 (idx_lt am) rfl) (tO (tY rfl (yn (bb.mono hm.lez) isAgg65 sizeOf65 rfl) (tAs hS (tO (gb fun ci bd => tf rfl rfl (fun a hf => e_call hf rfl call153 rfl (spec_l7Ins_ok _ u (sV aI aJ u.codes.length aK) (hm.now h1) k_ b8 ba (hm.now bc) _ bd)) ?_)))))
   rintro cj w ⟨rfl, hB⟩
   replace hm := hm.below' hB; clear hB
   refine tAn rfl (tP rfl (fun w => yN rfl) (tE (gsn 87 rfl (fun be => ?_) fun be => ?_)))
   ·
    exact gct rfl (gS (gR (gA rfl (gE (gRt (gLr bY bX (gr1 results86 rfl ⟨rfl, hm.below⟩)))))))
   exact gcf rfl (gSk (gR (gM rfl (gP (by omega) (by omega) rfl (gA rfl (gE (gze hm [0, 1, 2] rfl)))))))
  repeat clear hm
  intro ck cl w hm cm cn
  refine gS (gS (gR (gM rfl (gF fo_63_1 rfl (gL hm 2 isAgg61 rfl ?_)))))
  obtain ⟨an, ao, rfl, co⟩ := ro_slice aS
  refine gY (yV st_61 rfl) (gB rfl (gE (go _ 76 rfl (decide_eq_false (by omega)) (gcf rfl (gXt (gHh (gS (gR (gY (yn (hm.blk_at 1 rfl) isAgg49 sizeOf49 rfl) (gM rfl (gCg rfl call129 (spec_l7Preds_ok _ aB (sV aF aG aB.blocks.length aH) (hm.now aO) b_) ?_)))))))))))
  rintro aM cq cr w ⟨_, rfl, hB⟩
  replace hm := hm.give hB; clear hB
  refine gA rfl (gE (gS (gS (gR (gA rfl (gE ?_))))))
  obtain ⟨aW, aX, rfl, ct⟩ := ro_slice (hm.ow_rep 0 rfl)
  refine gBk (gNf hm (fun ac az => [(2, (nV b_)), (7, (pV aC)), (8, (pV aD)), (12, (.slice aW aM.length aX)), (13, (nV ac))]) (fun ac az => [blk aC [(nV aB.params), (nV aB.regs), (sV aF aG aB.blocks.length aH)] 49, blk aD [aL, (.slice an aA.ins.length ao), (nV aA.jump), (nV aA.on), (.slice aT aA.next_.length aV)] 63, ow [(.slice aW aM.length aX)] aM]) [2, 3, 0] rfl ?_ ?_)
  ·
   repeat clear hm
   intro cu bf ac az w hm cv cw cx bg
   refine gS (gS (gR (gM rfl (gF fo_63_0 rfl (gL hm 1 isAgg60 rfl ?_)))))
   obtain ⟨bA, bB, rfl, cy⟩ := ro_slice aR
   refine gY (yV st_60 rfl) (gB rfl (gE (go _ 95 rfl (decide_eq_true (by omega)) (gct rfl (gSk (gS (gBk (gS (gJ hm (fun ae => [(2, (nV b_)), (7, (pV aC)), (8, (pV aD)), (12, (.slice aW aM.length aX)), (13, (nV ac)), (135, (.bool (ae)))]) (fun ae => [blk aC [(nV aB.params), (nV aB.regs), (sV aF aG aB.blocks.length aH)] 49, blk aD [(.slice bA aA.phis.length bB), (.slice an aA.ins.length ao), (nV aA.jump), (nV aA.on), (.slice aT aA.next_.length aV)] 63, ow [(.slice aW aM.length aX)] aM]) (fun ae => ?_) ?_)))))))))
   ·
    refine gW (.p 0 (.p 1 (.p 2 (.p 3 (.p 5 (.p 10 (.p 11 (.e 4 (.p 6 (.p 7 (.e 8 (.p 9 (.p 12 (.p 13 (.p 14 (.p 16 (.p 18 (.q 15 (.e 17 (.p 19 (.p 20 (.e 21 (.e 22 (.p 23 (.p 24 (.p 25 (.p 26 (.p 28 (.p 32 (.q 27 (.p 29 (.p 30 (.q 31 (.e 33 (.p 34 (.e 35 (.p 36 (.p 37 .fin)) .nil)) .nil))))))))))) .nil) .nil))) .nil)))))))) .nil))) .nil)))))))) [17, 21, 33] [0, 1, 2, 3, 5, 6, 7, 9, 10, 11, 12, 13, 14, 16, 18, 19, 20, 23, 24, 25, 26, 28, 29, 30, 32, 34, 36, 37] hm [0, 1, 2] [blk aC [(nV aB.params), (nV aB.regs), (sV aF aG aB.blocks.length aH)] 49, blk aD [(.slice bA aA.phis.length bB), (.slice an aA.ins.length ao), (nV aA.jump), (nV aA.on), (.slice aT aA.next_.length aV)] 63, ow [(.slice aW aM.length aX)] aM] rfl mxo (by kernel_rfl) (fun _ _ _ h => h.2) fun w hm hS => tP rfl (fun w => yM rfl) (tP rfl (fun w => yB rfl) (tP rfl (fun w => yM rfl) (gsd 100 rfl (fun bh => ?_) fun bh => ?_)))
    ·
     refine tPo rfl rfl (tPo rfl rfl (tPo rfl rfl (tPo rfl rfl (tO (tEo rfl rfl (tAn rfl (tPo rfl rfl (tPo rfl rfl (tO (tEo rfl rfl (tAn rfl (tPo rfl rfl (tPo rfl rfl (tP rfl (fun w => yKt rfl) (tP rfl (fun w => yM rfl) (tPo rfl rfl (tPo rfl rfl (tQo rfl hS rfl (tO (tEo rfl rfl (tAs hS (tPo rfl rfl (tPo rfl rfl (tO (tEo rfl rfl (tAs hS (tO (tEo rfl rfl (tAn rfl (tPo rfl rfl ?_))))))))))))))))))))))))))))))
     exact tP rfl (fun w => yKt rfl) (tP rfl (fun w => yM rfl) (tPo rfl rfl (tPo rfl rfl (tPo rfl rfl (tQo rfl hS rfl (tPo rfl rfl (tPo rfl rfl (tQo rfl hS rfl (tO (tEo rfl rfl (tAs hS (tPo rfl rfl (tO (tEo rfl rfl (tAn rfl (tPo rfl rfl (tP rfl (fun w => yKt rfl) (tE (gz hm [0, 1, 2] rfl)))))))))))))))))))
    refine tP rfl (fun w => yF fo_63_0 rfl) (tP rfl (fun w => yM rfl) (tP rfl (fun w => yM rfl) (tP rfl (fun w => yV st_43 rfl) (tO (tY rfl (yL hm 1 isAgg60 rfl) (tAn rfl (gg fun ap aq aY => ?_)))))))
    obtain ⟨cz, dA, dD, he⟩ := idx_form' aR aY
    obtain ⟨rfl, _, rfl⟩ := sl3 he
    obtain ⟨dE, ar, bC⟩ := rk_Phi_ aR aY
    refine tP rfl (fun w => yI st_60 aq (idx_lt aY) rfl) (tP rfl (fun w => yF fo_127_1 rfl) (tO (tY rfl (yl isAgg43 ((ar.mono hm.lez).cell (j := 1) rfl) rfl) (tAn rfl ?_))))
    obtain ⟨bi, bj, rfl, dF⟩ := ro_slice bC
    refine tP rfl (fun w => yV st_43 rfl) (tP rfl (fun w => yB rfl) (tP rfl (fun w => yKf rfl) (tP rfl (fun w => yM rfl) (gsd 112 rfl (fun bk => ?_) fun bk => ?_))))
    ·
     refine tPo rfl rfl (tPo rfl rfl (tQo rfl hS rfl (tO (tEo rfl rfl (tAs hS (tPo rfl rfl (tPo rfl rfl (tO (tEo rfl rfl (tAs hS (tO (tEo rfl rfl (tAn rfl (tPo rfl rfl (tP rfl (fun w => yKt rfl) (tP rfl (fun w => yM rfl) (tPo rfl rfl (tPo rfl rfl (tPo rfl rfl (tQo rfl hS rfl (tPo rfl rfl (tPo rfl rfl (tQo rfl hS rfl (tO (tEo rfl rfl (tAs hS (tPo rfl rfl (tO (tEo rfl rfl (tAn rfl ?_))))))))))))))))))))))))))))))
     exact tPo rfl rfl (tP rfl (fun w => yKt rfl) (tE (gz hm [0, 1, 2] rfl)))
    refine tP rfl (fun w => yF fo_63_0 rfl) (tP rfl (fun w => yM rfl) (tQ rfl hS (fun w hm => yn (hm.blk_at 0 rfl) isAgg49 sizeOf49 rfl) (tO (tY rfl (yL hm 1 isAgg60 rfl) (tAs hS (tP rfl (fun w => yI st_60 aq (idx_lt aY) rfl) (tP rfl (fun w => yF fo_127_1 rfl) (tO (tY rfl (yl isAgg43 ((ar.mono hm.lez).cell (j := 1) rfl) rfl) (tAs hS (tO (gb fun dG bl => tf rfl rfl (fun a hf => e_call hf rfl call154 rfl (spec_l7Regs_ok _ aB (sV aF aG aB.blocks.length aH) (hm.now aO) ap.args (.slice bi ap.args.length bj) (hm.now bC) _ bl)) ?_))))))))))))
    rintro dH w ⟨rfl, hB⟩
    replace hm := hm.below' hB; clear hB
    refine tAk hm [0, 1, 2] rfl fun hS => tP rfl (fun w => yN rfl) (tP rfl (fun w => yKf rfl) (tP rfl (fun w => yM rfl) (gsn 123 rfl (fun bm => ?_) fun bm => ?_)))
    ·
     exact tPo rfl rfl (tPo rfl rfl (tPo rfl rfl (tQo rfl hS rfl (tPo rfl rfl (tPo rfl rfl (tQo rfl hS rfl (tO (tEo rfl rfl (tAs hS (tPo rfl rfl (tO (tEo rfl rfl (tAn rfl (tPo rfl rfl (tP rfl (fun w => yKt rfl) (tE (gz hm [0, 1, 2] rfl)))))))))))))))))
    refine tP rfl (fun w => yF fo_63_0 rfl) (tP rfl (fun w => yM rfl) (tP rfl (fun w => yF fo_49_1 rfl) (tQ rfl hS (fun w hm => yL hm 1 isAgg60 rfl) (tP rfl (fun w => yI st_60 aq (idx_lt aY) rfl) (tP rfl (fun w => yF fo_127_0 rfl) (tQ rfl hS (fun w hm => yl isAgg3 ((ar.mono hm.lez).cell (j := 0) rfl) rfl) (tO (tY rfl (yL hm 0 isAgg3 rfl) (tAs hS (tP rfl (fun w => yB rfl) (tO (gb fun dI bo => tf rfl rfl (fun a hf => e_call hf rfl call41 rfl (spec_l1In_ok _ ap.to 0 (w64 (aB.regs - 1)) _ bo)) ?_))))))))))))
    rintro dJ w ⟨rfl, hB⟩
    replace hm := hm.below' hB; clear hB
    exact tAn rfl (tP rfl (fun w => yN rfl) (tP rfl (fun w => yKf rfl) (tE (gz hm [0, 1, 2] rfl))))
   repeat clear hm
   intro ae w hm
   refine gs 135 rfl (fun bp => ?_) fun bp => ?_
   ·
    exact gct rfl (gS (gR (gA rfl (gE (gRt (gLr bg bf (gr1 results86 rfl ⟨rfl, hm.below⟩)))))))
   exact gcf rfl (gSk (gR (gM rfl (gP (by omega) (by omega) rfl (gA rfl (gE (gze hm [0, 1, 2] rfl)))))))
  repeat clear hm
  intro dK dL w hm dM dN
  refine gS (gS (gR (gM rfl (gF fo_63_0 rfl (gL hm 1 isAgg60 rfl ?_)))))
  obtain ⟨dO, dP, rfl, dQ⟩ := ro_slice aR
  exact gY (yV st_60 rfl) (gB rfl (gE (go _ 95 rfl (decide_eq_false (by omega)) (gcf rfl (gXt (gHh (gS (gR (gA rfl (gE (gRt (gr1 results86 rfl ⟨rfl, hm.below⟩))))))))))))
theorem spec_UnitValid_ok (w0 : World) (u : Unit_) (v1 : Value) (h1 : GT.rep (hp w0) [v1] u.codes) :
    ConM Tryz.prog 39 [(.agg #[v1])] w0 (spec_UnitValid u) fun r v w' => v = (.bool (r)) ∧ Below w0.heap.size w0 w' := by
  unfold spec_UnitValid
  refine gcon func39 rfl fun r => ?_
  have hm := Mem.start w0
  refine gS (gR (gBx hm rfl fun aB w hm => gA rfl (gE (gS (gS (gR (gF fo_28_0 rfl (gL hm 0 isAgg26 rfl ?_))))))))
  obtain ⟨aX, aE, rfl, ap⟩ := ro_slice h1
  refine gY (yV st_26 rfl) (gC hm rfl call41 (spec_l1In_ok _ (u.codes.length : Int) 1 4) fun aq ar w hm => gN rfl (gE (gsn 11 rfl (fun aY => ?_) fun aY => ?_)))
  ·
   exact gct rfl (gS (gR (gA rfl (gE (gRt (gr1 results39 rfl ⟨rfl, hm.below⟩))))))
  refine gcf rfl (gSk (gS (gR (gA rfl (gE (gS (gS (gR (gA rfl (gE (gBk (gNf hm (fun aC aJ => [(1, (pV aB)), (3, (nV aJ)), (4, (nV aC))]) (fun aC aJ => [blk aB [(.slice aX u.codes.length aE)] 28]) [0] rfl ?_ ?_))))))))))))
  ·
   repeat clear hm
   intro au aP aC aJ w hm av aw ax aQ
   refine gS (gS (gR (gM rfl (gF fo_28_0 rfl (gL hm 0 isAgg26 rfl (gY (yV st_26 rfl) (gB rfl (gE (go _ 16 rfl (decide_eq_true (by omega)) (gct rfl (gSk (gS (gBk (gS (gR (gF fo_28_0 rfl (gL hm 0 isAgg26 rfl (gM rfl (gg fun aA aZ aO => ?_)))))))))))))))))))
   obtain ⟨aG, aH, ay, he⟩ := idx_form' h1 aO
   obtain ⟨rfl, _, rfl⟩ := sl3 he
   obtain ⟨aR, aa, aF⟩ := rk_Code_ h1 aO
   refine gI st_26 aZ (idx_lt aO) rfl (gY (yn (aa.mono hm.lez) isAgg49 sizeOf49 rfl) (gAl hm zeroValue49 rfl fun aD w hm => gSN hm 0 sizeOf49 (one_cons rfl (one_cons rfl (one_cons (rep_one aF) one_nil))) rfl fun w hm => gE (gS (gS (gJ hm (fun aK => [(1, (pV aB)), (3, (nV aJ)), (4, (nV aC)), (5, (pV aD)), (42, (.bool (aK)))]) (fun aK => [blk aB [(sV aG aH u.codes.length aE)] 28, blk aD [(nV aA.params), (nV aA.regs), aR] 49]) (fun aK => ?_) ?_)))))
   ·
    refine gR (gF fo_49_0 rfl (gL hm 0 isAgg3 rfl (gC hm rfl call41 (spec_l1In_ok _ aA.params 0 3) fun az bA w hm => gN rfl (gM rfl (gsn 28 rfl (fun ab => ?_) fun ab => ?_)))))
    ·
     exact gO rfl (gO rfl (gO rfl (gO rfl (gO rfl (gO rfl (gKt rfl (gM rfl (gO rfl (gO rfl (gO rfl (gO rfl (gO rfl (gKt rfl (gE (gz hm [1, 0] rfl)))))))))))))))
    refine gF fo_49_1 rfl (gL hm 0 isAgg3 rfl (gF fo_49_0 rfl (gL hm 0 isAgg3 rfl (gC hm rfl call41 (spec_l1In_ok _ aA.regs aA.params 300) fun bB bC w hm => gN rfl (gKf rfl (gM rfl (gsn 36 rfl (fun ac => ?_) fun ac => ?_)))))))
    ·
     exact gO rfl (gO rfl (gO rfl (gO rfl (gO rfl (gKt rfl (gE (gz hm [1, 0] rfl)))))))
    refine gF fo_49_2 rfl (gL hm 0 isAgg47 rfl ?_)
    obtain ⟨bD, bE, rfl, bF⟩ := ro_slice aF
    exact gY (yV st_47 rfl) (gC hm rfl call41 (spec_l1In_ok _ (aA.blocks.length : Int) 1 160) fun bG bH w hm => gN rfl (gKf rfl (gE (gz hm [1, 0] rfl))))
   repeat clear hm
   intro aK w hm
   refine gs 42 rfl (fun ae => ?_) fun ae => ?_
   ·
    exact gct rfl (gS (gR (gA rfl (gE (gRt (gLr aQ aP (gr1 results39 rfl ⟨rfl, hm.below⟩)))))))
   refine gcf rfl (gSk (gS (gR (gA rfl (gE (gBk (gNf hm (fun aI aL => [(1, (pV aB)), (3, (nV aL)), (4, (nV aC)), (5, (pV aD)), (6, (nV aI))]) (fun aI aL => [blk aB [(sV aG aH u.codes.length aE)] 28, blk aD [(nV aA.params), (nV aA.regs), aR] 49]) [0, 1] rfl ?_ ?_)))))))
   ·
    repeat clear hm
    intro bJ af aI aL w hm bK bL bM ah
    refine gS (gS (gR (gM rfl (gF fo_49_2 rfl (gL hm 1 isAgg47 rfl ?_)))))
    obtain ⟨ai, aS, rfl, bN⟩ := ro_slice aF
    refine gY (yV st_47 rfl) (gB rfl (gE (go _ 47 rfl (decide_eq_true (by omega)) (gct rfl (gSk (gS (gBk (gS (gW (.p 0 (.p 1 (.p 3 (.p 9 (.p 11 (.q 2 (.p 4 (.p 5 (.q 6 (.p 7 (.p 8 (.e 10 (.p 12 (.p 13 (.e 14 (.p 15 (.p 16 (.p 17 .fin))) .nil))) .nil)))))))))))) [10, 14] [0, 1, 3, 4, 5, 7, 8, 9, 11, 12, 13, 15, 16, 17] hm [0, 1] [blk aB [(sV aG aH u.codes.length aE)] 28, blk aD [(nV aA.params), (nV aA.regs), (.slice ai aA.blocks.length aS)] 49] rfl mxo (by kernel_rfl) (fun _ _ _ h => h.2) fun w hm hS => tP rfl (fun w => yM rfl) (tP rfl (fun w => yF fo_49_2 rfl) (tP rfl (fun w => yM rfl) (tP rfl (fun w => yF fo_49_2 rfl) (tP rfl (fun w => yM rfl) (tQ rfl hS (fun w hm => yL hm 1 isAgg47 rfl) (gg fun aT aV aM => ?_)))))))))))))))
    obtain ⟨aj, ak, bO, he⟩ := idx_form' aF aM
    obtain ⟨rfl, _, rfl⟩ := sl3 he
    obtain ⟨bP, bQ, bR, aW, al, am, bS⟩ := rk_Block_ aF aM
    refine tP rfl (fun w => yI st_47 aV (idx_lt aM) rfl) (tP rfl (fun w => yF fo_63_1 rfl) (tQ rfl hS (fun w hm => yl isAgg61 ((aW.mono hm.lez).cell (j := 1) rfl) rfl) ?_))
    obtain ⟨bT, bU, rfl, bV⟩ := ro_slice am
    refine tP rfl (fun w => yV st_61 rfl) (tP rfl (fun w => yB rfl) (tO (tY rfl (yL hm 1 isAgg47 rfl) (tAs hS (tP rfl (fun w => yI st_47 aV (idx_lt aM) rfl) (tP rfl (fun w => yF fo_63_0 rfl) (tO (tY rfl (yl isAgg60 ((aW.mono hm.lez).cell (j := 0) rfl) rfl) (tAs hS ?_)))))))))
    obtain ⟨bW, bX, rfl, bY⟩ := ro_slice al
    refine tP rfl (fun w => yV st_60 rfl) (tP rfl (fun w => yB rfl) (tP rfl (fun w => yA rfl) (tE (gS (gJ hm (fun aN => [(1, (pV aB)), (3, (nV (w64 ((w64 (aL + ((aT.ins.length : Int)))) + ((aT.phis.length : Int)))))), (4, (nV aC)), (5, (pV aD)), (6, (nV aI)), (75, (.bool (aN)))]) (fun aN => [blk aB [(sV aG aH u.codes.length aE)] 28, blk aD [(nV aA.params), (nV aA.regs), (sV aj ak aA.blocks.length aS)] 49]) (fun aN => ?_) ?_)))))
    ·
     refine gR (gM rfl (gB rfl (gM rfl (gsd 69 rfl (fun an => ?_) fun an => ?_))))
     ·
      exact gO rfl (gO rfl (gO rfl (gO rfl (gO rfl (gKt rfl (gE (gz hm [0, 1] rfl)))))))
     exact gY (yn (hm.blk_at 0 rfl) isAgg28 sizeOf28 rfl) (gM rfl (gM rfl (gC hm rfl call86 (spec_l7Block_ok _ u (sV aG aH u.codes.length aE) (hm.now h1) aC aI) fun bZ b6 w hm => gN rfl (gKf rfl (gE (gz hm [0, 1] rfl))))))
    repeat clear hm
    intro aN w hm
    refine gs 75 rfl (fun ao => ?_) fun ao => ?_
    ·
     exact gct rfl (gS (gR (gA rfl (gE (gRt (gLr ah af (gLr aQ aP (gr1 results39 rfl ⟨rfl, hm.below⟩))))))))
    exact gcf rfl (gSk (gR (gM rfl (gP (by omega) (by omega) rfl (gA rfl (gE (gze hm [0, 1] rfl)))))))
   repeat clear hm
   intro b8 b9 w hm ba bb
   refine gS (gS (gR (gM rfl (gF fo_49_2 rfl (gL hm 1 isAgg47 rfl ?_)))))
   obtain ⟨bc, bd, rfl, be⟩ := ro_slice aF
   exact gY (yV st_47 rfl) (gB rfl (gE (go _ 47 rfl (decide_eq_false (by omega)) (gcf rfl (gXt (gHh (gR (gM rfl (gP (by omega) (by omega) rfl (gA rfl (gE (gze hm [0] rfl))))))))))))
  repeat clear hm
  intro bf bg w hm bh bi
  exact gS (gS (gR (gM rfl (gF fo_28_0 rfl (gL hm 0 isAgg26 rfl (gY (yV st_26 rfl) (gB rfl (gE (go _ 16 rfl (decide_eq_false (by omega)) (gcf rfl (gXt (gHh (gS (gR (gA rfl (gE (gRt (gr1 results39 rfl ⟨rfl, hm.below⟩))))))))))))))))))
theorem spec_l10At_ok (w0 : World) (list : List Int) (v1 : Value) (h1 : GT.rep (hp w0) [v1] list) (n_ : Int) :
    ConM Tryz.prog 176 [v1, (nV n_)] w0 (spec_l10At list n_) fun r v w' => v = (nV r) ∧ Below w0.heap.size w0 w' := by
  unfold spec_l10At
  refine gcon func176 rfl fun r => ?_
  have hm := Mem.start w0
  refine gS (gR (gA rfl (gE (gS (gS (gR (gA rfl (gE (gBk (gNf hm (fun aA aC => [(0, v1), (1, (nV n_)), (5, (nV aA))]) (fun aA aC => []) [] rfl ?_ ?_))))))))))
  ·
   repeat clear hm
   intro aI aD aA aC w hm aJ aK aL aE
   refine gS (gS (gR (gM rfl (gM rfl ?_))))
   obtain ⟨aM, aN, rfl, aO⟩ := ro_slice h1
   refine gY (yV st_43 rfl) (gB rfl (gE (go _ 9 rfl (decide_eq_true (by omega)) (gct rfl (gSk (gS (gBk (gS (gR (gM rfl (gM rfl (gg fun aF aG aB => ?_))))))))))))
   obtain ⟨aP, aQ, aR, he⟩ := idx_form h1 aB
   obtain ⟨rfl, _, rfl⟩ := sl3 he
   refine gI st_43 aG (idx_lt aB) rfl (gY (yl isAgg3 ((flat_cells (cs := [(nV aF)]) (hm.now h1) aB rfl).cell (j := 0) rfl) rfl) (gM rfl (gB rfl (gE (gsd 17 rfl (fun aH => ?_) fun aH => ?_)))))
   ·
    exact gct rfl (gS (gR (gM rfl (gA rfl (gE (gRt (gLr aE aD (gr1 results176 rfl ⟨rfl, hm.below⟩))))))))
   exact gcf rfl (gSk (gR (gM rfl (gP (by omega) (by omega) rfl (gA rfl (gE (gze hm [] rfl)))))))
  repeat clear hm
  intro aS aT w hm aV aW
  refine gS (gS (gR (gM rfl (gM rfl ?_))))
  obtain ⟨aX, aY, rfl, aZ⟩ := ro_slice h1
  exact gY (yV st_43 rfl) (gB rfl (gE (go _ 9 rfl (decide_eq_false (by omega)) (gcf rfl (gXt (gHh (gS (gR (gA rfl (gE (gRt (gr1 results176 rfl ⟨rfl, hm.below⟩))))))))))))
theorem spec_l12Flow_ok (w0 : World) (hz : Heap) (c_ : Code_) (v1 : Value) (h1 : GT.rep hz [v1] c_.blocks) (s_ : l12Sets) (v2 : Value) (h2 : GT.rep hz [v2] s_.ins) (v3 : Value) (b_ : Int) (next_ : Int) (hm0 : Mem w0 hz w0 [ow [v3] s_.outs]) :
    ConM Tryz.prog 155 [(.agg #[(nV c_.params), (nV c_.regs), v1]), (.agg #[v2, v3]), (nV b_), (nV next_)] w0 (spec_l12Flow c_ s_ b_ next_) fun r v w' => v = (.bool (r.1)) ∧ Mem w0 hz w' [ow [v3] r.2] := by
  unfold spec_l12Flow
  refine gcon func155 rfl fun r => ?_
  have hm := hm0
  refine gS (gR (gBx hm rfl fun aB w hm => gBx hm rfl fun aC w hm => gA rfl (gE (gS (gR (gf rfl (fun a hf => e_build0 (α := Bool) et_90 hm rfl) ?_))))))
  rintro br w hm
  refine gF fo_93_0 rfl (gL hm 1 isAgg45 rfl (gM rfl (gg fun bG bH am => ?_)))
  obtain ⟨aG, aH, aI, he⟩ := idx_form' h2 am
  subst he
  obtain ⟨_, _, an, bJ⟩ := ro_get' h2 am
  have ac := bJ
  obtain ⟨ax, rfl, -⟩ := id ac
  replace ac : GT.rep hz [ax] bG := ac
  replace an : CellsAt hz aG (aH + (next_).toNat * 1) [ax] := an
  refine gI st_45 bH (idx_lt am) rfl (gY (yl isAgg90 ((an.mono hm.lez).cell (j := 0) rfl) rfl) (gb fun aD bK => ?_))
  obtain ⟨bL, bM⟩ := appM_some.1 bK
  refine gf rfl (fun a hf => e_append 0 et_90 hf hm rfl (hm.now ac) rfl rfl rfl bL) ?_
  rintro bs w hm
  rw [bM] at hm
  refine gA rfl (gE (gS (gR (gY (yn (hm.blk_at 2 rfl) isAgg49 sizeOf49 rfl) (gM rfl (gCg rfl call129 (spec_l7Preds_ok _ c_ v1 (hm.now h1) next_) ?_))))))
  rintro bN bt bO w ⟨_, rfl, hB⟩
  replace hm := hm.give hB; clear hB
  refine gM rfl (gC hm rfl call176 (spec_l10At_ok _ bN bO (hm.ow_rep 0 rfl) b_) fun bP bu w hm => gA rfl (gE (gS (gS (gR (gA rfl (gE ?_)))))))
  obtain ⟨aJ, aA, rfl, bv⟩ := ro_slice (hm.ow_rep 4 rfl)
  obtain ⟨aP, aE, rfl, bx⟩ := ro_slice (hm.ow_rep 1 rfl)
  refine gJ hm (fun aF => [(2, (nV b_)), (4, (pV aB)), (5, (pV aC)), (9, (.slice aP aD.length aE))]) (fun aF => [blk aB [(nV c_.params), (nV c_.regs), v1] 49, blk aC [(sV aG aH s_.ins.length aI), (.slice aJ s_.outs.length aA)] 93, ow [(.slice aJ s_.outs.length aA)] s_.outs, ow [(.slice aP aD.length aE)] aF]) (fun aF => ?_) ?_
  ·
   refine gBk (gMf hm (fun ae => [(2, (nV b_)), (3, (nV next_)), (4, (pV aB)), (5, (pV aC)), (9, (.slice aP aD.length aE)), (10, (nV bP)), (11, (nV ae.2))]) (fun ae => [blk aB [(nV c_.params), (nV c_.regs), v1] 49, blk aC [(sV aG aH s_.ins.length aI), (.slice aJ s_.outs.length aA)] 93, ow [(.slice aJ s_.outs.length aA)] s_.outs, ow [(.slice aP aD.length aE)] ae.1]) [3, 2, 4, 1] rfl ?_)
   repeat clear hm
   intro bz bQ ae w hm cA bR
   refine gS (gS (gR (gM rfl (gF fo_49_2 rfl (gL hm 0 isAgg47 rfl (gM rfl (gg fun cB ay af => ?_)))))))
   obtain ⟨cC, cD, cE, he⟩ := idx_form' h1 af
   subst he
   obtain ⟨cF, cG, cH, az, ao, cI, cJ⟩ := rk_Block_ h1 af
   refine gI st_47 ay (idx_lt af) rfl (gF fo_63_0 rfl (gY (yl isAgg60 ((az.mono hm.lez).cell (j := 0) rfl) rfl) ?_))
   obtain ⟨cK, cL, rfl, cM⟩ := ro_slice ao
   refine gY (yV st_60 rfl) (gB rfl (gE (gsd 34 rfl (fun bS => ?_) fun bS => ?_)))
   ·
    refine gct rfl (gSk (gS (gBk (gR (gM rfl (gF fo_49_2 rfl (gL hm 0 isAgg47 rfl (gM rfl (gI st_47 ay (idx_lt af) rfl (gF fo_63_0 rfl (gY (yl isAgg60 ((az.mono hm.lez).cell (j := 0) rfl) rfl) (gM rfl (gg fun cN bT ap => ?_)))))))))))))
    obtain ⟨cO, cP, cQ, he⟩ := idx_form' ao ap
    obtain ⟨rfl, _, rfl⟩ := sl3 he
    obtain ⟨cR, bU, bA⟩ := rk_Phi_ ao ap
    refine gI st_60 bT (idx_lt ap) rfl (gF fo_127_1 rfl (gY (yl isAgg43 ((bU.mono hm.lez).cell (j := 1) rfl) rfl) (gM rfl (gg fun bV bW aq => ?_))))
    obtain ⟨cS, cT, cU, he⟩ := idx_form bA aq
    subst he
    refine gI st_43 bW (idx_lt aq) rfl (gY (yl isAgg3 ((flat_cells (cs := [(nV bV)]) (hm.now bA) aq rfl).cell (j := 0) rfl) rfl) (gg fun cV bX ah => ?_))
    obtain ⟨cW, cX, cY, he⟩ := idx_form (hm.ow_rep 3 rfl) ah
    obtain ⟨rfl, _, rfl⟩ := sl3 he
    have hL2_1 := rep_slice_len (hm.ow_rep 3 rfl)
    refine gI st_90 bX (idx_lt2 ah hL2_1) rfl (gf0 rfl (fun a hf => e_setElem (x1 := true) (j := 0) (vs := [(.bool (true))]) 3 hf hm rfl ah rfl sizeOf4 rfl rfl rfl (one_cons rfl one_nil) rfl rfl) ?_)
    rintro _ w hm
    have cZ := List.getElem?_set_self (a := true) (idx_lt ah)
    exact gE (gR (gM rfl (gB rfl (gA rfl (gE (gze hm [0, 1, 2, 3] rfl))))))
   exact gcf rfl (gXt (gHh (gLp bR bQ (gz hm [0, 1, 2, 3] rfl))))
  repeat clear hm
  intro aF w hm
  refine gS (gR (gA rfl (gE (gS (gS (gR (gA rfl (gE (gBk (gb fun _ bB => ?_))))))))))
  replace bB := fitI_some.1 bB
  refine gNf hm (fun aL aK => [(2, (nV b_)), (4, (pV aB)), (5, (pV aC)), (9, (.slice aP aD.length aE)), (12, (.bool (aK.2))), (13, (nV aL))]) (fun aL aK => [blk aB [(nV c_.params), (nV c_.regs), v1] 49, blk aC [(sV aG aH s_.ins.length aI), (.slice aJ s_.outs.length aA)] 93, ow [(.slice aJ s_.outs.length aA)] aK.1, ow [(.slice aP aD.length aE)] aF]) [0, 1, 2, 3] rfl ?_ ?_
  ·
   repeat clear hm
   intro _ _ aL aK w hm c4 c5 c6 _
   refine gS (gS (gR (gM rfl (gF fo_49_1 rfl (gL hm 0 isAgg3 rfl (gB rfl (gE (go _ 55 rfl (decide_eq_true (by omega)) (gct rfl (gSk (gS (gJ hm (fun aW => [(2, (nV b_)), (4, (pV aB)), (5, (pV aC)), (9, (.slice aP aD.length aE)), (12, (.bool (aW.2))), (13, (nV aL))]) (fun aW => [blk aB [(nV c_.params), (nV c_.regs), v1] 49, blk aC [(sV aG aH s_.ins.length aI), (.slice aJ s_.outs.length aA)] 93, ow [(.slice aJ s_.outs.length aA)] aW.1, ow [(.slice aP aD.length aE)] aF]) (fun aW => ?_) ?_))))))))))))
   ·
    refine gBk (gS (gR (gM rfl (gM rfl (gg fun bY bZ ar => ?_)))))
    obtain ⟨aM, aN, c7, he⟩ := idx_form (hm.ow_rep 3 rfl) ar
    obtain ⟨rfl, _, rfl⟩ := sl3 he
    have hL2_2 := rep_slice_len (hm.ow_rep 3 rfl)
    refine gI st_90 bZ (idx_lt2 ar hL2_2) rfl (gY (yl isAgg4 ((flat_cells (cs := [(.bool (bY))]) (hm.ow_rep 3 rfl) ar rfl).cell (j := 0) rfl) rfl) (gE (gJ hm (fun aX => [(2, (nV b_)), (4, (pV aB)), (5, (pV aC)), (9, (sV aM aN aD.length aE)), (12, (.bool (aX.2))), (13, (nV aL))]) (fun aX => [blk aB [(nV c_.params), (nV c_.regs), v1] 49, blk aC [(sV aG aH s_.ins.length aI), (.slice aJ s_.outs.length aA)] 93, ow [(.slice aJ s_.outs.length aA)] aX.1, ow [(sV aM aN aD.length aE)] aF]) (fun aX => ?_) ?_)))
    ·
     refine gs 61 rfl (fun b6 => ?_) fun b6 => ?_
     ·
      refine gct rfl (gS (gJ hm (fun ai => [(2, (nV b_)), (4, (pV aB)), (5, (pV aC)), (9, (sV aM aN aD.length aE)), (12, (.bool (ai))), (13, (nV aL))]) (fun ai => [blk aB [(nV c_.params), (nV c_.regs), v1] 49, blk aC [(sV aG aH s_.ins.length aI), (.slice aJ s_.outs.length aA)] 93, ow [(.slice aJ s_.outs.length aA)] aK.1, ow [(sV aM aN aD.length aE)] aF]) (fun ai => ?_) ?_))
      ·
       refine gR (gM rfl (gM rfl (gs 63 rfl (fun b8 => ?_) fun b8 => ?_)))
       ·
        exact gO rfl (gO rfl (gO rfl (gO rfl (gO rfl (gO rfl (gO rfl (gO rfl (gO rfl (gKt rfl (gA rfl (gE (gz hm [0, 1, 2, 3] rfl))))))))))))
       refine gF fo_93_1 rfl (gL hm 1 isAgg45 rfl (gM rfl (gg fun aQ b9 aY => ?_)))
       obtain ⟨aR, aS, c8, he⟩ := idx_form' (hm.ow_rep 2 rfl) aY
       obtain ⟨rfl, _, rfl⟩ := sl3 he
       obtain ⟨_, _, bC, ba⟩ := ro_get' (hm.ow_rep 2 rfl) aY
       have au := ba
       obtain ⟨bD, rfl, -⟩ := id au
       replace au : GT.rep (hp _) [bD] aQ := au
       replace bC : CellsAt (hp _) aR (aS + (b_).toNat * 1) [bD] := bC
       have hL4_1 := rep_slice_len (hm.ow_rep 2 rfl)
       refine gI st_45 b9 (idx_lt2 aY hL4_1) rfl ?_
       obtain ⟨_, bb, hm⟩ := hm.openE 2 rfl aY
       have bc := hm.ow_rep 0 rfl
       have aj := bc
       obtain ⟨aZ, rfl, -⟩ := id aj
       replace aj : GT.rep (hp _) [aZ] aQ := aj
       clear bb aj
       replace hm : Mem w0 hz _ [ow [aZ] (aQ : List Bool), blk aB [(nV c_.params), (nV c_.regs), v1] 49, blk aC [(sV aG aH s_.ins.length aI), (sV aR aS s_.outs.length aA)] 93, holeE aR aS s_.outs.length aA (aK.1 : List (List Bool)) (b_).toNat [aZ], ow [(sV aM aN aD.length aE)] aF] := hm
       replace hm := hm.pk (L' := [ow [aZ] aQ, blk aB [(nV c_.params), (nV c_.regs), v1] 49, blk aC [(sV aG aH s_.ins.length aI), (sV aR aS s_.outs.length aA)] 93, holeE aR aS s_.outs.length aA (aK.1 : List (List Bool)) (b_).toNat [aZ], ow [(sV aM aN aD.length aE)] aF]) [0, 1, 2, 3, 4] rfl rfl
       refine gY (yl isAgg90 ((hm.holeE_at 3 rfl).cell (j := 0) rfl) rfl) (gM rfl (gg fun bd be av => ?_))
       obtain ⟨bf, bg, bh, he⟩ := idx_form (hm.ow_rep 0 rfl) av
       subst he
       refine gI st_90 be (idx_lt av) rfl (gY (yl isAgg4 ((flat_cells (cs := [(.bool (bd))]) (hm.ow_rep 0 rfl) av rfl).cell (j := 0) rfl) rfl) (gN rfl (gKf rfl (gA rfl (gE ?_)))))
       replace hm := hm.imp (c' := ow [(sV bf bg aQ.length bh)] (aQ : List Bool)) 0 rfl (fun F h0 => h0)
       replace hm := (hm.shutE (y := (aQ : List Bool)) 3 0 (by decide) rfl rfl).pk (L' := [blk aB [(nV c_.params), (nV c_.regs), v1] 49, blk aC [(sV aG aH s_.ins.length aI), (sV aR aS s_.outs.length aA)] 93, ow [(sV aR aS s_.outs.length aA)] (aK.1.set (b_).toNat aQ), ow [(sV aM aN aD.length aE)] aF]) [1, 2, 3, 4] rfl rfl
       rw [set_same aY] at hm
       exact gz hm [0, 1, 2, 3] rfl
      repeat clear hm
      intro ai w hm
      refine gR (gF fo_93_1 rfl (gL hm 1 isAgg45 rfl (gM rfl (gg fun aO bi aa => ?_))))
      obtain ⟨aT, aV, c9, he⟩ := idx_form' (hm.ow_rep 2 rfl) aa
      obtain ⟨rfl, _, rfl⟩ := sl3 he
      obtain ⟨_, _, bE, bj⟩ := ro_get' (hm.ow_rep 2 rfl) aa
      have aw := bj
      obtain ⟨bF, rfl, -⟩ := id aw
      replace aw : GT.rep (hp _) [bF] aO := aw
      replace bE : CellsAt (hp _) aT (aV + (b_).toNat * 1) [bF] := bE
      have hL3_1 := rep_slice_len (hm.ow_rep 2 rfl)
      refine gI st_45 bi (idx_lt2 aa hL3_1) rfl ?_
      obtain ⟨_, bk, hm⟩ := hm.openE 2 rfl aa
      have bl := hm.ow_rep 0 rfl
      have ak := bl
      obtain ⟨ab, rfl, -⟩ := id ak
      replace ak : GT.rep (hp _) [ab] aO := ak
      clear bk ak
      replace hm : Mem w0 hz _ [ow [ab] (aO : List Bool), blk aB [(nV c_.params), (nV c_.regs), v1] 49, blk aC [(sV aG aH s_.ins.length aI), (sV aT aV s_.outs.length aA)] 93, holeE aT aV s_.outs.length aA (aK.1 : List (List Bool)) (b_).toNat [ab], ow [(sV aM aN aD.length aE)] aF] := hm
      replace hm := hm.pk (L' := [ow [ab] aO, blk aB [(nV c_.params), (nV c_.regs), v1] 49, blk aC [(sV aG aH s_.ins.length aI), (sV aT aV s_.outs.length aA)] 93, holeE aT aV s_.outs.length aA (aK.1 : List (List Bool)) (b_).toNat [ab], ow [(sV aM aN aD.length aE)] aF]) [0, 1, 2, 3, 4] rfl rfl
      refine gY (yl isAgg90 ((hm.holeE_at 3 rfl).cell (j := 0) rfl) rfl) (gM rfl (gg fun ca bm al => ?_))
      obtain ⟨bo, bp, bq, he⟩ := idx_form (hm.ow_rep 0 rfl) al
      subst he
      refine gI st_90 bm (idx_lt al) rfl (gf0 rfl (fun a hf => e_setElem (x1 := true) (j := 0) (vs := [(.bool (true))]) 0 hf hm rfl al rfl sizeOf4 rfl rfl rfl (one_cons rfl one_nil) rfl rfl) ?_)
      rintro _ w hm
      have cb := List.getElem?_set_self (a := true) (idx_lt al)
      refine gE ?_
      replace hm := hm.imp (c' := ow [(sV bo bp aO.length bq)] ((aO.set (aL).toNat true) : List Bool)) 0 rfl (fun F h0 => h0)
      replace hm := (hm.shutE (y := ((aO.set (aL).toNat true) : List Bool)) 3 0 (by decide) rfl rfl).pk (L' := [blk aB [(nV c_.params), (nV c_.regs), v1] 49, blk aC [(sV aG aH s_.ins.length aI), (sV aT aV s_.outs.length aA)] 93, ow [(sV aT aV s_.outs.length aA)] (aK.1.set (b_).toNat (aO.set (aL).toNat true)), ow [(sV aM aN aD.length aE)] aF]) [1, 2, 3, 4] rfl rfl
      have cc := List.getElem?_set_self (a := ((aO.set (aL).toNat true) : List Bool)) (idx_lt aa)
      exact gz hm [0, 1, 2, 3] rfl
     exact gcf rfl (gSk (gz hm [0, 1, 2, 3] rfl))
    repeat clear hm
    intro aX w hm
    exact gz hm [0, 1, 2, 3] rfl
   repeat clear hm
   intro aW w hm
   exact gR (gM rfl (gP (by omega) (by omega) rfl (gA rfl (gE (gze hm [0, 1, 2, 3] rfl)))))
  repeat clear hm
  intro cd ce w hm cf cg
  exact gS (gS (gR (gM rfl (gF fo_49_1 rfl (gL hm 0 isAgg3 rfl (gB rfl (gE (go _ 55 rfl (decide_eq_false (by omega)) (gcf rfl (gXt (gHh (gS (gR (gM rfl (gA rfl (gE (gRt (gr1 results155 rfl ⟨rfl, hm.pk [2] rfl rfl⟩))))))))))))))))))
theorem spec_MadeBy_ok (w0 : World) (x_ : Ins_) (v1 : Value) (h1 : GT.rep (hp w0) [v1] x_.args) :
    ConM Tryz.prog 140 [(.agg #[(nV x_.op), (nV x_.to), v1, (nV x_.n_)])] w0 (spec_MadeBy x_) fun r v w' => v = (nV r) ∧ Below w0.heap.size w0 w' := by
  unfold spec_MadeBy
  refine gcon func140 rfl fun r => ?_
  have hm := Mem.start w0
  refine gS (gR (gBx hm rfl fun aB w hm => gA rfl (gE (gS (gS (gR (gF fo_65_0 rfl (gL hm 0 isAgg3 rfl (gC hm rfl call89 (spec_l7Makes_ok _ x_.op) fun aC aD w hm => gE (gs 5 rfl (fun aA => ?_) fun aA => ?_))))))))))
  ·
   exact gct rfl (gS (gR (gF fo_65_1 rfl (gL hm 0 isAgg3 rfl (gA rfl (gE (gRt (gr1 results140 rfl ⟨rfl, hm.below⟩))))))))
  exact gcf rfl (gSk (gS (gR (gA rfl (gE (gRt (gr1 results140 rfl ⟨rfl, hm.below⟩)))))))
theorem spec_l12Behind_ok (w0 : World) (c_ : Code_) (v1 : Value) (h1 : GT.rep (hp w0) [v1] c_.blocks) (s_ : l12Sets) (v2 : Value) (h2 : GT.rep (hp w0) [v2] s_.ins) (v3 : Value) (h3 : GT.rep (hp w0) [v3] s_.outs) (b_ : Int) (i_ : Int) :
    ConM Tryz.prog 90 [(.agg #[(nV c_.params), (nV c_.regs), v1]), (.agg #[v2, v3]), (nV b_), (nV i_)] w0 (spec_l12Behind c_ s_ b_ i_) fun r v w' => ∃ (x1 : Value), v = x1 ∧ Mem w0 (hp w0) w' [ow [x1] r] := by
  unfold spec_l12Behind
  refine gcon func90 rfl fun r => ?_
  have hm := Mem.start w0
  refine gS (gR (gBx hm rfl fun bK w hm => gBx hm rfl fun bL w hm => gA rfl (gE (gS (gR (gf rfl (fun a hf => e_build0 (α := Bool) et_90 hm rfl) ?_))))))
  rintro bM w hm
  refine gF fo_93_1 rfl (gL hm 1 isAgg45 rfl (gM rfl (gg fun ah ai aT => ?_)))
  obtain ⟨aj, ak, bN, he⟩ := idx_form' h3 aT
  subst he
  obtain ⟨_, _, aV, al⟩ := ro_get' h3 aT
  have aI := al
  obtain ⟨ab, rfl, -⟩ := id aI
  replace aI : GT.rep (hp w0) [ab] ah := aI
  replace aV : CellsAt (hp w0) aj (ak + (b_).toNat * 1) [ab] := aV
  refine gI st_45 ai (idx_lt aT) rfl (gY (yl isAgg90 ((aV.mono hm.lez).cell (j := 0) rfl) rfl) (gb fun bO am => ?_))
  obtain ⟨an, ao⟩ := appM_some.1 am
  refine gf rfl (fun a hf => e_append 0 et_90 hf hm rfl (hm.now aI) rfl rfl rfl an) ?_
  rintro ac w hm
  rw [ao] at hm
  refine gA rfl (gE (gS (gR (gF fo_49_2 rfl (gL hm 2 isAgg47 rfl (gM rfl (gg fun aB ap aW => ?_)))))))
  obtain ⟨bP, bQ, bR, he⟩ := idx_form' h1 aW
  subst he
  obtain ⟨aJ, aq, aK, ar, au, aL, av⟩ := rk_Block_ h1 aW
  refine gI st_47 ap (idx_lt aW) rfl (gY (yn (ar.mono hm.lez) isAgg63 sizeOf63 rfl) (gAl hm zeroValue63 rfl fun aE w hm => gSN hm 0 sizeOf63 (one_cons (rep_one au) (one_cons (rep_one aL) (one_cons rfl (one_cons rfl (one_cons (rep_one av) one_nil))))) rfl fun w hm => gE (gS (gS (gR (gF fo_63_2 rfl (gL hm 0 isAgg3 rfl (gB rfl (gE (gJ hm (fun aA => [(3, (nV i_)), (9, ac), (10, (pV aE))]) (fun aA => [ow [ac] aA, blk aE [aJ, aq, (nV aB.jump), (nV aB.on), aK] 63]) (fun aA => ?_) ?_))))))))))
  ·
   refine gsd 28 rfl (fun aw => ?_) fun aw => ?_
   ·
    refine gct rfl (gR (gM rfl (gF fo_63_3 rfl (gL hm 0 isAgg3 rfl (gg fun bS ax aM => ?_)))))
    obtain ⟨bT, bU, bV, he⟩ := idx_form (hm.ow_rep 1 rfl) aM
    subst he
    refine gI st_90 ax (idx_lt aM) rfl (gf0 rfl (fun a hf => e_setElem (x1 := true) (j := 0) (vs := [(.bool (true))]) 1 hf hm rfl aM rfl sizeOf4 rfl rfl rfl (one_cons rfl one_nil) rfl rfl) ?_)
    rintro _ w hm
    have bW := List.getElem?_set_self (a := true) (idx_lt aM)
    exact gE (gz hm [1, 0] rfl)
   exact gcf rfl (gSk (gz hm [1, 0] rfl))
  repeat clear hm
  intro aA w hm
  refine gS (gS (gR (gF fo_63_1 rfl (gL hm 1 isAgg61 rfl ?_))))
  obtain ⟨ay, aX, rfl, bX⟩ := ro_slice aL
  refine gY (yV st_61 rfl) (gY (yS (by omega) (by omega) rfl) (gA rfl (gE ?_)))
  obtain ⟨aC, aD, rfl, bY⟩ := ro_slice (hm.ow_rep 0 rfl)
  refine gJ hm (fun aN => [(9, (.slice aC aA.length aD))]) (fun aN => [ow [(.slice aC aA.length aD)] aN]) (fun aN => ?_) ?_
  ·
   refine gBk (gMf hm (fun aF => [(3, (nV i_)), (9, (.slice aC aA.length aD)), (10, (pV aE)), (11, (nV aF.2))]) (fun aF => [ow [(.slice aC aA.length aD)] aF.1, blk aE [aJ, (.slice ay aB.ins.length aX), (nV aB.jump), (nV aB.on), aK] 63]) [0, 1] rfl ?_)
   repeat clear hm
   intro bZ az aF w hm b6 bA
   refine gS (gS (gR (gM rfl (gM rfl (gB rfl (gE (gsd 39 rfl (fun bB => ?_) fun bB => ?_)))))))
   ·
    refine gct rfl (gSk (gS (gBk (gS (gR (gF fo_63_1 rfl (gL hm 1 isAgg61 rfl (gM rfl (gg fun bC aO aG => ?_)))))))))
    obtain ⟨ae, af, b8, he⟩ := idx_form' aL aG
    obtain ⟨rfl, _, rfl⟩ := sl3 he
    obtain ⟨bD, aP, aH⟩ := rk_Ins_ aL aG
    refine gI st_61 aO (idx_lt aG) rfl (gY (yn (aP.mono hm.lez) isAgg65 sizeOf65 rfl) (gC hm rfl call140 (spec_MadeBy_ok _ bC bD (hm.now aH)) fun b9 ba w hm => gA rfl (gE (gS (gS (gR (gM rfl (gB rfl (gE (gJ hm (fun aQ => [(3, (nV i_)), (9, (.slice aC aA.length aD)), (10, (pV aE)), (11, (nV aF.2))]) (fun aQ => [ow [(.slice aC aA.length aD)] aQ, blk aE [aJ, (sV ae af aB.ins.length aX), (nV aB.jump), (nV aB.on), aK] 63]) (fun aQ => ?_) ?_))))))))))
    ·
     refine gsd 49 rfl (fun bE => ?_) fun bE => ?_
     ·
      refine gct rfl (gR (gM rfl (gM rfl (gg fun bb bF aR => ?_))))
      obtain ⟨bc, bd, be, he⟩ := idx_form (hm.ow_rep 0 rfl) aR
      obtain ⟨rfl, _, rfl⟩ := sl3 he
      have hL3_1 := rep_slice_len (hm.ow_rep 0 rfl)
      refine gI st_90 bF (idx_lt2 aR hL3_1) rfl (gf0 rfl (fun a hf => e_setElem (x1 := false) (j := 0) (vs := [(.bool (false))]) 0 hf hm rfl aR rfl sizeOf4 rfl rfl rfl (one_cons rfl one_nil) rfl rfl) ?_)
      rintro _ w hm
      have bf := List.getElem?_set_self (a := false) (idx_lt aR)
      exact gE (gz hm [0, 1] rfl)
     exact gcf rfl (gSk (gz hm [0, 1] rfl))
    repeat clear hm
    intro aQ w hm
    refine gS (gR (gA rfl (gE (gBk (gNf hm (fun aY aZ => [(3, (nV i_)), (9, (.slice aC aA.length aD)), (10, (pV aE)), (11, (nV aF.2)), (13, (nV aY))]) (fun aY aZ => [ow [(.slice aC aA.length aD)] aZ, blk aE [aJ, (sV ae af aB.ins.length aX), (nV aB.jump), (nV aB.on), aK] 63]) [0, 1] rfl ?_ ?_)))))
    ·
     repeat clear hm
     intro _ _ aY aZ w hm bg bh bi _
     refine gS (gS (gR (gM rfl (gF fo_63_1 rfl (gL hm 1 isAgg61 rfl (gM rfl (gI st_61 aO (idx_lt aG) rfl (gF fo_65_2 rfl (gY (yl isAgg43 ((aP.mono hm.lez).cell (j := 2) rfl) rfl) ?_)))))))))
     obtain ⟨bj, bk, rfl, bl⟩ := ro_slice aH
     refine gY (yV st_43 rfl) (gB rfl (gE (go _ 61 rfl (decide_eq_true (by omega)) (gct rfl (gSk (gS (gBk (gR (gM rfl (gF fo_63_1 rfl (gL hm 1 isAgg61 rfl (gM rfl (gI st_61 aO (idx_lt aG) rfl (gF fo_65_2 rfl (gY (yl isAgg43 ((aP.mono hm.lez).cell (j := 2) rfl) rfl) (gM rfl (gg fun bG bH aa => ?_)))))))))))))))))
     obtain ⟨bm, bo, bp, he⟩ := idx_form aH aa
     obtain ⟨rfl, _, rfl⟩ := sl3 he
     refine gI st_43 bH (idx_lt aa) rfl (gY (yl isAgg3 ((flat_cells (cs := [(nV bG)]) (hm.now aH) aa rfl).cell (j := 0) rfl) rfl) (gg fun bq bJ aS => ?_))
     obtain ⟨br, bs, bt, he⟩ := idx_form (hm.ow_rep 0 rfl) aS
     obtain ⟨rfl, _, rfl⟩ := sl3 he
     have hL3_2 := rep_slice_len (hm.ow_rep 0 rfl)
     refine gI st_90 bJ (idx_lt2 aS hL3_2) rfl (gf0 rfl (fun a hf => e_setElem (x1 := true) (j := 0) (vs := [(.bool (true))]) 0 hf hm rfl aS rfl sizeOf4 rfl rfl rfl (one_cons rfl one_nil) rfl rfl) ?_)
     rintro _ w hm
     have bu := List.getElem?_set_self (a := true) (idx_lt aS)
     exact gE (gR (gM rfl (gP (by omega) (by omega) rfl (gA rfl (gE (gze hm [0, 1] rfl))))))
    repeat clear hm
    intro bv bx w hm bz cA
    refine gS (gS (gR (gM rfl (gF fo_63_1 rfl (gL hm 1 isAgg61 rfl (gM rfl (gI st_61 aO (idx_lt aG) rfl (gF fo_65_2 rfl (gY (yl isAgg43 ((aP.mono hm.lez).cell (j := 2) rfl) rfl) ?_)))))))))
    obtain ⟨cB, cC, rfl, cD⟩ := ro_slice aH
    exact gY (yV st_43 rfl) (gB rfl (gE (go _ 61 rfl (decide_eq_false (by omega)) (gcf rfl (gXt (gHh (gR (gM rfl (gB rfl (gA rfl (gE (gze hm [0, 1] rfl))))))))))))
   exact gcf rfl (gXt (gHh (gLp bA az (gz hm [0] rfl))))
  repeat clear hm
  intro aN w hm
  exact gS (gR (gM rfl (gA rfl (gE (gRt (gr1 results90 rfl ⟨(.slice aC aA.length aD), rfl, hm.pk [0] rfl rfl⟩))))))
theorem spec_l12Live_ok (w0 : World) (c_ : Code_) (v1 : Value) (h1 : GT.rep (hp w0) [v1] c_.blocks) :
    ConM Tryz.prog 88 [(.agg #[(nV c_.params), (nV c_.regs), v1])] w0 (spec_l12Live c_) fun r v w' => ∃ (x1 : Value) (x2 : Value), v = (.agg #[x1, x2]) ∧ Mem w0 (hp w0) w' [ow [x1] r.ins, ow [x2] r.outs] := by
  unfold spec_l12Live
  refine gcon func88 rfl fun r => ?_
  have hm := Mem.start w0
  refine gS (gR (gBx hm rfl fun aD w hm => gAl hm zeroValue93 rfl fun aB w hm => gE (gS (gR (gY (yG rfl (y_build (vs := []) (cs := #[(.slice none 0 0), (.slice none 0 0)]) rfl rfl (by kernel_rfl))) (gAl hm zeroValue93 rfl fun aC w hm => gSN hm 0 sizeOf93 (one_cons rfl (one_cons rfl one_nil)) rfl fun w hm => gE (gS (gR (gF fo_49_2 rfl (gL hm 2 isAgg47 rfl ?_))))))))))
  obtain ⟨aK, aJ, rfl, cQ⟩ := ro_slice h1
  refine gY (yV st_47 rfl) (gA rfl (gE (gS (gS (gR (gA rfl (gE (gBk ?_))))))))
  replace hm := hm.nilow (α := List Bool)
  replace hm := hm.nilow (α := List Bool)
  refine gNg (fun bK aM a w => ∃ (aR aL : Value), St 126 [(1, (pV aD)), (2, (pV aB)), (3, (pV aC)), (4, (nV ((c_.blocks.length : Int)))), (5, (nV bK))] w0 (hp w0) [blk aD [(nV c_.params), (nV c_.regs), (.slice aK c_.blocks.length aJ)] 49, blk aB [(.slice none 0 0), (.slice none 0 0)] 93, blk aC [aR, aL] 93, ow [aR] aM.1, ow [aL] aM.2] a w) (fun a hf => ⟨(.slice none 0 0), (.slice none 0 0), hf.sb rfl, hm.pk [4, 3, 2, 1, 0] rfl rfl⟩) ?_ ?_
  ·
   repeat clear hm
   rintro _ _ bK aM a w ⟨aR, aL, hf, hm⟩ cR cS cT _
   refine gv hf (gS (gS (gR (gM rfl (gM rfl (gB rfl (gE (go _ 18 rfl (decide_eq_true (by omega)) (gct rfl (gSk (gS (gBk (gS (gW (.p 0 (.p 2 (.q 1 (.e 3 (.e 4 (.e 5 (.e 6 (.p 7 (.e 8 .fin .nil)) .nil) .nil) .nil) .nil)))) [3, 4, 5] [0, 2, 7] hm [0, 1, 2, 3, 4] [blk aD [(nV c_.params), (nV c_.regs), (.slice aK c_.blocks.length aJ)] 49, blk aB [(.slice none 0 0), (.slice none 0 0)] 93, blk aC [aR, aL] 93, ow [aR] aM.1, ow [aL] aM.2] rfl mxo (by kernel_rfl) (fun _ _ _ h => h.2) fun w hm hS => tP rfl (fun w => yF fo_93_0 rfl) (tP rfl (fun w => yF fo_49_1 rfl) (tQ rfl hS (fun w hm => yL hm 2 isAgg45 rfl) (tO (tY rfl (yL hm 0 isAgg3 rfl) (tAs hS (tO (gb fun aS bW => ?_)))))))))))))))))))))
   obtain ⟨⟨bX, bY⟩, bL⟩ := makeM_some.1 bW
   refine tf rfl rfl (fun a hf => e_make (x0 := (false : Bool)) et_90 (fun _ => (Flat.own_iff.2 rfl)) hf hm rfl rfl rfl bX (Int.le_refl _) bY) ?_
   rintro cU w hm
   rw [bL] at hm
   have h1_1l : (aS.length : Int) = c_.regs := by rw [← bL]; simp only [List.length_replicate]; omega
   refine tAk hm [1, 2, 3, 4, 5] rfl fun hS => tO ?_
   obtain ⟨aZ, aa, rfl, cV⟩ := ro_slice (hm.ow_rep 0 rfl)
   refine tf rfl rfl (fun a hf => e_build (vs := #[(0, (.slice aZ aS.length aa))]) (cs := [(.slice aZ aS.length aa)]) et_45 hf hm rfl rfl (by kernel_rfl) rfl rfl) ?_
   rintro _ w ⟨av, rfl, hm⟩
   replace hm := hm.els_nil (α := List Bool)
   replace hm := hm.imp (c' := ow [(.slice aZ aS.length aa)] (aS : List Bool)) 2 rfl (fun F h0 => h0)
   replace hm := (hm.els_cons 0 2 (by decide) rfl rfl).pk (L' := [els [(.slice aZ aS.length aa)] ([aS] : List (List Bool)), blk av [(.slice aZ aS.length aa)] 90, blk aD [(nV c_.params), (nV c_.regs), (.slice aK c_.blocks.length aJ)] 49, blk aB [(.slice none 0 0), (.slice none 0 0)] 93, blk aC [aR, aL] 93, ow [aR] aM.1, ow [aL] aM.2]) [0, 1, 3, 4, 5, 6, 7] rfl rfl
   replace hm := (hm.lit_els 1 0 (by decide) rfl rfl rfl rfl).pk (L' := [ow [(sV av 0 1 1)] ([aS] : List (List Bool)), blk aD [(nV c_.params), (nV c_.regs), (.slice aK c_.blocks.length aJ)] 49, blk aB [(.slice none 0 0), (.slice none 0 0)] 93, blk aC [aR, aL] 93, ow [aR] aM.1, ow [aL] aM.2]) [1, 2, 3, 4, 5, 6] rfl rfl
   refine tAk hm [1, 2, 3, 4, 5] rfl fun hS => tO (gb fun ak bZ => ?_)
   obtain ⟨b6, b8⟩ := appM_some.1 bZ
   replace hm := (hm.both 4 0 (by decide) rfl rfl).pk (L' := [blk aD [(nV c_.params), (nV c_.regs), (.slice aK c_.blocks.length aJ)] 49, blk aB [(.slice none 0 0), (.slice none 0 0)] 93, blk aC [aR, aL] 93, both (ow [aR] aM.1) (ow [(sV av 0 1 1)] ([aS] : List (List Bool))), ow [aL] aM.2]) [1, 2, 3, 4, 5] rfl rfl
   refine tf rfl rfl (fun a hf => e_appendD (xs := aM.1) (ys := ([aS] : List (List Bool))) 3 et_45 hf hm rfl rfl rfl rfl b6) ?_
   rintro aW w hm
   rw [b8] at hm
   refine tAn rfl (tP rfl (fun w => yF fo_93_0 rfl) (tO (tf0 rfl rfl (fun a hf => e_store1 2 hf hm rfl sizeOf45 rfl rfl rfl (rep_one (hm.ow_rep 3 rfl)) rfl) ?_)))
   rintro _ w hm
   refine tAn rfl (tE (gW (.p 0 (.p 2 (.q 1 (.e 3 (.e 4 (.e 5 (.e 6 (.p 7 (.e 8 .fin .nil)) .nil) .nil) .nil) .nil)))) [3, 4, 5] [0, 2, 7] hm [0, 1, 2, 3, 4] [blk aD [(nV c_.params), (nV c_.regs), (.slice aK c_.blocks.length aJ)] 49, blk aB [(.slice none 0 0), (.slice none 0 0)] 93, blk aC [aW, aL] 93, ow [aW] ak, ow [aL] aM.2] rfl mxo (by kernel_rfl) (fun _ _ _ h => h.2) fun w hm hS => tP rfl (fun w => yF fo_93_1 rfl) (tP rfl (fun w => yF fo_49_1 rfl) (tQ rfl hS (fun w hm => yL hm 2 isAgg45 rfl) (tO (tY rfl (yL hm 0 isAgg3 rfl) (tAs hS (tO (gb fun aT b9 => ?_)))))))))
   obtain ⟨⟨ba, bb⟩, bM⟩ := makeM_some.1 b9
   refine tf rfl rfl (fun a hf => e_make (x0 := (false : Bool)) et_90 (fun _ => (Flat.own_iff.2 rfl)) hf hm rfl rfl rfl ba (Int.le_refl _) bb) ?_
   rintro cW w hm
   rw [bM] at hm
   have h1_3l : (aT.length : Int) = c_.regs := by rw [← bM]; simp only [List.length_replicate]; omega
   refine tAk hm [1, 2, 3, 4, 5] rfl fun hS => tO ?_
   obtain ⟨ab, ac, rfl, cX⟩ := ro_slice (hm.ow_rep 0 rfl)
   refine tf rfl rfl (fun a hf => e_build (vs := #[(0, (.slice ab aT.length ac))]) (cs := [(.slice ab aT.length ac)]) et_45 hf hm rfl rfl (by kernel_rfl) rfl rfl) ?_
   rintro _ w ⟨aw, rfl, hm⟩
   replace hm := hm.els_nil (α := List Bool)
   replace hm := hm.imp (c' := ow [(.slice ab aT.length ac)] (aT : List Bool)) 2 rfl (fun F h0 => h0)
   replace hm := (hm.els_cons 0 2 (by decide) rfl rfl).pk (L' := [els [(.slice ab aT.length ac)] ([aT] : List (List Bool)), blk aw [(.slice ab aT.length ac)] 90, blk aD [(nV c_.params), (nV c_.regs), (.slice aK c_.blocks.length aJ)] 49, blk aB [(.slice none 0 0), (.slice none 0 0)] 93, blk aC [aW, aL] 93, ow [aW] ak, ow [aL] aM.2]) [0, 1, 3, 4, 5, 6, 7] rfl rfl
   replace hm := (hm.lit_els 1 0 (by decide) rfl rfl rfl rfl).pk (L' := [ow [(sV aw 0 1 1)] ([aT] : List (List Bool)), blk aD [(nV c_.params), (nV c_.regs), (.slice aK c_.blocks.length aJ)] 49, blk aB [(.slice none 0 0), (.slice none 0 0)] 93, blk aC [aW, aL] 93, ow [aW] ak, ow [aL] aM.2]) [1, 2, 3, 4, 5, 6] rfl rfl
   refine tAk hm [1, 2, 3, 4, 5] rfl fun hS => tO (gb fun cY bc => ?_)
   obtain ⟨bd, be⟩ := appM_some.1 bc
   replace hm := (hm.both 5 0 (by decide) rfl rfl).pk (L' := [blk aD [(nV c_.params), (nV c_.regs), (.slice aK c_.blocks.length aJ)] 49, blk aB [(.slice none 0 0), (.slice none 0 0)] 93, blk aC [aW, aL] 93, ow [aW] ak, both (ow [aL] aM.2) (ow [(sV aw 0 1 1)] ([aT] : List (List Bool)))]) [1, 2, 3, 4, 5] rfl rfl
   refine tf rfl rfl (fun a hf => e_appendD (xs := aM.2) (ys := ([aT] : List (List Bool))) 4 et_45 hf hm rfl rfl rfl rfl bd) ?_
   rintro bf w hm
   rw [be] at hm
   refine tAn rfl (tP rfl (fun w => yF fo_93_1 rfl) (tO (tf0 rfl rfl (fun a hf => e_store1 2 hf hm rfl sizeOf45 rfl rfl rfl (rep_one (hm.ow_rep 4 rfl)) rfl) ?_)))
   rintro _ w hm
   exact tAn rfl (tE (gR (gM rfl (gP (by omega) (by omega) rfl (gA rfl (gE (gZe fun a hf => ⟨aW, bf, hf.sb rfl, hm.pk [0, 1, 2, 3, 4] rfl rfl⟩)))))))
  repeat clear hm
  rintro cZ aA a w ⟨c4, c5, hf, hm⟩ c6 c7
  refine gv hf (gS (gS (gR (gM rfl (gM rfl (gB rfl (gE (go _ 18 rfl (decide_eq_false (by omega)) (gcf rfl (gXt (gHh (gS (gS (gR (gA rfl (gE ?_))))))))))))))))
  obtain ⟨aH, aE, rfl, c8⟩ := ro_slice (hm.ow_rep 3 rfl)
  obtain ⟨aF, aG, rfl, c9⟩ := ro_slice (hm.ow_rep 4 rfl)
  refine gJ hm (fun ae => [(2, (pV aB)), (3, (pV aC))]) (fun ae => [blk aB [(.slice none 0 0), (.slice none 0 0)] 93, blk aC [(.slice aH aA.1.length aE), (.slice aF aA.2.length aG)] 93, ow [(.slice aH aA.1.length aE)] ae.1, ow [(.slice aF aA.2.length aG)] ae.2]) (fun ae => ?_) ?_
  ·
   refine gBk (gMf hm (fun af => [(1, (pV aD)), (2, (pV aB)), (3, (pV aC)), (4, (nV ((c_.blocks.length : Int)))), (6, (.bool (af.2.2)))]) (fun af => [blk aD [(nV c_.params), (nV c_.regs), (.slice aK c_.blocks.length aJ)] 49, blk aB [(.slice none 0 0), (.slice none 0 0)] 93, blk aC [(.slice aH aA.1.length aE), (.slice aF aA.2.length aG)] 93, ow [(.slice aH aA.1.length aE)] af.1, ow [(.slice aF aA.2.length aG)] af.2.1]) [0, 1, 2, 3, 4] rfl ?_)
   repeat clear hm
   intro ca bg af w hm cb bh
   refine gS (gS (gR (gM rfl (gE (gs 37 rfl (fun bi => ?_) fun bi => ?_)))))
   ·
    refine gct rfl (gSk (gBk (gS (gR (gA rfl (gE (gS (gR (gM rfl (gY (yS (by omega) (by omega) rfl) (gA rfl (gE (gJ hm (fun aY => [(1, (pV aD)), (2, (pV aB)), (3, (pV aC)), (4, (nV ((c_.blocks.length : Int)))), (6, (.bool (aY.2.2)))]) (fun aY => [blk aD [(nV c_.params), (nV c_.regs), (.slice aK c_.blocks.length aJ)] 49, blk aB [(.slice none 0 0), (.slice none 0 0)] 93, blk aC [(.slice aH aA.1.length aE), (.slice aF aA.2.length aG)] 93, ow [(.slice aH aA.1.length aE)] aY.1, ow [(.slice aF aA.2.length aG)] aY.2.1]) (fun aY => ?_) ?_)))))))))))))
    ·
     refine gBk (gMf hm (fun aI => [(1, (pV aD)), (2, (pV aB)), (3, (pV aC)), (4, (nV ((c_.blocks.length : Int)))), (6, (.bool (aI.2.2.1))), (7, (nV aI.2.2.2))]) (fun aI => [blk aD [(nV c_.params), (nV c_.regs), (.slice aK c_.blocks.length aJ)] 49, blk aB [(.slice none 0 0), (.slice none 0 0)] 93, blk aC [(.slice aH aA.1.length aE), (.slice aF aA.2.length aG)] 93, ow [(.slice aH aA.1.length aE)] aI.1, ow [(.slice aF aA.2.length aG)] aI.2.1]) [0, 1, 2, 3, 4] rfl ?_)
     repeat clear hm
     intro cc bj aI w hm cd bk
     refine gS (gS (gR (gM rfl (gB rfl (gE (gsd 41 rfl (fun bl => ?_) fun bl => ?_))))))
     ·
      refine gct rfl (gSk (gS (gBk (gS (gS (gR (gA rfl (gE (gJ hm (fun aN => [(1, (pV aD)), (2, (pV aB)), (3, (pV aC)), (4, (nV ((c_.blocks.length : Int)))), (6, (.bool (aN.2))), (7, (nV aI.2.2.2))]) (fun aN => [blk aD [(nV c_.params), (nV c_.regs), (.slice aK c_.blocks.length aJ)] 49, blk aB [(.slice none 0 0), (.slice none 0 0)] 93, blk aC [(.slice aH aA.1.length aE), (.slice aF aA.2.length aG)] 93, ow [(.slice aH aA.1.length aE)] aI.1, ow [(.slice aF aA.2.length aG)] aN.1]) (fun aN => ?_) ?_)))))))))
      ·
       refine gBk (gMf hm (fun aX => [(1, (pV aD)), (2, (pV aB)), (3, (pV aC)), (4, (nV ((c_.blocks.length : Int)))), (6, (.bool (aX.2.1))), (7, (nV aI.2.2.2)), (8, (nV aX.2.2))]) (fun aX => [blk aD [(nV c_.params), (nV c_.regs), (.slice aK c_.blocks.length aJ)] 49, blk aB [(.slice none 0 0), (.slice none 0 0)] 93, blk aC [(.slice aH aA.1.length aE), (.slice aF aA.2.length aG)] 93, ow [(.slice aH aA.1.length aE)] aI.1, ow [(.slice aF aA.2.length aG)] aX.1]) [0, 1, 2, 3, 4] rfl ?_)
       repeat clear hm
       intro ce bm aX w hm cf bo
       refine gS (gS (gR (gM rfl (gF fo_49_2 rfl (gL hm 0 isAgg47 rfl (gM rfl (gg fun cg bN al => ?_)))))))
       obtain ⟨am, an, ci, he⟩ := idx_form' h1 al
       obtain ⟨rfl, _, rfl⟩ := sl3 he
       obtain ⟨cj, ck, cl, bO, cm, cn, ax⟩ := rk_Block_ h1 al
       refine gI st_47 bN (idx_lt al) rfl (gF fo_63_4 rfl (gY (yl isAgg43 ((bO.mono hm.lez).cell (j := 4) rfl) rfl) ?_))
       obtain ⟨co, cq, rfl, cr⟩ := ro_slice ax
       refine gY (yV st_43 rfl) (gB rfl (gE (gsd 52 rfl (fun bp => ?_) fun bp => ?_)))
       ·
        refine gct rfl (gSk (gS (gBk (gJ hm (fun ah => [(1, (pV aD)), (2, (pV aB)), (3, (pV aC)), (4, (nV ((c_.blocks.length : Int)))), (6, (.bool (ah.2))), (7, (nV aI.2.2.2)), (8, (nV aX.2.2))]) (fun ah => [blk aD [(nV c_.params), (nV c_.regs), (sV am an c_.blocks.length aJ)] 49, blk aB [(.slice none 0 0), (.slice none 0 0)] 93, blk aC [(.slice aH aA.1.length aE), (.slice aF aA.2.length aG)] 93, ow [(.slice aH aA.1.length aE)] aI.1, ow [(.slice aF aA.2.length aG)] ah.1]) (fun ah => ?_) ?_))))
        ·
         refine gW (.p 2 (.p 3 (.p 5 (.p 9 (.q 0 (.q 1 (.e 4 (.p 6 (.p 7 (.e 8 (.p 10 (.e 11 (.e 12 (.p 13 (.p 14 (.p 15 (.p 16 .fin)))) .nil) .nil)) .nil))) .nil))))))) [0, 1, 4, 8, 11] [2, 3, 5, 6, 7, 9, 10, 13, 14, 15, 16] hm [0, 1, 2, 3, 4] [blk aD [(nV c_.params), (nV c_.regs), (sV am an c_.blocks.length aJ)] 49, blk aB [(.slice none 0 0), (.slice none 0 0)] 93, blk aC [(.slice aH aA.1.length aE), (.slice aF aA.2.length aG)] 93, ow [(.slice aH aA.1.length aE)] aI.1, ow [(.slice aF aA.2.length aG)] aX.1] rfl mxo (by kernel_rfl) (fun _ _ _ h => h.2) fun w hm hS => tP rfl (fun w => yM rfl) (tP rfl (fun w => yF fo_49_2 rfl) (tP rfl (fun w => yM rfl) (tP rfl (fun w => yM rfl) (tQ rfl hS (fun w hm => yn (hm.blk_at 0 rfl) isAgg49 sizeOf49 rfl) (tQ rfl hS (fun w hm => yn (hm.blk_at 2 rfl) isAgg93 sizeOf93 rfl) (tO (tY rfl (yL hm 0 isAgg47 rfl) (tAs hS (tP rfl (fun w => yI st_47 bN (idx_lt al) rfl) (tP rfl (fun w => yF fo_63_4 rfl) (tO (tY rfl (yl isAgg43 ((bO.mono hm.lez).cell (j := 4) rfl) rfl) (tAs hS (gg fun bP bq ay => ?_))))))))))))))
         obtain ⟨ct, cu, cv, he⟩ := idx_form ax ay
         obtain ⟨rfl, _, rfl⟩ := sl3 he
         refine tP rfl (fun w => yI st_43 bq (idx_lt ay) rfl) (tO (tY rfl (yl isAgg3 ((flat_cells (cs := [(nV bP)]) (hm.now ax) ay rfl).cell (j := 0) rfl) rfl) (tAs hS (tO (gb fun cw br => ?_)))))
         obtain ⟨bs, hle, hm1, hsub, bt⟩ := hm.take2 (L1 := [ow [(.slice aF aA.2.length aG)] aX.1]) (L2 := [blk aD [(nV c_.params), (nV c_.regs), (sV am an c_.blocks.length aJ)] 49, blk aB [(.slice none 0 0), (.slice none 0 0)] 93, blk aC [(.slice aH aA.1.length aE), (.slice aF aA.2.length aG)] 93, ow [(.slice aH aA.1.length aE)] aI.1]) [4] [0, 1, 2, 3] (by decide) rfl rfl
         refine tf rfl rfl (fun a hf => e_call hf rfl call155 rfl (spec_l12Flow_ok _ bs c_ (sV am an c_.blocks.length aJ) (GT.mono hle h1) (⟨aI.1, aX.1⟩ : l12Sets) (.slice aH aA.1.length aE) (fz_ow (hsub 3 _ rfl)) (.slice aF aA.2.length aG) aI.2.2.2 bP hm1  _ br)) ?_
         rintro cx w ⟨rfl, hB⟩
         replace hm := bt _ _ hB; clear hB
         refine tAn rfl (tP rfl (fun w => yM rfl) (gs 68 rfl (fun bu => ?_) fun bu => ?_))
         ·
          exact tPo rfl rfl (tP rfl (fun w => yKt rfl) (tP rfl (fun w => yA rfl) (tE (gz hm [1, 2, 3, 4, 0] rfl))))
         exact tP rfl (fun w => yM rfl) (tP rfl (fun w => yKf rfl) (tP rfl (fun w => yA rfl) (tE (gz hm [1, 2, 3, 4, 0] rfl))))
        repeat clear hm
        intro ah w hm
        exact gR (gM rfl (gB rfl (gA rfl (gE (gze hm [0, 1, 2, 3, 4] rfl)))))
       exact gcf rfl (gXt (gHh (gLp bo bm (gz hm [0, 1, 2, 3, 4] rfl))))
      repeat clear hm
      intro aN w hm
      refine gS (gR (gY (yn (hm.blk_at 0 rfl) isAgg49 sizeOf49 rfl) (gY (yn (hm.blk_at 2 rfl) isAgg93 sizeOf93 rfl) (gM rfl (gCg rfl call90 (spec_l12Behind_ok _ c_ (.slice aK c_.blocks.length aJ) (hm.now h1) (⟨aI.1, aN.1⟩ : l12Sets) (.slice aH aA.1.length aE) (hm.ow_rep 3 rfl) (.slice aF aA.2.length aG) (hm.ow_rep 4 rfl) aI.2.2.2 (-1)) ?_)))))
      rintro aO cy cz w ⟨_, rfl, hB⟩
      replace hm := hm.give hB; clear hB
      refine gA rfl (gE (gS (gS (gR (gA rfl (gE ?_))))))
      obtain ⟨aP, aQ, rfl, dA⟩ := ro_slice (hm.ow_rep 0 rfl)
      refine gJ hm (fun aV => [(1, (pV aD)), (2, (pV aB)), (3, (pV aC)), (4, (nV ((c_.blocks.length : Int)))), (6, (.bool (aN.2))), (7, (nV aI.2.2.2)), (9, (.slice aP aO.length aQ))]) (fun aV => [blk aD [(nV c_.params), (nV c_.regs), (.slice aK c_.blocks.length aJ)] 49, blk aB [(.slice none 0 0), (.slice none 0 0)] 93, blk aC [(.slice aH aA.1.length aE), (.slice aF aA.2.length aG)] 93, ow [(.slice aH aA.1.length aE)] aI.1, ow [(.slice aF aA.2.length aG)] aN.1, ow [(.slice aP aO.length aQ)] aV]) (fun aV => ?_) ?_
      ·
       refine gBk (gMf hm (fun ao => [(1, (pV aD)), (2, (pV aB)), (3, (pV aC)), (4, (nV ((c_.blocks.length : Int)))), (6, (.bool (aN.2))), (7, (nV aI.2.2.2)), (9, (.slice aP aO.length aQ)), (10, (nV ao.2))]) (fun ao => [blk aD [(nV c_.params), (nV c_.regs), (.slice aK c_.blocks.length aJ)] 49, blk aB [(.slice none 0 0), (.slice none 0 0)] 93, blk aC [(.slice aH aA.1.length aE), (.slice aF aA.2.length aG)] 93, ow [(.slice aH aA.1.length aE)] aI.1, ow [(.slice aF aA.2.length aG)] aN.1, ow [(.slice aP aO.length aQ)] ao.1]) [1, 2, 3, 4, 5, 0] rfl ?_)
       repeat clear hm
       intro dD bv ao w hm dE bx
       refine gS (gS (gR (gM rfl (gF fo_49_2 rfl (gL hm 0 isAgg47 rfl (gM rfl (gg fun dF bQ ap => ?_)))))))
       obtain ⟨dG, dH, dI, he⟩ := idx_form' h1 ap
       obtain ⟨rfl, _, rfl⟩ := sl3 he
       obtain ⟨dJ, dK, dL, bR, az, dM, dN⟩ := rk_Block_ h1 ap
       refine gI st_47 bQ (idx_lt ap) rfl (gF fo_63_0 rfl (gY (yl isAgg60 ((bR.mono hm.lez).cell (j := 0) rfl) rfl) ?_))
       obtain ⟨dO, dP, rfl, dQ⟩ := ro_slice az
       refine gY (yV st_60 rfl) (gB rfl (gE (gsd 83 rfl (fun bz => ?_) fun bz => ?_)))
       ·
        refine gct rfl (gSk (gS (gBk (gR (gM rfl (gF fo_49_2 rfl (gL hm 0 isAgg47 rfl (gM rfl (gI st_47 bQ (idx_lt ap) rfl (gF fo_63_0 rfl (gY (yl isAgg60 ((bR.mono hm.lez).cell (j := 0) rfl) rfl) (gM rfl (gg fun dR cA bA => ?_)))))))))))))
        obtain ⟨dS, dT, dU, he⟩ := idx_form' az bA
        obtain ⟨rfl, _, rfl⟩ := sl3 he
        obtain ⟨dV, cB, dW⟩ := rk_Phi_ az bA
        refine gI st_60 cA (idx_lt bA) rfl (gF fo_127_0 rfl (gY (yl isAgg3 ((cB.mono hm.lez).cell (j := 0) rfl) rfl) (gg fun dX cC aq => ?_)))
        obtain ⟨dY, dZ, d1, he⟩ := idx_form (hm.ow_rep 5 rfl) aq
        obtain ⟨rfl, _, rfl⟩ := sl3 he
        have hL6_1 := rep_slice_len (hm.ow_rep 5 rfl)
        refine gI st_90 cC (idx_lt2 aq hL6_1) rfl (gf0 rfl (fun a hf => e_setElem (x1 := false) (j := 0) (vs := [(.bool (false))]) 5 hf hm rfl aq rfl sizeOf4 rfl rfl rfl (one_cons rfl one_nil) rfl rfl) ?_)
        rintro _ w hm
        have d2 := List.getElem?_set_self (a := false) (idx_lt aq)
        exact gE (gR (gM rfl (gB rfl (gA rfl (gE (gze hm [0, 1, 2, 3, 4, 5] rfl))))))
       exact gcf rfl (gXt (gHh (gLp bx bv (gz hm [0, 1, 2, 3, 4, 5] rfl))))
      repeat clear hm
      intro aV w hm
      refine gS (gS (gR (gA rfl (gE (gBk (gb fun _ bS => ?_))))))
      replace bS := fitI_some.1 bS
      refine gNf hm (fun ar bB => [(1, (pV aD)), (2, (pV aB)), (3, (pV aC)), (4, (nV ((c_.blocks.length : Int)))), (6, (.bool (bB))), (7, (nV aI.2.2.2)), (9, (.slice aP aO.length aQ)), (11, (nV ar))]) (fun ar bB => [blk aD [(nV c_.params), (nV c_.regs), (.slice aK c_.blocks.length aJ)] 49, blk aB [(.slice none 0 0), (.slice none 0 0)] 93, blk aC [(.slice aH aA.1.length aE), (.slice aF aA.2.length aG)] 93, ow [(.slice aH aA.1.length aE)] aI.1, ow [(.slice aF aA.2.length aG)] aN.1, ow [(.slice aP aO.length aQ)] aV]) [0, 1, 2, 3, 4, 5] rfl ?_ ?_
      ·
       repeat clear hm
       intro _ _ ar bB w hm d3 d4 d5 _
       refine gS (gS (gR (gM rfl (gF fo_49_1 rfl (gL hm 0 isAgg3 rfl (gB rfl (gE (go _ 101 rfl (decide_eq_true (by omega)) (gct rfl (gSk (gS (gBk (gJ hm (fun au => [(1, (pV aD)), (2, (pV aB)), (3, (pV aC)), (4, (nV ((c_.blocks.length : Int)))), (6, (.bool (au))), (7, (nV aI.2.2.2)), (9, (.slice aP aO.length aQ)), (11, (nV ar))]) (fun au => [blk aD [(nV c_.params), (nV c_.regs), (.slice aK c_.blocks.length aJ)] 49, blk aB [(.slice none 0 0), (.slice none 0 0)] 93, blk aC [(.slice aH aA.1.length aE), (.slice aF aA.2.length aG)] 93, ow [(.slice aH aA.1.length aE)] aI.1, ow [(.slice aF aA.2.length aG)] aN.1, ow [(.slice aP aO.length aQ)] aV]) (fun au => ?_) ?_)))))))))))))
       ·
        refine gW (.p 0 (.p 1 (.p 2 (.p 3 (.p 4 (.p 6 (.p 8 (.p 11 (.q 5 (.e 7 (.p 9 (.e 10 (.p 12 (.e 13 (.p 14 (.p 15 (.p 16 .fin))) .nil)) .nil)) .nil)))))))))) [7, 10, 13] [0, 1, 2, 3, 4, 6, 8, 9, 11, 12, 14, 15, 16] hm [0, 1, 2, 3, 4, 5] [blk aD [(nV c_.params), (nV c_.regs), (.slice aK c_.blocks.length aJ)] 49, blk aB [(.slice none 0 0), (.slice none 0 0)] 93, blk aC [(.slice aH aA.1.length aE), (.slice aF aA.2.length aG)] 93, ow [(.slice aH aA.1.length aE)] aI.1, ow [(.slice aF aA.2.length aG)] aN.1, ow [(.slice aP aO.length aQ)] aV] rfl mxo (by kernel_rfl) (fun _ _ _ h => h.2) fun w hm hS => tP rfl (fun w => yM rfl) (tP rfl (fun w => yM rfl) (gs 105 rfl (fun cD => ?_) fun cD => ?_))
        ·
         exact tPo rfl rfl (tPo rfl rfl (tPo rfl rfl (tPo rfl rfl (tPo rfl rfl (tPo rfl rfl (tQo rfl hS rfl (tO (tEo rfl rfl (tAs hS (tPo rfl rfl (tO (tEo rfl rfl (tAs hS (tPo rfl rfl (tO (tEo rfl rfl (tAs hS (tPo rfl rfl (tP rfl (fun w => yKt rfl) (tP rfl (fun w => yA rfl) (tE (gz hm [0, 1, 2, 3, 4, 5] rfl))))))))))))))))))))))
        refine tP rfl (fun w => yM rfl) (tP rfl (fun w => yM rfl) (gg fun cE cF bC => ?_))
        obtain ⟨d6, d7, d8, he⟩ := idx_form (hm.ow_rep 5 rfl) bC
        obtain ⟨rfl, _, rfl⟩ := sl3 he
        have hL6_2 := rep_slice_len (hm.ow_rep 5 rfl)
        refine tP rfl (fun w => yI st_90 cF (idx_lt2 bC hL6_2) rfl) (tP rfl (fun w => yF fo_93_0 rfl) (tP rfl (fun w => yM rfl) (tP rfl (fun w => yM rfl) (tQ rfl hS (fun w hm => yl isAgg4 ((flat_cells (cs := [(.bool (cE))]) (hm.ow_rep 5 rfl) bC rfl).cell (j := 0) rfl) rfl) (tO (tY rfl (yL hm 2 isAgg45 rfl) (tAs hS (gg fun cG cH bD => ?_))))))))
        obtain ⟨cI, cJ, d9, he⟩ := idx_form' (hm.ow_rep 3 rfl) bD
        obtain ⟨rfl, _, rfl⟩ := sl3 he
        obtain ⟨_, _, bE, cK⟩ := ro_get' (hm.ow_rep 3 rfl) bD
        have ai := cK
        obtain ⟨bT, rfl, -⟩ := id ai
        replace ai : GT.rep (hp _) [bT] cG := ai
        replace bE : CellsAt (hp _) cI (cJ + (aI.2.2.2).toNat * 1) [bT] := bE
        have hL6_3 := rep_slice_len (hm.ow_rep 3 rfl)
        refine tP rfl (fun w => yI st_45 cH (idx_lt2 bD hL6_3) rfl) (tO (tY rfl (yl isAgg90 (bE.cell (j := 0) rfl) rfl) (tAs hS (gg fun cL cM bF => ?_))))
        obtain ⟨da, db, dc, he⟩ := idx_form ai bF
        subst he
        exact tP rfl (fun w => yI st_90 cM (idx_lt bF) rfl) (tO (tY rfl (yl isAgg4 ((flat_cells (cs := [(.bool (cL))]) ai bF rfl).cell (j := 0) rfl) rfl) (tAs hS (tP rfl (fun w => yG rfl (y_neqb underlying4 rfl rfl rfl)) (tP rfl (fun w => yKf rfl) (tP rfl (fun w => yA rfl) (tE (gz hm [0, 1, 2, 3, 4, 5] rfl))))))))
       repeat clear hm
       intro au w hm
       exact gR (gM rfl (gP (by omega) (by omega) rfl (gA rfl (gE (gze hm [0, 1, 2, 3, 4, 5] rfl)))))
      repeat clear hm
      intro dd de w hm df dg
      refine gS (gS (gR (gM rfl (gF fo_49_1 rfl (gL hm 0 isAgg3 rfl (gB rfl (gE (go _ 101 rfl (decide_eq_false (by omega)) (gcf rfl (gXt (gHh (gR (gF fo_93_0 rfl (gL hm 2 isAgg45 rfl (gM rfl (gM rfl (gg fun cN cO aj => ?_)))))))))))))))))
      obtain ⟨bG, bH, dh, he⟩ := idx_form' (hm.ow_rep 3 rfl) aj
      obtain ⟨rfl, _, rfl⟩ := sl3 he
      obtain ⟨_, _, bU, cP⟩ := ro_get' (hm.ow_rep 3 rfl) aj
      have bJ := cP
      obtain ⟨bV, rfl, -⟩ := id bJ
      replace bJ : GT.rep (hp _) [bV] cN := bJ
      replace bU : CellsAt (hp _) bG (bH + (aI.2.2.2).toNat * 1) [bV] := bU
      have hL4_1 := rep_slice_len (hm.ow_rep 3 rfl)
      refine gI st_45 cO (idx_lt2 aj hL4_1) rfl ?_
      replace hm := hm.imp (c' := ow [(.slice aP aO.length aQ)] (aV : List Bool)) 5 rfl (fun F h0 => h0)
      replace hm := (hm.both 3 5 (by decide) rfl rfl).pk (L' := [blk aD [(nV c_.params), (nV c_.regs), (.slice aK c_.blocks.length aJ)] 49, blk aB [(.slice none 0 0), (.slice none 0 0)] 93, blk aC [(sV bG bH aA.1.length aE), (.slice aF aA.2.length aG)] 93, both (ow [(sV bG bH aA.1.length aE)] aI.1) (ow [(.slice aP aO.length aQ)] (aV : List Bool)), ow [(.slice aF aA.2.length aG)] aN.1]) [0, 1, 2, 3, 4] rfl rfl
      refine gf0 rfl (fun a hf => e_putElem (x1 := (aV : List Bool)) (vs := [(.slice aP aO.length aQ)]) 3 hf hm rfl aj rfl sizeOf90 rfl rfl rfl rfl) ?_
      rintro _ w hm
      have di := List.getElem?_set_self (a := (aV : List Bool)) (idx_lt aj)
      exact gE (gR (gM rfl (gB rfl (gA rfl (gE (gze hm [0, 1, 2, 3, 4] rfl))))))
     exact gcf rfl (gXt (gHh (gLp bk bj (gz hm [0, 1, 2, 3, 4] rfl))))
    repeat clear hm
    intro aY w hm
    exact gze hm [0, 1, 2, 3, 4] rfl
   exact gcf rfl (gXt (gHh (gLp bh bg (gz hm [1, 2, 3, 4] rfl))))
  repeat clear hm
  intro ae w hm
  exact gS (gR (gY (yn (hm.blk_at 1 rfl) isAgg93 sizeOf93 rfl) (gSN hm 0 sizeOf93 (one_cons rfl (one_cons rfl one_nil)) rfl fun w hm => gE (gRt (grc 0 results88 hm rfl isAgg93 sizeOf93 ⟨(.slice aH aA.1.length aE), (.slice aF aA.2.length aG), rfl, hm.pk [2, 3] rfl rfl⟩)))))
abbrev od175_1 : Go.Wk.Ord := (.p 10 (.e 12 .fin .nil))
abbrev od175_2 : Go.Wk.Ord := (.p 10 (.e 11 (.e 12 .fin .nil) .nil))
abbrev od175_3 : Go.Wk.Ord := (.e 9 od175_2 (.e 11 (.e 9 od175_1 .nil) .nil))
abbrev od175_4 : Go.Wk.Ord := (.e 6 (.e 9 od175_1 .nil) .nil)
abbrev od175_5 : Go.Wk.Ord := (.e 1 od175_2 (.e 11 (.e 1 od175_1 .nil) .nil))
abbrev od175_6 : Go.Wk.Ord := (.e 1 (.e 9 od175_1 .nil) (.e 9 (.e 1 od175_1 .nil) .nil))
abbrev od175_7 : Go.Wk.Ord := (.e 0 od175_2 (.e 11 (.e 0 od175_1 .nil) .nil))
abbrev od175_8 : Go.Wk.Ord := (.e 0 (.e 9 od175_1 .nil) (.e 9 (.e 0 od175_1 .nil) .nil))
abbrev od175_9 : Go.Wk.Ord := (.e 0 (.e 1 od175_1 .nil) (.e 1 (.e 0 od175_1 .nil) .nil))
abbrev od175_10 : Go.Wk.Ord := (.e 6 od175_3 (.e 11 od175_4 .nil))
abbrev od175_11 : Go.Wk.Ord := (.e 1 od175_3 (.e 9 od175_5 (.e 11 od175_6 .nil)))
abbrev od175_12 : Go.Wk.Ord := (.e 1 od175_4 (.e 6 od175_6 .nil))
abbrev od175_13 : Go.Wk.Ord := (.e 0 od175_3 (.e 9 od175_7 (.e 11 od175_8 .nil)))
abbrev od175_14 : Go.Wk.Ord := (.e 0 od175_4 (.e 6 od175_8 .nil))
abbrev od175_15 : Go.Wk.Ord := (.e 0 od175_6 (.e 1 od175_8 (.e 9 od175_9 .nil)))
theorem spec_l7CopyBlock_ok (w0 : World) (b_ : Block_) (v1 : Value) (h1 : GT.rep (hp w0) [v1] b_.phis) (v2 : Value) (h2 : GT.rep (hp w0) [v2] b_.ins) (v3 : Value) (h3 : GT.rep (hp w0) [v3] b_.next_) :
    ConM Tryz.prog 175 [(.agg #[v1, v2, (nV b_.jump), (nV b_.on), v3])] w0 (spec_l7CopyBlock b_) fun r v w' => ∃ (x1 : Value) (x2 : Value) (x3 : Value), v = (.agg #[x1, x2, (nV r.jump), (nV r.on), x3]) ∧ Mem w0 (hp w0) w' [ow [x1] r.phis, ow [x2] r.ins, ow [x3] r.next_] := by
  unfold spec_l7CopyBlock
  refine gcon func175 rfl fun r => ?_
  have hm := Mem.start w0
  refine gS (gR (gBx hm rfl fun aB w hm => gAl hm zeroValue63 rfl fun aC w hm => gE (gS (gJg (fun aD a w => ∃ (aI : Nat) (bt bu bv : Value), St 74 [(1, (pV aB)), (2, (pV aC)), (3, (pV aI))] w0 (hp w0) [blk aB [v1, v2, (nV b_.jump), (nV b_.on), v3] 63, blk aC [(.slice none 0 0), (.slice none 0 0), (nV 0), (nV 0), (.slice none 0 0)] 63, blk aI [bt, bu, (nV b_.jump), (nV b_.on), bv] 63, ow [bt] ([] : List Phi_), ow [bu] ([] : List Ins_), ow [bv] aD] a w) (fun aD => ?_) ?_))))
  ·
   refine gW (.p 2 (.p 4 (.p 7 (.q 3 (.q 5 (.q 8 (.e 0 (.e 1 od175_10 (.e 6 od175_11 (.e 11 od175_12 .nil))) (.e 1 (.e 0 od175_10 (.e 6 od175_13 (.e 11 od175_14 .nil))) (.e 6 (.e 0 od175_11 (.e 1 od175_13 (.e 9 (.e 0 od175_5 (.e 1 od175_7 (.e 11 od175_9 .nil))) (.e 11 od175_15 .nil)))) (.e 11 (.e 0 od175_12 (.e 1 od175_14 (.e 6 od175_15 .nil))) .nil)))))))))) [0, 1, 3, 5, 6, 8, 9, 11] [2, 4, 7, 10] hm [0, 1] [blk aC [(.slice none 0 0), (.slice none 0 0), (nV 0), (nV 0), (.slice none 0 0)] 63, blk aB [v1, v2, (nV b_.jump), (nV b_.on), v3] 63] rfl mxo (by kernel_rfl) (fun _ _ _ h => h.2) fun w hm hS => tP rfl (fun w => yF fo_63_2 rfl) (tP rfl (fun w => yF fo_63_3 rfl) (tP rfl (fun w => yF fo_63_4 rfl) (tQ rfl hS (fun w hm => yL hm 1 isAgg3 rfl) (tQ rfl hS (fun w hm => yL hm 1 isAgg3 rfl) (tQ rfl hS (fun w hm => yL hm 1 isAgg43 rfl) (gb fun aN aY => tSh ((.e 12 .fin .nil)) (fun a w => ∃ (bW : Nat) (bX bY bZ : Value), St 74 [(1, (pV aB)), (2, (pV aC)), (3, (pV bW)), (17, (.agg #[bX, bY, (nV b_.jump), (nV b_.on), bZ]))] w0 (hp w0) [blk aB [v1, v2, (nV b_.jump), (nV b_.on), v3] 63, blk aC [(.slice none 0 0), (.slice none 0 0), (nV 0), (nV 0), (.slice none 0 0)] 63, blk bW [(.slice none 0 0), (.slice none 0 0), (nV 0), (nV 0), (.slice none 0 0)] 63, ow [bX] ([] : List Phi_), ow [bY] ([] : List Ins_), ow [bZ] aN] a w) ?_ fun hT2_1 => ?_))))))
   ·
    rintro a w ⟨bW, bX, bY, bZ, hf, hm⟩
    refine tSv hf hm [1, 0] rfl fun hS => tO (tf0 rfl rfl (fun a hf => e_storeN 2 hf hm rfl sizeOf63 rfl rfl rfl (one_cons (rep_one (hm.ow_rep 3 rfl)) (one_cons (rep_one (hm.ow_rep 4 rfl)) (one_cons rfl (one_cons rfl (one_cons (rep_one (hm.ow_rep 5 rfl)) one_nil))))) rfl rfl) ?_)
    rintro _ w hm
    exact tAn rfl (tE (gZ fun a hf => ⟨bW, bX, bY, bZ, hf.sb rfl, hm.pk [0, 1, 2, 3, 4, 5] rfl rfl⟩))
   refine tSh (od175_1) (fun a w => ∃ (b6 : Nat) (bx bz cA : Value), St 74 [(1, (pV aB)), (2, (pV aC)), (3, (pV b6)), (7, bx), (8, bz), (10, (nV b_.jump)), (12, (nV b_.on)), (16, cA)] w0 (hp w0) [blk aB [v1, v2, (nV b_.jump), (nV b_.on), v3] 63, blk aC [(.slice none 0 0), (.slice none 0 0), (nV 0), (nV 0), (.slice none 0 0)] 63, blk b6 [(.slice none 0 0), (.slice none 0 0), (nV 0), (nV 0), (.slice none 0 0)] 63, ow [bx] ([] : List Phi_), ow [bz] ([] : List Ins_), ow [cA] aN] a w) ?_ fun hT2_2 => ?_
   ·
    rintro a w ⟨b6, bx, bz, cA, hf, hm⟩
    refine tSv hf hm [1, 0] rfl fun hS => ?_
    obtain ⟨ah, ai, rfl, cQ⟩ := ro_slice (hm.ow_rep 3 rfl)
    obtain ⟨aj, ak, rfl, cR⟩ := ro_slice (hm.ow_rep 4 rfl)
    obtain ⟨al, am, rfl, cS⟩ := ro_slice (hm.ow_rep 5 rfl)
    exact tP rfl (fun w => yG rfl (y_build (vs := [(0, (.slice ah ([] : List Phi_).length ai)), (1, (.slice aj ([] : List Ins_).length ak)), (2, (nV b_.jump)), (3, (nV b_.on)), (4, (.slice al aN.length am))]) (cs := #[(.slice ah ([] : List Phi_).length ai), (.slice aj ([] : List Ins_).length ak), (nV b_.jump), (nV b_.on), (.slice al aN.length am)]) rfl rfl (by kernel_rfl))) (tUse hT2_1 fun a hf => ⟨b6, (.slice ah ([] : List Phi_).length ai), (.slice aj ([] : List Ins_).length ak), (.slice al aN.length am), hf.sb rfl, hm.pk [0, 1, 2, 3, 4, 5] rfl rfl⟩)
   refine tSh ((.e 0 od175_1 .nil)) (fun a w => ∃ (b8 : Nat) (b9 ba : Value), St 74 [(1, (pV aB)), (2, (pV aC)), (3, (pV b8)), (8, b9), (10, (nV b_.jump)), (12, (nV b_.on)), (16, ba)] w0 (hp w0) [blk aB [v1, v2, (nV b_.jump), (nV b_.on), v3] 63, blk aC [(.slice none 0 0), (.slice none 0 0), (nV 0), (nV 0), (.slice none 0 0)] 63, blk b8 [(.slice none 0 0), (.slice none 0 0), (nV 0), (nV 0), (.slice none 0 0)] 63, ow [b9] ([] : List Ins_), ow [ba] aN] a w) ?_ fun hT2_3 => ?_
   ·
    rintro a w ⟨b8, b9, ba, hf, hm⟩
    refine tSv hf hm [1, 0] rfl fun hS => tO (tf rfl rfl (fun a hf => e_build0 (α := Phi_) et_60 hm rfl) ?_)
    rintro aE w hm
    exact tAk hm [2, 1] rfl fun hS => tUse hT2_2 fun a hf => ⟨b8, aE, b9, ba, hf.sb rfl, hm.pk [1, 2, 3, 0, 4, 5] rfl rfl⟩
   refine tSh ((.e 1 od175_1 .nil)) (fun a w => ∃ (bb : Nat) (bc bd : Value), St 74 [(1, (pV aB)), (2, (pV aC)), (3, (pV bb)), (7, bc), (10, (nV b_.jump)), (12, (nV b_.on)), (16, bd)] w0 (hp w0) [blk aB [v1, v2, (nV b_.jump), (nV b_.on), v3] 63, blk aC [(.slice none 0 0), (.slice none 0 0), (nV 0), (nV 0), (.slice none 0 0)] 63, blk bb [(.slice none 0 0), (.slice none 0 0), (nV 0), (nV 0), (.slice none 0 0)] 63, ow [bc] ([] : List Phi_), ow [bd] aN] a w) ?_ fun hT2_4 => ?_
   ·
    rintro a w ⟨bb, bc, bd, hf, hm⟩
    refine tSv hf hm [1, 0] rfl fun hS => tO (tf rfl rfl (fun a hf => e_build0 (α := Ins_) et_61 hm rfl) ?_)
    rintro aE w hm
    exact tAk hm [2, 1] rfl fun hS => tUse hT2_2 fun a hf => ⟨bb, bc, aE, bd, hf.sb rfl, hm.pk [1, 2, 3, 4, 0, 5] rfl rfl⟩
   refine tSh ((.e 9 od175_1 .nil)) (fun a w => ∃ (be : Nat) (bf bg cB : Value), St 74 [(1, (pV aB)), (2, (pV aC)), (3, (pV be)), (7, bf), (8, bg), (10, (nV b_.jump)), (12, (nV b_.on)), (13, cB), (15, v3)] w0 (hp w0) [blk aB [v1, v2, (nV b_.jump), (nV b_.on), v3] 63, blk aC [(.slice none 0 0), (.slice none 0 0), (nV 0), (nV 0), (.slice none 0 0)] 63, blk be [(.slice none 0 0), (.slice none 0 0), (nV 0), (nV 0), (.slice none 0 0)] 63, ow [bf] ([] : List Phi_), ow [bg] ([] : List Ins_), ow [cB] ([] : List Int)] a w) ?_ fun hT2_5 => ?_
   ·
    rintro a w ⟨be, bf, bg, cB, hf, hm⟩
    refine tSv hf hm [1, 0] rfl fun hS => tO ?_
    obtain ⟨aK, aL⟩ := appM_some.1 aY
    refine tf rfl rfl (fun a hf => e_append 5 et_43 hf hm rfl (hm.now h3) rfl rfl rfl aK) ?_
    rintro aE w hm
    rw [aL] at hm
    exact tAk hm [1, 0] rfl fun hS => tUse hT2_2 fun a hf => ⟨be, bf, bg, aE, hf.sb rfl, hm.pk [0, 1, 2, 3, 4, 5] rfl rfl⟩
   refine tSh (od175_2) (fun a w => ∃ (cC cD cE : Value), St 74 [(1, (pV aB)), (2, (pV aC)), (7, cC), (8, cD), (10, (nV b_.jump)), (12, (nV b_.on)), (16, cE)] w0 (hp w0) [blk aB [v1, v2, (nV b_.jump), (nV b_.on), v3] 63, blk aC [(.slice none 0 0), (.slice none 0 0), (nV 0), (nV 0), (.slice none 0 0)] 63, ow [cC] ([] : List Phi_), ow [cD] ([] : List Ins_), ow [cE] aN] a w) ?_ fun hT2_6 => ?_
   ·
    rintro a w ⟨cC, cD, cE, hf, hm⟩
    refine tSv hf hm [1, 0] rfl fun hS => ?_
    obtain ⟨ah, ai, rfl, cQ⟩ := ro_slice (hm.ow_rep 2 rfl)
    obtain ⟨aj, ak, rfl, cR⟩ := ro_slice (hm.ow_rep 3 rfl)
    obtain ⟨al, am, rfl, cS⟩ := ro_slice (hm.ow_rep 4 rfl)
    refine tP rfl (fun w => yG rfl (y_build (vs := [(0, (.slice ah ([] : List Phi_).length ai)), (1, (.slice aj ([] : List Ins_).length ak)), (2, (nV b_.jump)), (3, (nV b_.on)), (4, (.slice al aN.length am))]) (cs := #[(.slice ah ([] : List Phi_).length ai), (.slice aj ([] : List Ins_).length ak), (nV b_.jump), (nV b_.on), (.slice al aN.length am)]) rfl rfl (by kernel_rfl))) (tO (tf rfl rfl (fun a hf => e_alloc hm zeroValue63 rfl rfl) ?_))
    rintro _ w ⟨aM, rfl, hm⟩
    exact tAk hm [2, 1] rfl fun hS => tUse hT2_1 fun a hf => ⟨aM, (.slice ah ([] : List Phi_).length ai), (.slice aj ([] : List Ins_).length ak), (.slice al aN.length am), hf.sb rfl, hm.pk [1, 2, 0, 3, 4, 5] rfl rfl⟩
   refine tSh (od175_9) (fun a w => ∃ (au : Nat) (av : Value), St 74 [(1, (pV aB)), (2, (pV aC)), (3, (pV au)), (10, (nV b_.jump)), (12, (nV b_.on)), (16, av)] w0 (hp w0) [blk aB [v1, v2, (nV b_.jump), (nV b_.on), v3] 63, blk aC [(.slice none 0 0), (.slice none 0 0), (nV 0), (nV 0), (.slice none 0 0)] 63, blk au [(.slice none 0 0), (.slice none 0 0), (nV 0), (nV 0), (.slice none 0 0)] 63, ow [av] aN] a w) ?_ fun hT2_7 => ?_
   ·
    rintro a w ⟨au, av, hf, hm⟩
    refine tSv hf hm [1, 0] rfl fun hS => tMo ?_ ?_
    ·
     refine tf rfl rfl (fun a hf => e_build0 (α := Phi_) et_60 hm rfl) ?_
     rintro aE w hm
     exact tAk hm [2, 1] rfl fun hS => tUse hT2_4 fun a hf => ⟨au, aE, av, hf.sb rfl, hm.pk [1, 2, 3, 0, 4] rfl rfl⟩
    refine tO (tf rfl rfl (fun a hf => e_build0 (α := Ins_) et_61 hm rfl) ?_)
    rintro aJ w hm
    exact tAk hm [2, 1] rfl fun hS => tUse hT2_3 fun a hf => ⟨au, aJ, av, hf.sb rfl, hm.pk [1, 2, 3, 0, 4] rfl rfl⟩
   refine tSh (od175_8) (fun a w => ∃ (aw : Nat) (ax bh : Value), St 74 [(1, (pV aB)), (2, (pV aC)), (3, (pV aw)), (8, ax), (10, (nV b_.jump)), (12, (nV b_.on)), (13, bh), (15, v3)] w0 (hp w0) [blk aB [v1, v2, (nV b_.jump), (nV b_.on), v3] 63, blk aC [(.slice none 0 0), (.slice none 0 0), (nV 0), (nV 0), (.slice none 0 0)] 63, blk aw [(.slice none 0 0), (.slice none 0 0), (nV 0), (nV 0), (.slice none 0 0)] 63, ow [ax] ([] : List Ins_), ow [bh] ([] : List Int)] a w) ?_ fun hT2_8 => ?_
   ·
    rintro a w ⟨aw, ax, bh, hf, hm⟩
    refine tSv hf hm [1, 0] rfl fun hS => tMo ?_ ?_
    ·
     refine tf rfl rfl (fun a hf => e_build0 (α := Phi_) et_60 hm rfl) ?_
     rintro aE w hm
     exact tAk hm [2, 1] rfl fun hS => tUse hT2_5 fun a hf => ⟨aw, aE, ax, bh, hf.sb rfl, hm.pk [1, 2, 3, 0, 4, 5] rfl rfl⟩
    refine tO ?_
    obtain ⟨aK, aL⟩ := appM_some.1 aY
    refine tf rfl rfl (fun a hf => e_append 4 et_43 hf hm rfl (hm.now h3) rfl rfl rfl aK) ?_
    rintro aJ w hm
    rw [aL] at hm
    exact tAk hm [1, 0] rfl fun hS => tUse hT2_3 fun a hf => ⟨aw, ax, aJ, hf.sb rfl, hm.pk [0, 1, 2, 3, 4] rfl rfl⟩
   refine tSh (od175_7) (fun a w => ∃ (ay az : Value), St 74 [(1, (pV aB)), (2, (pV aC)), (8, ay), (10, (nV b_.jump)), (12, (nV b_.on)), (16, az)] w0 (hp w0) [blk aB [v1, v2, (nV b_.jump), (nV b_.on), v3] 63, blk aC [(.slice none 0 0), (.slice none 0 0), (nV 0), (nV 0), (.slice none 0 0)] 63, ow [ay] ([] : List Ins_), ow [az] aN] a w) ?_ fun hT2_9 => ?_
   ·
    rintro a w ⟨ay, az, hf, hm⟩
    refine tSv hf hm [1, 0] rfl fun hS => tMo ?_ ?_
    ·
     refine tf rfl rfl (fun a hf => e_build0 (α := Phi_) et_60 hm rfl) ?_
     rintro aE w hm
     exact tAk hm [2, 1] rfl fun hS => tUse hT2_6 fun a hf => ⟨aE, ay, az, hf.sb rfl, hm.pk [1, 2, 0, 3, 4] rfl rfl⟩
    refine tO (tf rfl rfl (fun a hf => e_alloc hm zeroValue63 rfl rfl) ?_)
    rintro _ w ⟨aM, rfl, hm⟩
    exact tAk hm [2, 1] rfl fun hS => tUse hT2_3 fun a hf => ⟨aM, ay, az, hf.sb rfl, hm.pk [1, 2, 0, 3, 4] rfl rfl⟩
   refine tSh (od175_6) (fun a w => ∃ (bA : Nat) (bB bi : Value), St 74 [(1, (pV aB)), (2, (pV aC)), (3, (pV bA)), (7, bB), (10, (nV b_.jump)), (12, (nV b_.on)), (13, bi), (15, v3)] w0 (hp w0) [blk aB [v1, v2, (nV b_.jump), (nV b_.on), v3] 63, blk aC [(.slice none 0 0), (.slice none 0 0), (nV 0), (nV 0), (.slice none 0 0)] 63, blk bA [(.slice none 0 0), (.slice none 0 0), (nV 0), (nV 0), (.slice none 0 0)] 63, ow [bB] ([] : List Phi_), ow [bi] ([] : List Int)] a w) ?_ fun hT2_10 => ?_
   ·
    rintro a w ⟨bA, bB, bi, hf, hm⟩
    refine tSv hf hm [1, 0] rfl fun hS => tMo ?_ ?_
    ·
     refine tf rfl rfl (fun a hf => e_build0 (α := Ins_) et_61 hm rfl) ?_
     rintro aE w hm
     exact tAk hm [2, 1] rfl fun hS => tUse hT2_5 fun a hf => ⟨bA, bB, aE, bi, hf.sb rfl, hm.pk [1, 2, 3, 4, 0, 5] rfl rfl⟩
    refine tO ?_
    obtain ⟨aK, aL⟩ := appM_some.1 aY
    refine tf rfl rfl (fun a hf => e_append 4 et_43 hf hm rfl (hm.now h3) rfl rfl rfl aK) ?_
    rintro aJ w hm
    rw [aL] at hm
    exact tAk hm [1, 0] rfl fun hS => tUse hT2_4 fun a hf => ⟨bA, bB, aJ, hf.sb rfl, hm.pk [0, 1, 2, 3, 4] rfl rfl⟩
   refine tSh (od175_5) (fun a w => ∃ (bC bD : Value), St 74 [(1, (pV aB)), (2, (pV aC)), (7, bC), (10, (nV b_.jump)), (12, (nV b_.on)), (16, bD)] w0 (hp w0) [blk aB [v1, v2, (nV b_.jump), (nV b_.on), v3] 63, blk aC [(.slice none 0 0), (.slice none 0 0), (nV 0), (nV 0), (.slice none 0 0)] 63, ow [bC] ([] : List Phi_), ow [bD] aN] a w) ?_ fun hT2_11 => ?_
   ·
    rintro a w ⟨bC, bD, hf, hm⟩
    refine tSv hf hm [1, 0] rfl fun hS => tMo ?_ ?_
    ·
     refine tf rfl rfl (fun a hf => e_build0 (α := Ins_) et_61 hm rfl) ?_
     rintro aE w hm
     exact tAk hm [2, 1] rfl fun hS => tUse hT2_6 fun a hf => ⟨bC, aE, bD, hf.sb rfl, hm.pk [1, 2, 3, 0, 4] rfl rfl⟩
    refine tO (tf rfl rfl (fun a hf => e_alloc hm zeroValue63 rfl rfl) ?_)
    rintro _ w ⟨aM, rfl, hm⟩
    exact tAk hm [2, 1] rfl fun hS => tUse hT2_4 fun a hf => ⟨aM, bC, bD, hf.sb rfl, hm.pk [1, 2, 0, 3, 4] rfl rfl⟩
   refine tSh (od175_4) (fun a w => ∃ (bj : Nat) (bk bl : Value), St 74 [(1, (pV aB)), (2, (pV aC)), (3, (pV bj)), (7, bk), (8, bl), (10, (nV b_.jump)), (12, (nV b_.on)), (15, v3)] w0 (hp w0) [blk aB [v1, v2, (nV b_.jump), (nV b_.on), v3] 63, blk aC [(.slice none 0 0), (.slice none 0 0), (nV 0), (nV 0), (.slice none 0 0)] 63, blk bj [(.slice none 0 0), (.slice none 0 0), (nV 0), (nV 0), (.slice none 0 0)] 63, ow [bk] ([] : List Phi_), ow [bl] ([] : List Ins_)] a w) ?_ fun hT2_12 => ?_
   ·
    rintro a w ⟨bj, bk, bl, hf, hm⟩
    refine tSv hf hm [1, 0] rfl fun hS => tO (tf rfl rfl (fun a hf => e_build0 (α := Int) et_43 hm rfl) ?_)
    rintro aE w hm
    exact tAk hm [2, 1] rfl fun hS => tUse hT2_5 fun a hf => ⟨bj, bk, bl, aE, hf.sb rfl, hm.pk [1, 2, 3, 4, 5, 0] rfl rfl⟩
   refine tSh (od175_3) (fun a w => ∃ (bE bF bm : Value), St 74 [(1, (pV aB)), (2, (pV aC)), (7, bE), (8, bF), (10, (nV b_.jump)), (12, (nV b_.on)), (13, bm), (15, v3)] w0 (hp w0) [blk aB [v1, v2, (nV b_.jump), (nV b_.on), v3] 63, blk aC [(.slice none 0 0), (.slice none 0 0), (nV 0), (nV 0), (.slice none 0 0)] 63, ow [bE] ([] : List Phi_), ow [bF] ([] : List Ins_), ow [bm] ([] : List Int)] a w) ?_ fun hT2_13 => ?_
   ·
    rintro a w ⟨bE, bF, bm, hf, hm⟩
    refine tSv hf hm [1, 0] rfl fun hS => tMo ?_ ?_
    ·
     obtain ⟨aK, aL⟩ := appM_some.1 aY
     refine tf rfl rfl (fun a hf => e_append 4 et_43 hf hm rfl (hm.now h3) rfl rfl rfl aK) ?_
     rintro aE w hm
     rw [aL] at hm
     exact tAk hm [1, 0] rfl fun hS => tUse hT2_6 fun a hf => ⟨bE, bF, aE, hf.sb rfl, hm.pk [0, 1, 2, 3, 4] rfl rfl⟩
    refine tO (tf rfl rfl (fun a hf => e_alloc hm zeroValue63 rfl rfl) ?_)
    rintro _ w ⟨aM, rfl, hm⟩
    exact tAk hm [2, 1] rfl fun hS => tUse hT2_5 fun a hf => ⟨aM, bE, bF, bm, hf.sb rfl, hm.pk [1, 2, 0, 3, 4, 5] rfl rfl⟩
   refine tSh (od175_15) (fun a w => ∃ (an : Nat) (bG : Value), St 74 [(1, (pV aB)), (2, (pV aC)), (3, (pV an)), (10, (nV b_.jump)), (12, (nV b_.on)), (13, bG), (15, v3)] w0 (hp w0) [blk aB [v1, v2, (nV b_.jump), (nV b_.on), v3] 63, blk aC [(.slice none 0 0), (.slice none 0 0), (nV 0), (nV 0), (.slice none 0 0)] 63, blk an [(.slice none 0 0), (.slice none 0 0), (nV 0), (nV 0), (.slice none 0 0)] 63, ow [bG] ([] : List Int)] a w) ?_ fun hT2_14 => ?_
   ·
    rintro a w ⟨an, bG, hf, hm⟩
    refine tSv hf hm [1, 0] rfl fun hS => tMo ?_ ?_
    ·
     refine tf rfl rfl (fun a hf => e_build0 (α := Phi_) et_60 hm rfl) ?_
     rintro aE w hm
     exact tAk hm [2, 1] rfl fun hS => tUse hT2_10 fun a hf => ⟨an, aE, bG, hf.sb rfl, hm.pk [1, 2, 3, 0, 4] rfl rfl⟩
    refine tMo ?_ ?_
    ·
     refine tf rfl rfl (fun a hf => e_build0 (α := Ins_) et_61 hm rfl) ?_
     rintro aJ w hm
     exact tAk hm [2, 1] rfl fun hS => tUse hT2_8 fun a hf => ⟨an, aJ, bG, hf.sb rfl, hm.pk [1, 2, 3, 0, 4] rfl rfl⟩
    refine tO ?_
    obtain ⟨aK, aL⟩ := appM_some.1 aY
    refine tf rfl rfl (fun a hf => e_append 3 et_43 hf hm rfl (hm.now h3) rfl rfl rfl aK) ?_
    rintro cF w hm
    rw [aL] at hm
    exact tAk hm [1, 0] rfl fun hS => tUse hT2_7 fun a hf => ⟨an, cF, hf.sb rfl, hm.pk [0, 1, 2, 3] rfl rfl⟩
   refine tSh (od175_14) (fun a w => ∃ (bH : Nat) (bJ : Value), St 74 [(1, (pV aB)), (2, (pV aC)), (3, (pV bH)), (8, bJ), (10, (nV b_.jump)), (12, (nV b_.on)), (15, v3)] w0 (hp w0) [blk aB [v1, v2, (nV b_.jump), (nV b_.on), v3] 63, blk aC [(.slice none 0 0), (.slice none 0 0), (nV 0), (nV 0), (.slice none 0 0)] 63, blk bH [(.slice none 0 0), (.slice none 0 0), (nV 0), (nV 0), (.slice none 0 0)] 63, ow [bJ] ([] : List Ins_)] a w) ?_ fun hT2_15 => ?_
   ·
    rintro a w ⟨bH, bJ, hf, hm⟩
    refine tSv hf hm [1, 0] rfl fun hS => tMo ?_ ?_
    ·
     refine tf rfl rfl (fun a hf => e_build0 (α := Phi_) et_60 hm rfl) ?_
     rintro aE w hm
     exact tAk hm [2, 1] rfl fun hS => tUse hT2_12 fun a hf => ⟨bH, aE, bJ, hf.sb rfl, hm.pk [1, 2, 3, 0, 4] rfl rfl⟩
    refine tO (tf rfl rfl (fun a hf => e_build0 (α := Int) et_43 hm rfl) ?_)
    rintro aJ w hm
    exact tAk hm [2, 1] rfl fun hS => tUse hT2_8 fun a hf => ⟨bH, bJ, aJ, hf.sb rfl, hm.pk [1, 2, 3, 4, 0] rfl rfl⟩
   refine tSh (od175_13) (fun a w => ∃ (ao bK : Value), St 74 [(1, (pV aB)), (2, (pV aC)), (8, ao), (10, (nV b_.jump)), (12, (nV b_.on)), (13, bK), (15, v3)] w0 (hp w0) [blk aB [v1, v2, (nV b_.jump), (nV b_.on), v3] 63, blk aC [(.slice none 0 0), (.slice none 0 0), (nV 0), (nV 0), (.slice none 0 0)] 63, ow [ao] ([] : List Ins_), ow [bK] ([] : List Int)] a w) ?_ fun hT2_16 => ?_
   ·
    rintro a w ⟨ao, bK, hf, hm⟩
    refine tSv hf hm [1, 0] rfl fun hS => tMo ?_ ?_
    ·
     refine tf rfl rfl (fun a hf => e_build0 (α := Phi_) et_60 hm rfl) ?_
     rintro aE w hm
     exact tAk hm [2, 1] rfl fun hS => tUse hT2_13 fun a hf => ⟨aE, ao, bK, hf.sb rfl, hm.pk [1, 2, 0, 3, 4] rfl rfl⟩
    refine tMo ?_ ?_
    ·
     obtain ⟨aK, aL⟩ := appM_some.1 aY
     refine tf rfl rfl (fun a hf => e_append 3 et_43 hf hm rfl (hm.now h3) rfl rfl rfl aK) ?_
     rintro aJ w hm
     rw [aL] at hm
     exact tAk hm [1, 0] rfl fun hS => tUse hT2_9 fun a hf => ⟨ao, aJ, hf.sb rfl, hm.pk [0, 1, 2, 3] rfl rfl⟩
    refine tO (tf rfl rfl (fun a hf => e_alloc hm zeroValue63 rfl rfl) ?_)
    rintro _ w ⟨aM, rfl, hm⟩
    exact tAk hm [2, 1] rfl fun hS => tUse hT2_8 fun a hf => ⟨aM, ao, bK, hf.sb rfl, hm.pk [1, 2, 0, 3, 4] rfl rfl⟩
   refine tSh (od175_12) (fun a w => ∃ (bL : Nat) (bM : Value), St 74 [(1, (pV aB)), (2, (pV aC)), (3, (pV bL)), (7, bM), (10, (nV b_.jump)), (12, (nV b_.on)), (15, v3)] w0 (hp w0) [blk aB [v1, v2, (nV b_.jump), (nV b_.on), v3] 63, blk aC [(.slice none 0 0), (.slice none 0 0), (nV 0), (nV 0), (.slice none 0 0)] 63, blk bL [(.slice none 0 0), (.slice none 0 0), (nV 0), (nV 0), (.slice none 0 0)] 63, ow [bM] ([] : List Phi_)] a w) ?_ fun hT2_17 => ?_
   ·
    rintro a w ⟨bL, bM, hf, hm⟩
    refine tSv hf hm [1, 0] rfl fun hS => tMo ?_ ?_
    ·
     refine tf rfl rfl (fun a hf => e_build0 (α := Ins_) et_61 hm rfl) ?_
     rintro aE w hm
     exact tAk hm [2, 1] rfl fun hS => tUse hT2_12 fun a hf => ⟨bL, bM, aE, hf.sb rfl, hm.pk [1, 2, 3, 4, 0] rfl rfl⟩
    refine tO (tf rfl rfl (fun a hf => e_build0 (α := Int) et_43 hm rfl) ?_)
    rintro aJ w hm
    exact tAk hm [2, 1] rfl fun hS => tUse hT2_10 fun a hf => ⟨bL, bM, aJ, hf.sb rfl, hm.pk [1, 2, 3, 4, 0] rfl rfl⟩
   refine tSh (od175_11) (fun a w => ∃ (ap bN : Value), St 74 [(1, (pV aB)), (2, (pV aC)), (7, ap), (10, (nV b_.jump)), (12, (nV b_.on)), (13, bN), (15, v3)] w0 (hp w0) [blk aB [v1, v2, (nV b_.jump), (nV b_.on), v3] 63, blk aC [(.slice none 0 0), (.slice none 0 0), (nV 0), (nV 0), (.slice none 0 0)] 63, ow [ap] ([] : List Phi_), ow [bN] ([] : List Int)] a w) ?_ fun hT2_18 => ?_
   ·
    rintro a w ⟨ap, bN, hf, hm⟩
    refine tSv hf hm [1, 0] rfl fun hS => tMo ?_ ?_
    ·
     refine tf rfl rfl (fun a hf => e_build0 (α := Ins_) et_61 hm rfl) ?_
     rintro aE w hm
     exact tAk hm [2, 1] rfl fun hS => tUse hT2_13 fun a hf => ⟨ap, aE, bN, hf.sb rfl, hm.pk [1, 2, 3, 0, 4] rfl rfl⟩
    refine tMo ?_ ?_
    ·
     obtain ⟨aK, aL⟩ := appM_some.1 aY
     refine tf rfl rfl (fun a hf => e_append 3 et_43 hf hm rfl (hm.now h3) rfl rfl rfl aK) ?_
     rintro aJ w hm
     rw [aL] at hm
     exact tAk hm [1, 0] rfl fun hS => tUse hT2_11 fun a hf => ⟨ap, aJ, hf.sb rfl, hm.pk [0, 1, 2, 3] rfl rfl⟩
    refine tO (tf rfl rfl (fun a hf => e_alloc hm zeroValue63 rfl rfl) ?_)
    rintro _ w ⟨aM, rfl, hm⟩
    exact tAk hm [2, 1] rfl fun hS => tUse hT2_10 fun a hf => ⟨aM, ap, bN, hf.sb rfl, hm.pk [1, 2, 0, 3, 4] rfl rfl⟩
   refine tSh (od175_10) (fun a w => ∃ (bO bP : Value), St 74 [(1, (pV aB)), (2, (pV aC)), (7, bO), (8, bP), (10, (nV b_.jump)), (12, (nV b_.on)), (15, v3)] w0 (hp w0) [blk aB [v1, v2, (nV b_.jump), (nV b_.on), v3] 63, blk aC [(.slice none 0 0), (.slice none 0 0), (nV 0), (nV 0), (.slice none 0 0)] 63, ow [bO] ([] : List Phi_), ow [bP] ([] : List Ins_)] a w) ?_ fun hT2_19 => ?_
   ·
    rintro a w ⟨bO, bP, hf, hm⟩
    refine tSv hf hm [1, 0] rfl fun hS => tMo ?_ ?_
    ·
     refine tf rfl rfl (fun a hf => e_build0 (α := Int) et_43 hm rfl) ?_
     rintro aE w hm
     exact tAk hm [2, 1] rfl fun hS => tUse hT2_13 fun a hf => ⟨bO, bP, aE, hf.sb rfl, hm.pk [1, 2, 3, 4, 0] rfl rfl⟩
    refine tO (tf rfl rfl (fun a hf => e_alloc hm zeroValue63 rfl rfl) ?_)
    rintro _ w ⟨aM, rfl, hm⟩
    exact tAk hm [2, 1] rfl fun hS => tUse hT2_12 fun a hf => ⟨aM, bO, bP, hf.sb rfl, hm.pk [1, 2, 0, 3, 4] rfl rfl⟩
   refine tMo ?_ ?_
   ·
    refine tf rfl rfl (fun a hf => e_build0 (α := Phi_) et_60 hm rfl) ?_
    rintro aE w hm
    refine tAk hm [1, 2] rfl fun hS => tMo ?_ ?_
    ·
     refine tf rfl rfl (fun a hf => e_build0 (α := Ins_) et_61 hm rfl) ?_
     rintro aJ w hm
     exact tAk hm [2, 3] rfl fun hS => tUse hT2_19 fun a hf => ⟨aE, aJ, hf.sb rfl, hm.pk [3, 2, 1, 0] rfl rfl⟩
    refine tMo ?_ ?_
    ·
     refine tf rfl rfl (fun a hf => e_build0 (α := Int) et_43 hm rfl) ?_
     rintro cF w hm
     exact tAk hm [2, 3] rfl fun hS => tUse hT2_18 fun a hf => ⟨aE, cF, hf.sb rfl, hm.pk [3, 2, 1, 0] rfl rfl⟩
    refine tO (tf rfl rfl (fun a hf => e_alloc hm zeroValue63 rfl rfl) ?_)
    rintro _ w ⟨aM, rfl, hm⟩
    exact tAk hm [2, 3] rfl fun hS => tUse hT2_17 fun a hf => ⟨aM, aE, hf.sb rfl, hm.pk [3, 2, 0, 1] rfl rfl⟩
   refine tMo ?_ ?_
   ·
    refine tf rfl rfl (fun a hf => e_build0 (α := Ins_) et_61 hm rfl) ?_
    rintro cG w hm
    refine tAk hm [1, 2] rfl fun hS => tMo ?_ ?_
    ·
     refine tf rfl rfl (fun a hf => e_build0 (α := Phi_) et_60 hm rfl) ?_
     rintro cT w hm
     exact tAk hm [2, 3] rfl fun hS => tUse hT2_19 fun a hf => ⟨cT, cG, hf.sb rfl, hm.pk [3, 2, 0, 1] rfl rfl⟩
    refine tMo ?_ ?_
    ·
     refine tf rfl rfl (fun a hf => e_build0 (α := Int) et_43 hm rfl) ?_
     rintro cU w hm
     exact tAk hm [2, 3] rfl fun hS => tUse hT2_16 fun a hf => ⟨cG, cU, hf.sb rfl, hm.pk [3, 2, 1, 0] rfl rfl⟩
    refine tO (tf rfl rfl (fun a hf => e_alloc hm zeroValue63 rfl rfl) ?_)
    rintro _ w ⟨cV, rfl, hm⟩
    exact tAk hm [2, 3] rfl fun hS => tUse hT2_15 fun a hf => ⟨cV, cG, hf.sb rfl, hm.pk [3, 2, 0, 1] rfl rfl⟩
   refine tMo ?_ ?_
   ·
    refine tf rfl rfl (fun a hf => e_build0 (α := Int) et_43 hm rfl) ?_
    rintro cH w hm
    refine tAk hm [1, 2] rfl fun hS => tMo ?_ ?_
    ·
     refine tf rfl rfl (fun a hf => e_build0 (α := Phi_) et_60 hm rfl) ?_
     rintro cW w hm
     exact tAk hm [2, 3] rfl fun hS => tUse hT2_18 fun a hf => ⟨cW, cH, hf.sb rfl, hm.pk [3, 2, 0, 1] rfl rfl⟩
    refine tMo ?_ ?_
    ·
     refine tf rfl rfl (fun a hf => e_build0 (α := Ins_) et_61 hm rfl) ?_
     rintro cX w hm
     exact tAk hm [2, 3] rfl fun hS => tUse hT2_16 fun a hf => ⟨cX, cH, hf.sb rfl, hm.pk [3, 2, 0, 1] rfl rfl⟩
    refine tMo ?_ ?_
    ·
     obtain ⟨aK, aL⟩ := appM_some.1 aY
     refine tf rfl rfl (fun a hf => e_append 0 et_43 hf hm rfl (hm.now h3) rfl rfl rfl aK) ?_
     rintro cI w hm
     rw [aL] at hm
     refine tAk hm [1, 2] rfl fun hS => tMo ?_ ?_
     ·
      refine tf rfl rfl (fun a hf => e_build0 (α := Phi_) et_60 hm rfl) ?_
      rintro cY w hm
      exact tAk hm [2, 3] rfl fun hS => tUse hT2_11 fun a hf => ⟨cY, cI, hf.sb rfl, hm.pk [3, 2, 0, 1] rfl rfl⟩
     refine tMo ?_ ?_
     ·
      refine tf rfl rfl (fun a hf => e_build0 (α := Ins_) et_61 hm rfl) ?_
      rintro cZ w hm
      exact tAk hm [2, 3] rfl fun hS => tUse hT2_9 fun a hf => ⟨cZ, cI, hf.sb rfl, hm.pk [3, 2, 0, 1] rfl rfl⟩
     refine tO (tf rfl rfl (fun a hf => e_alloc hm zeroValue63 rfl rfl) ?_)
     rintro _ w ⟨c4, rfl, hm⟩
     exact tAk hm [2, 3] rfl fun hS => tUse hT2_7 fun a hf => ⟨c4, cI, hf.sb rfl, hm.pk [3, 2, 0, 1] rfl rfl⟩
    refine tO (tf rfl rfl (fun a hf => e_alloc hm zeroValue63 rfl rfl) ?_)
    rintro _ w ⟨c5, rfl, hm⟩
    exact tAk hm [2, 3] rfl fun hS => tUse hT2_14 fun a hf => ⟨c5, cH, hf.sb rfl, hm.pk [3, 2, 0, 1] rfl rfl⟩
   refine tO (tf rfl rfl (fun a hf => e_alloc hm zeroValue63 rfl rfl) ?_)
   rintro _ w ⟨cJ, rfl, hm⟩
   refine tAk hm [1, 2] rfl fun hS => tMo ?_ ?_
   ·
    refine tf rfl rfl (fun a hf => e_build0 (α := Phi_) et_60 hm rfl) ?_
    rintro c6 w hm
    exact tAk hm [2, 3] rfl fun hS => tUse hT2_17 fun a hf => ⟨cJ, c6, hf.sb rfl, hm.pk [3, 2, 1, 0] rfl rfl⟩
   refine tMo ?_ ?_
   ·
    refine tf rfl rfl (fun a hf => e_build0 (α := Ins_) et_61 hm rfl) ?_
    rintro c7 w hm
    exact tAk hm [2, 3] rfl fun hS => tUse hT2_15 fun a hf => ⟨cJ, c7, hf.sb rfl, hm.pk [3, 2, 1, 0] rfl rfl⟩
   refine tO (tf rfl rfl (fun a hf => e_build0 (α := Int) et_43 hm rfl) ?_)
   rintro c8 w hm
   exact tAk hm [2, 3] rfl fun hS => tUse hT2_14 fun a hf => ⟨cJ, c8, hf.sb rfl, hm.pk [3, 2, 1, 0] rfl rfl⟩
  repeat clear hm
  rintro aD a w ⟨aI, bt, bu, bv, hf, hm⟩
  refine gv hf (gS (gS (gR (gA rfl (gE ?_)))))
  obtain ⟨c9, ca, rfl, cx⟩ := ro_slice (hm.ow_rep 3 rfl)
  obtain ⟨aP, aQ, rfl, cy⟩ := ro_slice (hm.ow_rep 4 rfl)
  obtain ⟨aF, aG, rfl, cz⟩ := ro_slice (hm.ow_rep 5 rfl)
  refine gBk (gNg (fun cL aZ a w => ∃ (aR : Value), St 74 [(1, (pV aB)), (2, (pV aC)), (3, (pV aI)), (4, (nV cL))] w0 (hp w0) [blk aB [v1, v2, (nV b_.jump), (nV b_.on), v3] 63, blk aC [(.slice none 0 0), (.slice none 0 0), (nV 0), (nV 0), (.slice none 0 0)] 63, blk aI [aR, (.slice aP ([] : List Ins_).length aQ), (nV b_.jump), (nV b_.on), (.slice aF aD.length aG)] 63, ow [aR] aZ, ow [(.slice aP ([] : List Ins_).length aQ)] ([] : List Ins_), ow [(.slice aF aD.length aG)] aD] a w) (fun a hf => ⟨(.slice c9 ([] : List Phi_).length ca), hf.sb rfl, hm.pk [0, 1, 2, 3, 4, 5] rfl rfl⟩) ?_ ?_)
  ·
   repeat clear hm
   rintro _ _ cL aZ a w ⟨aR, hf, hm⟩ dA dD dE _
   refine gv hf (gS (gS (gR (gM rfl (gF fo_63_0 rfl (gL hm 0 isAgg60 rfl ?_))))))
   obtain ⟨cb, bQ, rfl, dF⟩ := ro_slice h1
   refine gY (yV st_60 rfl) (gB rfl (gE (go _ 22 rfl (decide_eq_true (by omega)) (gct rfl (gSk (gS (gBk (gW (.p 0 (.p 2 (.p 4 (.p 9 (.p 11 (.q 1 (.q 3 (.p 5 (.p 6 (.q 7 (.q 10 (.p 12 (.p 13 (.q 14 (.e 8 (.e 15 (.p 16 (.e 17 (.e 18 (.p 19 (.e 20 .fin .nil)) .nil) .nil)) .nil) .nil))))))))))))))) [1, 3, 7, 8, 10, 14, 15, 17] [0, 2, 4, 5, 6, 9, 11, 12, 13, 16, 19] hm [0, 1, 2, 3, 4, 5] [blk aB [(.slice cb b_.phis.length bQ), v2, (nV b_.jump), (nV b_.on), v3] 63, blk aC [(.slice none 0 0), (.slice none 0 0), (nV 0), (nV 0), (.slice none 0 0)] 63, blk aI [aR, (.slice aP ([] : List Ins_).length aQ), (nV b_.jump), (nV b_.on), (.slice aF aD.length aG)] 63, ow [aR] aZ, ow [(.slice aP ([] : List Ins_).length aQ)] ([] : List Ins_), ow [(.slice aF aD.length aG)] aD] rfl mxo (by kernel_rfl) (fun _ _ _ h => h.2) fun w hm hS => tP rfl (fun w => yF fo_63_0 rfl) (tP rfl (fun w => yF fo_63_0 rfl) (tP rfl (fun w => yM rfl) (tP rfl (fun w => yF fo_63_0 rfl) (tP rfl (fun w => yM rfl) (tQ rfl hS (fun w hm => yL hm 2 isAgg60 rfl) (tQ rfl hS (fun w hm => yL hm 0 isAgg60 rfl) (gg fun aO cM bo => ?_)))))))))))))))
   obtain ⟨bp, bq, dG, he⟩ := idx_form' h1 bo
   obtain ⟨rfl, _, rfl⟩ := sl3 he
   obtain ⟨dH, cN, cc⟩ := rk_Phi_ h1 bo
   refine tP rfl (fun w => yI st_60 cM (idx_lt bo) rfl) (tP rfl (fun w => yF fo_127_0 rfl) (tQ rfl hS (fun w hm => yl isAgg3 ((cN.mono hm.lez).cell (j := 0) rfl) rfl) (tQ rfl hS (fun w hm => yL hm 0 isAgg60 rfl) (tP rfl (fun w => yI st_60 cM (idx_lt bo) rfl) (tP rfl (fun w => yF fo_127_1 rfl) (tQ rfl hS (fun w hm => yl isAgg43 ((cN.mono hm.lez).cell (j := 1) rfl) rfl) (tO (tf rfl rfl (fun a hf => e_build0 (α := Int) et_43 hm rfl) ?_))))))))
   rintro dI w hm
   refine tAk hm [1, 2, 3, 4, 5, 6] rfl fun hS => tO (gb fun aS cd => ?_)
   obtain ⟨ce, cf⟩ := appM_some.1 cd
   refine tf rfl rfl (fun a hf => e_append 0 et_43 hf hm rfl (hm.now cc) rfl rfl rfl ce) ?_
   rintro dJ w hm
   rw [cf] at hm
   refine tAk hm [1, 2, 3, 4, 5, 6] rfl fun hS => ?_
   obtain ⟨aa, ab, rfl, dK⟩ := ro_slice (hm.ow_rep 0 rfl)
   refine tP rfl (fun w => yG rfl (y_build (vs := [(0, (nV aO.to)), (1, (.slice aa aS.length ab))]) (cs := #[(nV aO.to), (.slice aa aS.length ab)]) rfl rfl (by kernel_rfl))) (tO (tf rfl rfl (fun a hf => e_build (vs := #[(0, (.agg #[(nV aO.to), (.slice aa aS.length ab)]))]) (cs := [(nV aO.to), (.slice aa aS.length ab)]) et_60 hf hm rfl rfl (by kernel_rfl) rfl rfl) ?_))
   rintro _ w ⟨br, rfl, hm⟩
   replace hm := hm.els_nil (α := Phi_)
   replace hm : Mem w0 (hp w0) _ [els [] ([] : List Phi_), blk br [(nV aO.to), (.slice aa aS.length ab)] 127, ow [(nV aO.to), (.slice aa aS.length ab)] ((⟨aO.to, aS⟩ : Phi_) : Phi_), blk aB [(sV bp bq b_.phis.length bQ), v2, (nV b_.jump), (nV b_.on), v3] 63, blk aC [(.slice none 0 0), (.slice none 0 0), (nV 0), (nV 0), (.slice none 0 0)] 63, blk aI [aR, (.slice aP ([] : List Ins_).length aQ), (nV b_.jump), (nV b_.on), (.slice aF aD.length aG)] 63, ow [aR] aZ, ow [(.slice aP ([] : List Ins_).length aQ)] ([] : List Ins_), ow [(.slice aF aD.length aG)] aD] := mk_Phi_ aO.to hm 2 rfl
   replace hm := (hm.els_cons 0 2 (by decide) rfl rfl).pk (L' := [els [(nV aO.to), (.slice aa aS.length ab)] ([(⟨aO.to, aS⟩ : Phi_)] : List Phi_), blk br [(nV aO.to), (.slice aa aS.length ab)] 127, blk aB [(sV bp bq b_.phis.length bQ), v2, (nV b_.jump), (nV b_.on), v3] 63, blk aC [(.slice none 0 0), (.slice none 0 0), (nV 0), (nV 0), (.slice none 0 0)] 63, blk aI [aR, (.slice aP ([] : List Ins_).length aQ), (nV b_.jump), (nV b_.on), (.slice aF aD.length aG)] 63, ow [aR] aZ, ow [(.slice aP ([] : List Ins_).length aQ)] ([] : List Ins_), ow [(.slice aF aD.length aG)] aD]) [0, 1, 3, 4, 5, 6, 7, 8] rfl rfl
   replace hm := (hm.lit_els 1 0 (by decide) rfl rfl rfl rfl).pk (L' := [ow [(sV br 0 1 1)] ([(⟨aO.to, aS⟩ : Phi_)] : List Phi_), blk aB [(sV bp bq b_.phis.length bQ), v2, (nV b_.jump), (nV b_.on), v3] 63, blk aC [(.slice none 0 0), (.slice none 0 0), (nV 0), (nV 0), (.slice none 0 0)] 63, blk aI [aR, (.slice aP ([] : List Ins_).length aQ), (nV b_.jump), (nV b_.on), (.slice aF aD.length aG)] 63, ow [aR] aZ, ow [(.slice aP ([] : List Ins_).length aQ)] ([] : List Ins_), ow [(.slice aF aD.length aG)] aD]) [1, 2, 3, 4, 5, 6, 7] rfl rfl
   refine tAk hm [1, 2, 3, 4, 5, 6] rfl fun hS => tO (gb fun dL cg => ?_)
   obtain ⟨ci, cj⟩ := appM_some.1 cg
   replace hm := (hm.both 4 0 (by decide) rfl rfl).pk (L' := [blk aB [(sV bp bq b_.phis.length bQ), v2, (nV b_.jump), (nV b_.on), v3] 63, blk aC [(.slice none 0 0), (.slice none 0 0), (nV 0), (nV 0), (.slice none 0 0)] 63, blk aI [aR, (.slice aP ([] : List Ins_).length aQ), (nV b_.jump), (nV b_.on), (.slice aF aD.length aG)] 63, both (ow [aR] aZ) (ow [(sV br 0 1 1)] ([(⟨aO.to, aS⟩ : Phi_)] : List Phi_)), ow [(.slice aP ([] : List Ins_).length aQ)] ([] : List Ins_), ow [(.slice aF aD.length aG)] aD]) [1, 2, 3, 4, 5, 6] rfl rfl
   refine tf rfl rfl (fun a hf => e_appendD (xs := aZ) (ys := ([(⟨aO.to, aS⟩ : Phi_)] : List Phi_)) 3 et_60 hf hm rfl rfl rfl rfl ci) ?_
   rintro ck w hm
   rw [cj] at hm
   refine tAn rfl (tP rfl (fun w => yF fo_63_0 rfl) (tO (tf0 rfl rfl (fun a hf => e_store1 2 hf hm rfl sizeOf60 rfl rfl rfl (rep_one (hm.ow_rep 3 rfl)) rfl) ?_)))
   rintro _ w hm
   exact tAn rfl (tE (gR (gM rfl (gP (by omega) (by omega) rfl (gA rfl (gE (gZe fun a hf => ⟨ck, hf.sb rfl, hm.pk [0, 1, 2, 3, 4, 5] rfl rfl⟩)))))))
  repeat clear hm
  rintro dM aH a w ⟨dN, hf, hm⟩ dO dP
  refine gv hf (gS (gS (gR (gM rfl (gF fo_63_0 rfl (gL hm 0 isAgg60 rfl ?_))))))
  obtain ⟨aq, ar, rfl, dQ⟩ := ro_slice h1
  refine gY (yV st_60 rfl) (gB rfl (gE (go _ 22 rfl (decide_eq_false (by omega)) (gcf rfl (gXt (gHh (gS (gS (gR (gA rfl (gE ?_)))))))))))
  obtain ⟨aT, aV, rfl, dR⟩ := ro_slice (hm.ow_rep 3 rfl)
  refine gBk (gNg (fun cO ac a w => ∃ (aW : Value), St 74 [(1, (pV aB)), (2, (pV aC)), (3, (pV aI)), (5, (nV cO))] w0 (hp w0) [blk aB [(.slice aq b_.phis.length ar), v2, (nV b_.jump), (nV b_.on), v3] 63, blk aC [(.slice none 0 0), (.slice none 0 0), (nV 0), (nV 0), (.slice none 0 0)] 63, blk aI [(.slice aT aH.length aV), aW, (nV b_.jump), (nV b_.on), (.slice aF aD.length aG)] 63, ow [(.slice aT aH.length aV)] aH, ow [aW] ac, ow [(.slice aF aD.length aG)] aD] a w) (fun a hf => ⟨(.slice aP ([] : List Ins_).length aQ), hf.sb rfl, hm.pk [0, 1, 2, 3, 4, 5] rfl rfl⟩) ?_ ?_)
  ·
   repeat clear hm
   rintro _ _ cO ac a w ⟨aW, hf, hm⟩ dS dT dU _
   refine gv hf (gS (gS (gR (gM rfl (gF fo_63_1 rfl (gL hm 0 isAgg61 rfl ?_))))))
   obtain ⟨dV, bR, rfl, dW⟩ := ro_slice h2
   refine gY (yV st_61 rfl) (gB rfl (gE (go _ 49 rfl (decide_eq_true (by omega)) (gct rfl (gSk (gS (gBk (gS (gR (gF fo_63_1 rfl (gL hm 0 isAgg61 rfl (gM rfl (gg fun aA cl cK => ?_)))))))))))))
   obtain ⟨bS, bT, dX, he⟩ := idx_form' h2 cK
   obtain ⟨rfl, _, rfl⟩ := sl3 he
   obtain ⟨bU, cm, cP⟩ := rk_Ins_ h2 cK
   refine gI st_61 cl (idx_lt cK) rfl (gY (yn (cm.mono hm.lez) isAgg65 sizeOf65 rfl) (gAl hm zeroValue65 rfl fun bV w hm => gSN hm 0 sizeOf65 (one_cons rfl (one_cons rfl (one_cons (rep_one cP) (one_cons rfl one_nil)))) rfl fun w hm => gE (gW (.p 0 (.p 2 (.p 4 (.p 7 (.p 10 (.q 1 (.q 3 (.q 5 (.q 8 (.q 11 (.e 6 (.e 9 (.p 12 (.e 13 (.e 14 (.p 15 (.e 16 .fin .nil)) .nil) .nil)) .nil) .nil))))))))))) [1, 3, 5, 6, 8, 9, 11, 13] [0, 2, 4, 7, 10, 12, 15] hm [0, 1, 2, 3, 4, 5, 6] [blk bV [(nV aA.op), (nV aA.to), bU, (nV aA.n_)] 65, blk aB [(.slice aq b_.phis.length ar), (sV bS bT b_.ins.length bR), (nV b_.jump), (nV b_.on), v3] 63, blk aC [(.slice none 0 0), (.slice none 0 0), (nV 0), (nV 0), (.slice none 0 0)] 63, blk aI [(.slice aT aH.length aV), aW, (nV b_.jump), (nV b_.on), (.slice aF aD.length aG)] 63, ow [(.slice aT aH.length aV)] aH, ow [aW] ac, ow [(.slice aF aD.length aG)] aD] rfl mxo (by kernel_rfl) (fun _ _ _ h => h.2) fun w hm hS => tP rfl (fun w => yF fo_63_1 rfl) (tP rfl (fun w => yF fo_65_0 rfl) (tP rfl (fun w => yF fo_65_1 rfl) (tP rfl (fun w => yF fo_65_2 rfl) (tP rfl (fun w => yF fo_65_3 rfl) (tQ rfl hS (fun w hm => yL hm 3 isAgg61 rfl) (tQ rfl hS (fun w hm => yL hm 0 isAgg3 rfl) (tQ rfl hS (fun w hm => yL hm 0 isAgg3 rfl) (tQ rfl hS (fun w hm => yL hm 0 isAgg43 rfl) (tQ rfl hS (fun w hm => yL hm 0 isAgg3 rfl) (tO (tf rfl rfl (fun a hf => e_build0 (α := Int) et_43 hm rfl) ?_))))))))))))))
   rintro dY w hm
   refine tAk hm [1, 2, 3, 4, 5, 6, 7] rfl fun hS => tO (gb fun aX cn => ?_)
   obtain ⟨co, cq⟩ := appM_some.1 cn
   refine tf rfl rfl (fun a hf => e_append 0 et_43 hf hm rfl (hm.now cP) rfl rfl rfl co) ?_
   rintro dZ w hm
   rw [cq] at hm
   refine tAk hm [1, 2, 3, 4, 5, 6, 7] rfl fun hS => ?_
   obtain ⟨ae, af, rfl, d1⟩ := ro_slice (hm.ow_rep 0 rfl)
   refine tP rfl (fun w => yG rfl (y_build (vs := [(0, (nV aA.op)), (1, (nV aA.to)), (2, (.slice ae aX.length af)), (3, (nV aA.n_))]) (cs := #[(nV aA.op), (nV aA.to), (.slice ae aX.length af), (nV aA.n_)]) rfl rfl (by kernel_rfl))) (tO (tf rfl rfl (fun a hf => e_build (vs := #[(0, (.agg #[(nV aA.op), (nV aA.to), (.slice ae aX.length af), (nV aA.n_)]))]) (cs := [(nV aA.op), (nV aA.to), (.slice ae aX.length af), (nV aA.n_)]) et_61 hf hm rfl rfl (by kernel_rfl) rfl rfl) ?_))
   rintro _ w ⟨bs, rfl, hm⟩
   replace hm := hm.els_nil (α := Ins_)
   replace hm : Mem w0 (hp w0) _ [els [] ([] : List Ins_), blk bs [(nV aA.op), (nV aA.to), (.slice ae aX.length af), (nV aA.n_)] 65, ow [(nV aA.op), (nV aA.to), (.slice ae aX.length af), (nV aA.n_)] ((⟨aA.op, aA.to, aX, aA.n_⟩ : Ins_) : Ins_), blk bV [(nV aA.op), (nV aA.to), bU, (nV aA.n_)] 65, blk aB [(.slice aq b_.phis.length ar), (sV bS bT b_.ins.length bR), (nV b_.jump), (nV b_.on), v3] 63, blk aC [(.slice none 0 0), (.slice none 0 0), (nV 0), (nV 0), (.slice none 0 0)] 63, blk aI [(.slice aT aH.length aV), aW, (nV b_.jump), (nV b_.on), (.slice aF aD.length aG)] 63, ow [(.slice aT aH.length aV)] aH, ow [aW] ac, ow [(.slice aF aD.length aG)] aD] := mk_Ins_ aA.op aA.to aA.n_ hm 2 rfl
   replace hm := (hm.els_cons 0 2 (by decide) rfl rfl).pk (L' := [els [(nV aA.op), (nV aA.to), (.slice ae aX.length af), (nV aA.n_)] ([(⟨aA.op, aA.to, aX, aA.n_⟩ : Ins_)] : List Ins_), blk bs [(nV aA.op), (nV aA.to), (.slice ae aX.length af), (nV aA.n_)] 65, blk bV [(nV aA.op), (nV aA.to), bU, (nV aA.n_)] 65, blk aB [(.slice aq b_.phis.length ar), (sV bS bT b_.ins.length bR), (nV b_.jump), (nV b_.on), v3] 63, blk aC [(.slice none 0 0), (.slice none 0 0), (nV 0), (nV 0), (.slice none 0 0)] 63, blk aI [(.slice aT aH.length aV), aW, (nV b_.jump), (nV b_.on), (.slice aF aD.length aG)] 63, ow [(.slice aT aH.length aV)] aH, ow [aW] ac, ow [(.slice aF aD.length aG)] aD]) [0, 1, 3, 4, 5, 6, 7, 8, 9] rfl rfl
   replace hm := (hm.lit_els 1 0 (by decide) rfl rfl rfl rfl).pk (L' := [ow [(sV bs 0 1 1)] ([(⟨aA.op, aA.to, aX, aA.n_⟩ : Ins_)] : List Ins_), blk bV [(nV aA.op), (nV aA.to), bU, (nV aA.n_)] 65, blk aB [(.slice aq b_.phis.length ar), (sV bS bT b_.ins.length bR), (nV b_.jump), (nV b_.on), v3] 63, blk aC [(.slice none 0 0), (.slice none 0 0), (nV 0), (nV 0), (.slice none 0 0)] 63, blk aI [(.slice aT aH.length aV), aW, (nV b_.jump), (nV b_.on), (.slice aF aD.length aG)] 63, ow [(.slice aT aH.length aV)] aH, ow [aW] ac, ow [(.slice aF aD.length aG)] aD]) [1, 2, 3, 4, 5, 6, 7, 8] rfl rfl
   refine tAk hm [1, 2, 3, 4, 5, 6, 7] rfl fun hS => tO (gb fun d2 cr => ?_)
   obtain ⟨ct, cu⟩ := appM_some.1 cr
   replace hm := (hm.both 6 0 (by decide) rfl rfl).pk (L' := [blk bV [(nV aA.op), (nV aA.to), bU, (nV aA.n_)] 65, blk aB [(.slice aq b_.phis.length ar), (sV bS bT b_.ins.length bR), (nV b_.jump), (nV b_.on), v3] 63, blk aC [(.slice none 0 0), (.slice none 0 0), (nV 0), (nV 0), (.slice none 0 0)] 63, blk aI [(.slice aT aH.length aV), aW, (nV b_.jump), (nV b_.on), (.slice aF aD.length aG)] 63, ow [(.slice aT aH.length aV)] aH, both (ow [aW] ac) (ow [(sV bs 0 1 1)] ([(⟨aA.op, aA.to, aX, aA.n_⟩ : Ins_)] : List Ins_)), ow [(.slice aF aD.length aG)] aD]) [1, 2, 3, 4, 5, 6, 7] rfl rfl
   refine tf rfl rfl (fun a hf => e_appendD (xs := ac) (ys := ([(⟨aA.op, aA.to, aX, aA.n_⟩ : Ins_)] : List Ins_)) 5 et_61 hf hm rfl rfl rfl rfl ct) ?_
   rintro cv w hm
   rw [cu] at hm
   refine tAn rfl (tP rfl (fun w => yF fo_63_1 rfl) (tO (tf0 rfl rfl (fun a hf => e_store1 3 hf hm rfl sizeOf61 rfl rfl rfl (rep_one (hm.ow_rep 5 rfl)) rfl) ?_)))
   rintro _ w hm
   exact tAn rfl (tE (gR (gM rfl (gP (by omega) (by omega) rfl (gA rfl (gE (gZe fun a hf => ⟨cv, hf.sb rfl, hm.pk [1, 2, 3, 4, 5, 6] rfl rfl⟩)))))))
  repeat clear hm
  rintro d3 d4 a w ⟨cw, hf, hm⟩ d5 d6
  refine gv hf (gS (gS (gR (gM rfl (gF fo_63_1 rfl (gL hm 0 isAgg61 rfl ?_))))))
  obtain ⟨d7, d8, rfl, d9⟩ := ro_slice h2
  exact gY (yV st_61 rfl) (gB rfl (gE (go _ 49 rfl (decide_eq_false (by omega)) (gcf rfl (gXt (gHh (gS (gR (gY (yn (hm.blk_at 2 rfl) isAgg63 sizeOf63 rfl) (gSN hm 1 sizeOf63 (one_cons rfl (one_cons (rep_one (hm.ow_rep 4 rfl)) (one_cons rfl (one_cons rfl (one_cons rfl one_nil))))) rfl fun w hm => gE (gRt (grc 1 results175 hm rfl isAgg63 sizeOf63 ⟨(.slice aT aH.length aV), cw, (.slice aF aD.length aG), rfl, hm.pk [3, 4, 5] rfl rfl⟩))))))))))))
theorem spec_l7Copy_ok (w0 : World) (c_ : Code_) (v1 : Value) (h1 : GT.rep (hp w0) [v1] c_.blocks) :
    ConM Tryz.prog 106 [(.agg #[(nV c_.params), (nV c_.regs), v1])] w0 (spec_l7Copy c_) fun r v w' => ∃ (x1 : Value), v = (.agg #[(nV r.params), (nV r.regs), x1]) ∧ Mem w0 (hp w0) w' [ow [x1] r.blocks] := by
  unfold spec_l7Copy
  refine gcon func106 rfl fun r => ?_
  have hm := Mem.start w0
  refine gS (gR (gBx hm rfl fun aD w hm => gAl hm zeroValue49 rfl fun aE w hm => gE (gS (gR (gF fo_49_0 rfl (gL hm 1 isAgg3 rfl (gF fo_49_1 rfl (gL hm 1 isAgg3 rfl (gY (yG rfl (y_build (vs := [(0, (nV c_.params)), (1, (nV c_.regs))]) (cs := #[(nV c_.params), (nV c_.regs), (.slice none 0 0)]) rfl rfl (by kernel_rfl))) (gAl hm zeroValue49 rfl fun aF w hm => gSN hm 0 sizeOf49 (one_cons rfl (one_cons rfl (one_cons rfl one_nil))) rfl fun w hm => gE (gS (gS (gR (gA rfl (gE (gBk ?_))))))))))))))))
  replace hm := hm.nilow (α := Block_)
  refine gNg (fun aO aC a w => ∃ (aB : Value), St 29 [(1, (pV aD)), (2, (pV aE)), (3, (pV aF)), (4, (nV aO))] w0 (hp w0) [blk aD [(nV c_.params), (nV c_.regs), v1] 49, blk aE [(nV 0), (nV 0), (.slice none 0 0)] 49, blk aF [(nV c_.params), (nV c_.regs), aB] 49, ow [aB] aC] a w) (fun a hf => ⟨(.slice none 0 0), hf.sb rfl, hm.pk [3, 2, 1, 0] rfl rfl⟩) ?_ ?_
  ·
   repeat clear hm
   rintro _ _ aO aC a w ⟨aB, hf, hm⟩ ai aj ak _
   refine gv hf (gS (gS (gR (gM rfl (gF fo_49_2 rfl (gL hm 0 isAgg47 rfl ?_))))))
   obtain ⟨aP, aJ, rfl, al⟩ := ro_slice h1
   refine gY (yV st_47 rfl) (gB rfl (gE (go _ 14 rfl (decide_eq_true (by omega)) (gct rfl (gSk (gS (gBk (gW (.p 0 (.p 2 (.p 4 (.q 1 (.e 3 (.p 5 (.e 6 (.e 7 (.e 8 (.e 9 (.p 10 (.e 11 .fin .nil)) .nil) .nil) .nil) .nil)) .nil))))) [3, 6, 7, 8] [0, 2, 4, 5, 10] hm [0, 1, 2, 3] [blk aD [(nV c_.params), (nV c_.regs), (.slice aP c_.blocks.length aJ)] 49, blk aE [(nV 0), (nV 0), (.slice none 0 0)] 49, blk aF [(nV c_.params), (nV c_.regs), aB] 49, ow [aB] aC] rfl mxo (by kernel_rfl) (fun _ _ _ h => h.2) fun w hm hS => tP rfl (fun w => yF fo_49_2 rfl) (tP rfl (fun w => yF fo_49_2 rfl) (tP rfl (fun w => yM rfl) (tQ rfl hS (fun w hm => yL hm 2 isAgg47 rfl) (tO (tY rfl (yL hm 0 isAgg47 rfl) (tAs hS (gg fun aQ aR aN => ?_)))))))))))))))
   obtain ⟨aK, aL, am, he⟩ := idx_form' h1 aN
   obtain ⟨rfl, _, rfl⟩ := sl3 he
   obtain ⟨aS, aT, aV, aW, aX, aY, aZ⟩ := rk_Block_ h1 aN
   refine tP rfl (fun w => yI st_47 aR (idx_lt aN) rfl) (tO (tY rfl (yn (aW.mono hm.lez) isAgg63 sizeOf63 rfl) (tAs hS (tO (gb fun aA aa => tf rfl rfl (fun a hf => e_call hf rfl call175 rfl (spec_l7CopyBlock_ok _ aQ aS (hm.now aX) aT (hm.now aY) aV (hm.now aZ) _ aa)) ?_)))))
   rintro an w ⟨aG, aH, aI, rfl, hB⟩
   replace hm := hm.give hB; clear hB
   refine tAk hm [3, 4, 5, 6] rfl fun hS => tO (tf rfl rfl (fun a hf => e_build (vs := #[(0, (.agg #[aG, aH, (nV aA.jump), (nV aA.on), aI]))]) (cs := [aG, aH, (nV aA.jump), (nV aA.on), aI]) et_47 hf hm rfl rfl (by kernel_rfl) rfl rfl) ?_)
   rintro _ w ⟨aM, rfl, hm⟩
   replace hm := hm.els_nil (α := Block_)
   replace hm := (mk_Block_ aA.jump aA.on hm 2 3 4 rfl).pk (L' := [els [] ([] : List Block_), blk aM [aG, aH, (nV aA.jump), (nV aA.on), aI] 63, ow [aG, aH, (nV aA.jump), (nV aA.on), aI] (aA : Block_), blk aD [(nV c_.params), (nV c_.regs), (sV aK aL c_.blocks.length aJ)] 49, blk aE [(nV 0), (nV 0), (.slice none 0 0)] 49, blk aF [(nV c_.params), (nV c_.regs), aB] 49, ow [aB] aC]) [0, 1, 2, 5, 6, 7, 8] rfl rfl
   replace hm := (hm.els_cons 0 2 (by decide) rfl rfl).pk (L' := [els [aG, aH, (nV aA.jump), (nV aA.on), aI] ([aA] : List Block_), blk aM [aG, aH, (nV aA.jump), (nV aA.on), aI] 63, blk aD [(nV c_.params), (nV c_.regs), (sV aK aL c_.blocks.length aJ)] 49, blk aE [(nV 0), (nV 0), (.slice none 0 0)] 49, blk aF [(nV c_.params), (nV c_.regs), aB] 49, ow [aB] aC]) [0, 1, 3, 4, 5, 6] rfl rfl
   replace hm := (hm.lit_els 1 0 (by decide) rfl rfl rfl rfl).pk (L' := [ow [(sV aM 0 1 1)] ([aA] : List Block_), blk aD [(nV c_.params), (nV c_.regs), (sV aK aL c_.blocks.length aJ)] 49, blk aE [(nV 0), (nV 0), (.slice none 0 0)] 49, blk aF [(nV c_.params), (nV c_.regs), aB] 49, ow [aB] aC]) [1, 2, 3, 4, 5] rfl rfl
   refine tAk hm [1, 2, 3, 4] rfl fun hS => tO (gb fun ao ab => ?_)
   obtain ⟨ac, ae⟩ := appM_some.1 ab
   replace hm := (hm.both 4 0 (by decide) rfl rfl).pk (L' := [blk aD [(nV c_.params), (nV c_.regs), (sV aK aL c_.blocks.length aJ)] 49, blk aE [(nV 0), (nV 0), (.slice none 0 0)] 49, blk aF [(nV c_.params), (nV c_.regs), aB] 49, both (ow [aB] aC) (ow [(sV aM 0 1 1)] ([aA] : List Block_))]) [1, 2, 3, 4] rfl rfl
   refine tf rfl rfl (fun a hf => e_appendD (xs := aC) (ys := ([aA] : List Block_)) 3 et_47 hf hm rfl rfl rfl rfl ac) ?_
   rintro af w hm
   rw [ae] at hm
   refine tAn rfl (tP rfl (fun w => yF fo_49_2 rfl) (tO (tf0 rfl rfl (fun a hf => e_store1 2 hf hm rfl sizeOf47 rfl rfl rfl (rep_one (hm.ow_rep 3 rfl)) rfl) ?_)))
   rintro _ w hm
   exact tAn rfl (tE (gR (gM rfl (gP (by omega) (by omega) rfl (gA rfl (gE (gZe fun a hf => ⟨af, hf.sb rfl, hm.pk [0, 1, 2, 3] rfl rfl⟩)))))))
  repeat clear hm
  rintro ap aq a w ⟨ah, hf, hm⟩ ar au
  refine gv hf (gS (gS (gR (gM rfl (gF fo_49_2 rfl (gL hm 0 isAgg47 rfl ?_))))))
  obtain ⟨av, aw, rfl, ax⟩ := ro_slice h1
  exact gY (yV st_47 rfl) (gB rfl (gE (go _ 14 rfl (decide_eq_false (by omega)) (gcf rfl (gXt (gHh (gS (gR (gY (yn (hm.blk_at 2 rfl) isAgg49 sizeOf49 rfl) (gSN hm 1 sizeOf49 (one_cons rfl (one_cons rfl (one_cons (rep_one (hm.ow_rep 3 rfl)) one_nil))) rfl fun w hm => gE (gRt (grc 1 results106 hm rfl isAgg49 sizeOf49 ⟨ah, rfl, hm.pk [3] rfl rfl⟩))))))))))))
theorem spec_l8Pure_ok (w0 : World) (op : Int) :
    ConM Tryz.prog 357 [(nV op)] w0 (spec_l8Pure op) fun r v w' => v = (.bool (r)) ∧ Below w0.heap.size w0 w' := by
  unfold spec_l8Pure
  refine gcon func357 rfl fun r => ?_
  have hm := Mem.start w0
  exact gS (gR (gA rfl (gE (gS (gR (gM rfl (gC hm rfl call41 (spec_l1In_ok _ op 1 10) fun aA aB w hm => gA rfl (gE (gRt (gr1 results357 rfl ⟨rfl, hm.below⟩))))))))))
theorem spec_l12Quiet_ok (w0 : World) (op : Int) :
    ConM Tryz.prog 346 [(nV op)] w0 (spec_l12Quiet op) fun r v w' => v = (.bool (r)) ∧ Below w0.heap.size w0 w' := by
  unfold spec_l12Quiet
  refine gcon func346 rfl fun r => ?_
  have hm := Mem.start w0
  refine gS (gR (gA rfl (gE (gS (gJ hm (fun aA => [(2, (.bool (aA)))]) (fun aA => []) (fun aA => ?_) ?_)))))
  ·
   refine gR (gM rfl (gC hm rfl call357 (spec_l8Pure_ok _ op) fun aD aE w hm => gM rfl (gs 5 rfl (fun aB => ?_) fun aB => ?_)))
   ·
    refine gM rfl (gB rfl (gKt rfl (gM rfl (gsd 9 rfl (fun aC => ?_) fun aC => ?_))))
    ·
     exact gM rfl (gB rfl (gKt rfl (gA rfl (gE (gz hm [] rfl)))))
    exact gO rfl (gO rfl (gKf rfl (gA rfl (gE (gz hm [] rfl)))))
   exact gO rfl (gO rfl (gKf rfl (gM rfl (gO rfl (gO rfl (gKf rfl (gA rfl (gE (gz hm [] rfl)))))))))
  repeat clear hm
  intro aA w hm
  exact gRt (gr1 results346 rfl ⟨rfl, hm.below⟩)
theorem spec_l12Idle_ok (w0 : World) (c_ : Code_) (v1 : Value) (h1 : GT.rep (hp w0) [v1] c_.blocks) (s_ : l12Sets) (v2 : Value) (h2 : GT.rep (hp w0) [v2] s_.ins) (v3 : Value) (h3 : GT.rep (hp w0) [v3] s_.outs) (b_ : Int) :
    ConM Tryz.prog 319 [(.agg #[(nV c_.params), (nV c_.regs), v1]), (.agg #[v2, v3]), (nV b_)] w0 (spec_l12Idle c_ s_ b_) fun r v w' => ∃ (x1 : Value), v = x1 ∧ Mem w0 (hp w0) w' [ow [x1] r] := by
  unfold spec_l12Idle
  refine gcon func319 rfl fun r => ?_
  have hm := Mem.start w0
  refine gS (gR (gBx hm rfl fun aB w hm => gBx hm rfl fun aC w hm => gA rfl (gE (gS (gR (gf rfl (fun a hf => e_build0 (α := Int) et_43 hm rfl) ?_))))))
  rintro au w hm
  refine gA rfl (gE (gS (gS (gR (gA rfl (gE ?_))))))
  obtain ⟨aW, aX, rfl, av⟩ := ro_slice (hm.ow_rep 0 rfl)
  refine gJg (fun aN a w => ∃ (aH : Value), St 51 [(7, aH)] w0 (hp w0) [ow [aH] aN] a w) (fun aN => ?_) ?_
  ·
   refine gBk (gMg (fun aA a w => ∃ (aD : Value), St 51 [(2, (nV b_)), (3, (pV aB)), (4, (pV aC)), (7, aD), (8, (nV aA.2))] w0 (hp w0) [blk aB [(nV c_.params), (nV c_.regs), v1] 49, blk aC [v2, v3] 93, ow [aD] aA.1] a w) (fun a hf => ⟨(.slice aW ([] : List Int).length aX), hf.sb rfl, hm.pk [2, 1, 0] rfl rfl⟩) ?_)
   repeat clear hm
   rintro aw aY aA a w ⟨aD, hf, hm⟩ ax aZ
   refine gv hf (gS (gS (gR (gM rfl (gF fo_49_2 rfl (gL hm 0 isAgg47 rfl (gM rfl (gg fun ay aT aI => ?_))))))))
   obtain ⟨aE, aF, aG, he⟩ := idx_form' h1 aI
   subst he
   obtain ⟨az, bA, bB, aV, bC, aO, bD⟩ := rk_Block_ h1 aI
   refine gI st_47 aT (idx_lt aI) rfl (gF fo_63_1 rfl (gY (yl isAgg61 ((aV.mono hm.lez).cell (j := 1) rfl) rfl) ?_))
   obtain ⟨bE, bF, rfl, bG⟩ := ro_slice aO
   refine gY (yV st_61 rfl) (gB rfl (gE (gsd 19 rfl (fun aa => ?_) fun aa => ?_)))
   ·
    refine gct rfl (gSk (gS (gJg (fun aP a w => ∃ (aJ : Value), St 51 [(2, (nV b_)), (3, (pV aB)), (4, (pV aC)), (7, aJ), (8, (nV aA.2))] w0 (hp w0) [blk aB [(nV c_.params), (nV c_.regs), (sV aE aF c_.blocks.length aG)] 49, blk aC [v2, v3] 93, ow [aJ] aP] a w) (fun aP => ?_) ?_)))
    ·
     refine gBk (gS (gR (gF fo_49_2 rfl (gL hm 0 isAgg47 rfl (gM rfl (gI st_47 aT (idx_lt aI) rfl (gF fo_63_1 rfl (gY (yl isAgg61 ((aV.mono hm.lez).cell (j := 1) rfl) rfl) (gM rfl (gg fun aK ab aQ => ?_))))))))))
     obtain ⟨bH, bJ, bK, he⟩ := idx_form' aO aQ
     obtain ⟨rfl, _, rfl⟩ := sl3 he
     obtain ⟨ac, ae, af⟩ := rk_Ins_ aO aQ
     refine gI st_61 ab (idx_lt aQ) rfl (gY (yn (ae.mono hm.lez) isAgg65 sizeOf65 rfl) (gAl hm zeroValue65 rfl fun ah w hm => gSN hm 0 sizeOf65 (one_cons rfl (one_cons rfl (one_cons (rep_one af) (one_cons rfl one_nil)))) rfl fun w hm => gE (gS (gJ hm (fun aL => [(2, (nV b_)), (3, (pV aB)), (4, (pV aC)), (7, aD), (8, (nV aA.2)), (45, (.bool (aL)))]) (fun aL => [blk aB [(nV c_.params), (nV c_.regs), (sV aE aF c_.blocks.length aG)] 49, blk aC [v2, v3] 93, ow [aD] aA.1]) (fun aL => ?_) ?_))))
     ·
      refine gW (.p 0 (.e 1 (.e 2 (.p 3 (.p 6 (.p 7 (.p 9 (.q 4 (.q 5 (.q 10 (.e 8 (.p 11 (.e 12 (.p 13 (.p 14 .fin)) .nil)) .nil)))))))) .nil) .nil)) [4, 5, 8, 10] [0, 3, 6, 7, 9, 11, 13, 14] hm [0, 1, 2, 3] [blk ah [(nV aK.op), (nV aK.to), ac, (nV aK.n_)] 65, blk aB [(nV c_.params), (nV c_.regs), (sV aE aF c_.blocks.length aG)] 49, blk aC [v2, v3] 93, ow [aD] aA.1] rfl mxo (by kernel_rfl) (fun _ _ _ h => h.2) fun w hm hS => tP rfl (fun w => yF fo_65_0 rfl) (tO (tY rfl (yL hm 0 isAgg3 rfl) (tAn rfl (tO (gb fun bL ai => tf rfl rfl (fun a hf => e_call hf rfl call346 rfl (spec_l12Quiet_ok _ aK.op _ ai)) ?_)))))
      rintro bM w ⟨rfl, hB⟩
      replace hm := hm.below' hB; clear hB
      refine tAk hm [0, 1, 2, 3] rfl fun hS => tP rfl (fun w => yM rfl) (gs 34 rfl (fun aj => ?_) fun aj => ?_)
      ·
       refine tP rfl (fun w => yM rfl) (tP rfl (fun w => yM rfl) (tP rfl (fun w => yF fo_65_1 rfl) (tQ rfl hS (fun w hm => yn (hm.blk_at 1 rfl) isAgg49 sizeOf49 rfl) (tQ rfl hS (fun w hm => yn (hm.blk_at 2 rfl) isAgg93 sizeOf93 rfl) (tQ rfl hS (fun w hm => yL hm 0 isAgg3 rfl) (tO (gb fun bN ak => tf rfl rfl (fun a hf => e_call hf rfl call90 rfl (spec_l12Behind_ok _ c_ (sV aE aF c_.blocks.length aG) (hm.now h1) s_ v2 (hm.now h2) v3 (hm.now h3) b_ aA.2 _ ak)) ?_)))))))
       rintro bO w ⟨_, rfl, hB⟩
       replace hm := hm.give hB; clear hB
       refine tAk hm [1, 2, 3, 4] rfl fun hS => gg fun al am aR => ?_
       obtain ⟨bP, bQ, bR, he⟩ := idx_form (hm.ow_rep 0 rfl) aR
       subst he
       exact tP rfl (fun w => yI st_90 am (idx_lt aR) rfl) (tO (tY rfl (yl isAgg4 ((flat_cells (cs := [(.bool (al))]) (hm.ow_rep 0 rfl) aR rfl).cell (j := 0) rfl) rfl) (tAn rfl (tP rfl (fun w => yN rfl) (tP rfl (fun w => yKt rfl) (tE (gz hm [2, 3, 4] rfl)))))))
      exact tPo rfl rfl (tPo rfl rfl (tPo rfl rfl (tQo rfl hS rfl (tQo rfl hS rfl (tQo rfl hS rfl (tO (tEo rfl rfl (tAs hS (tPo rfl rfl (tO (tEo rfl rfl (tAn rfl (tPo rfl rfl (tP rfl (fun w => yKf rfl) (tE (gz hm [1, 2, 3] rfl))))))))))))))))
     repeat clear hm
     intro aL w hm
     refine gJg (fun aS a w => ∃ (aM : Value), St 51 [(2, (nV b_)), (3, (pV aB)), (4, (pV aC)), (7, aM), (8, (nV aA.2))] w0 (hp w0) [blk aB [(nV c_.params), (nV c_.regs), (sV aE aF c_.blocks.length aG)] 49, blk aC [v2, v3] 93, ow [aM] aS] a w) (fun aS => ?_) ?_
     ·
      refine gs 45 rfl (fun an => ?_) fun an => ?_
      ·
       refine gct rfl (gR (gM rfl (gM rfl (gf rfl (fun a hf => e_build (vs := #[(0, (nV aA.2))]) (cs := [(nV aA.2)]) et_43 hf hm rfl rfl (by kernel_rfl) rfl rfl) ?_))))
       rintro _ w ⟨bS, rfl, hm⟩
       replace hm := hm.lit (xs := ([aA.2] : List Int)) 0 rfl rfl rfl rfl
       refine gb fun bT ao => ?_
       obtain ⟨ap, aq⟩ := appM_some.1 ao
       refine gf rfl (fun a hf => e_append 3 et_43 hf hm rfl (hm.ow_rep 0 rfl) rfl rfl rfl ap) ?_
       rintro ar w hm
       rw [aq] at hm
       exact gA rfl (gE (gZ fun a hf => ⟨ar, hf.sb rfl, hm.pk [1, 2, 3] rfl rfl⟩))
      exact gcf rfl (gSk (gZ fun a hf => ⟨aD, hf.sb rfl, hm.pk [0, 1, 2] rfl rfl⟩))
     repeat clear hm
     rintro aS a w ⟨aM, hf, hm⟩
     exact gv hf (gZ fun a hf => ⟨aM, hf.sb rfl, hm.pk [0, 1, 2] rfl rfl⟩)
    repeat clear hm
    rintro aP a w ⟨aJ, hf, hm⟩
    exact gv hf (gR (gM rfl (gB rfl (gA rfl (gE (gZe fun a hf => ⟨aJ, hf.sb rfl, hm.pk [0, 1, 2] rfl rfl⟩))))))
   exact gcf rfl (gXt (gHh (gLp aZ aY (gZ fun a hf => ⟨aD, hf.sb rfl, hm.pk [2] rfl rfl⟩))))
  repeat clear hm
  rintro aN a w ⟨aH, hf, hm⟩
  exact gv hf (gS (gR (gM rfl (gA rfl (gE (gRt (gr1 results319 rfl ⟨aH, rfl, hm.pk [0] rfl rfl⟩)))))))
theorem spec_l12Once_ok (w0 : World) (c_ : Code_) (v1 : Value) (h1 : GT.rep (hp w0) [v1] c_.blocks) :
    ConM Tryz.prog 256 [(.agg #[(nV c_.params), (nV c_.regs), v1])] w0 (spec_l12Once c_) fun r v w' => ∃ (x1 : Value), v = (.tuple #[(.agg #[(nV r.1.params), (nV r.1.regs), x1]), (.bool (r.2))]) ∧ Mem w0 (hp w0) w' [ow [x1] r.1.blocks] := by
  unfold spec_l12Once
  refine gcon func256 rfl fun r => ?_
  have hm := Mem.start w0
  refine gS (gR (gBx hm rfl fun aR w hm => gAl hm zeroValue49 rfl fun aS w hm => gA rfl (gE (gS (gR (gY (yn (hm.blk_at 1 rfl) isAgg49 sizeOf49 rfl) (gCg rfl call88 (spec_l12Live_ok _ c_ v1 (hm.now h1)) ?_)))))))
  rintro aB cn co w ⟨cq, cr, rfl, hB⟩
  replace hm := hm.give hB; clear hB
  refine gAl hm zeroValue93 rfl fun aT w hm => gSN hm 0 sizeOf93 (one_cons (rep_one (hm.ow_rep 1 rfl)) (one_cons (rep_one (hm.ow_rep 2 rfl)) one_nil)) rfl fun w hm => gE (gS (gR (gY (yn (hm.blk_at 4 rfl) isAgg49 sizeOf49 rfl) (gCg rfl call106 (spec_l7Copy_ok _ c_ v1 (hm.now h1)) ?_))))
  rintro aC ct cu w ⟨cv, rfl, hB⟩
  replace hm := hm.give hB; clear hB
  refine gAl hm zeroValue49 rfl fun aV w hm => gSN hm 0 sizeOf49 (one_cons rfl (one_cons rfl (one_cons (rep_one (hm.ow_rep 1 rfl)) one_nil))) rfl fun w hm => gE (gS (gR (gA rfl (gE (gS (gS (gR (gA rfl (gE ?_)))))))))
  obtain ⟨aE, aF, rfl, cw⟩ := ro_slice (hm.ow_rep 3 rfl)
  obtain ⟨aG, aH, rfl, cx⟩ := ro_slice (hm.ow_rep 4 rfl)
  obtain ⟨bg, aI, rfl, cy⟩ := ro_slice (hm.ow_rep 1 rfl)
  refine gBk (gNf hm (fun aO aQ => [(1, (pV aR)), (2, (pV aS)), (4, (pV aT)), (5, (pV aV)), (6, (.bool (aQ.2))), (7, (nV aO))]) (fun aO aQ => [blk aR [(nV c_.params), (nV c_.regs), v1] 49, blk aS [(nV 0), (nV 0), (.slice none 0 0)] 49, blk aT [(.slice aE aB.ins.length aF), (.slice aG aB.outs.length aH)] 93, ow [(.slice aE aB.ins.length aF)] aB.ins, ow [(.slice aG aB.outs.length aH)] aB.outs, blk aV [(nV aC.params), (nV aC.regs), (.slice bg aC.blocks.length aI)] 49, ow [(.slice bg aC.blocks.length aI)] aQ.1]) [6, 5, 2, 3, 4, 0, 1] rfl ?_ ?_)
  ·
   repeat clear hm
   intro _ _ aO aQ w hm cz dA dD _
   refine gS (gS (gR (gM rfl (gF fo_49_2 rfl (gL hm 0 isAgg47 rfl ?_)))))
   obtain ⟨az, aY, rfl, dE⟩ := ro_slice h1
   refine gY (yV st_47 rfl) (gB rfl (gE (go _ 22 rfl (decide_eq_true (by omega)) (gct rfl (gSk (gS (gBk (gS (gR (gY (yn (hm.blk_at 0 rfl) isAgg49 sizeOf49 rfl) (gY (yn (hm.blk_at 2 rfl) isAgg93 sizeOf93 rfl) (gM rfl (gCg rfl call319 (spec_l12Idle_ok _ c_ (.slice az c_.blocks.length aY) (hm.now h1) aB (.slice aE aB.ins.length aF) (hm.ow_rep 3 rfl) (.slice aG aB.outs.length aH) (hm.ow_rep 4 rfl) aO) ?_)))))))))))))
   rintro aM dF dG w ⟨_, rfl, hB⟩
   replace hm := hm.give hB; clear hB
   refine gA rfl (gE (gS (gR (gY (yn (hm.blk_at 1 rfl) isAgg49 sizeOf49 rfl) (gY (yn (hm.blk_at 3 rfl) isAgg93 sizeOf93 rfl) (gM rfl (gCg rfl call90 (spec_l12Behind_ok _ c_ (.slice az c_.blocks.length aY) (hm.now h1) aB (.slice aE aB.ins.length aF) (hm.ow_rep 4 rfl) (.slice aG aB.outs.length aH) (hm.ow_rep 5 rfl) aO (-1)) ?_)))))))
   rintro ai dH dI w ⟨_, rfl, hB⟩
   replace hm := hm.give hB; clear hB
   refine gA rfl (gE (gS (gR (gf rfl (fun a hf => e_build0 (α := Phi_) et_60 hm rfl) ?_))))
   rintro dJ w hm
   refine gA rfl (gE (gS (gS (gR (gA rfl (gE (gg fun aA bM bJ => ?_)))))))
   obtain ⟨aJ, aK, dK, he⟩ := idx_form' (hm.ow_rep 9 rfl) bJ
   obtain ⟨rfl, _, rfl⟩ := sl3 he
   obtain ⟨aX, aW, aL, hm⟩ := pin_Block_ hm 9 rfl bJ
   replace hm := hm.drnV0 2 rfl
   obtain ⟨aZ, aa, rfl, dL⟩ := ro_slice (hm.ow_rep 5 rfl)
   obtain ⟨bN, am, rfl, dM⟩ := ro_slice (hm.ow_rep 4 rfl)
   obtain ⟨cD, cE, rfl, dN⟩ := ro_slice (hm.ow_rep 3 rfl)
   refine gJg (fun aN a w => ∃ (ak : Int) (bh : Value), St 137 [(1, (pV aR)), (2, (pV aS)), (4, (pV aT)), (5, (pV aV)), (6, (.bool (aQ.2))), (7, (nV aO)), (8, (.slice aZ aM.length aa)), (10, bh)] w0 (hp w0) [blk aR [(nV c_.params), (nV c_.regs), (.slice az c_.blocks.length aY)] 49, blk aS [(nV 0), (nV 0), (.slice none 0 0)] 49, blk aT [(.slice aE aB.ins.length aF), (.slice aG aB.outs.length aH)] 93, ow [(.slice aE aB.ins.length aF)] aB.ins, ow [(.slice aG aB.outs.length aH)] aB.outs, blk aV [(nV aC.params), (nV aC.regs), (sV aJ aK aC.blocks.length aI)] 49, holeE aJ aK aC.blocks.length aI (aQ.1 : List Block_) (aO).toNat [aX, aW, (nV aA.jump), (nV aA.on), aL], drnV aX (aA.phis : List Phi_) (ak), ow [aW] aA.ins, ow [aL] aA.next_, ow [(.slice aZ aM.length aa)] aM, ow [bh] aN] a w) (fun aN => ?_) ?_
   ·
    refine gBk (gMg (fun ae a w => ∃ (an : Value), St 137 [(1, (pV aR)), (2, (pV aS)), (4, (pV aT)), (5, (pV aV)), (6, (.bool (aQ.2))), (7, (nV aO)), (8, (.slice aZ aM.length aa)), (9, (.slice bN ai.length am)), (10, an), (11, (nV ae.1))] w0 (hp w0) [blk aR [(nV c_.params), (nV c_.regs), (.slice az c_.blocks.length aY)] 49, blk aS [(nV 0), (nV 0), (.slice none 0 0)] 49, blk aT [(.slice aE aB.ins.length aF), (.slice aG aB.outs.length aH)] 93, ow [(.slice aE aB.ins.length aF)] aB.ins, ow [(.slice aG aB.outs.length aH)] aB.outs, blk aV [(nV aC.params), (nV aC.regs), (sV aJ aK aC.blocks.length aI)] 49, holeE aJ aK aC.blocks.length aI (aQ.1 : List Block_) (aO).toNat [aX, aW, (nV aA.jump), (nV aA.on), aL], drnV aX (aA.phis : List Phi_) (ae.1), ow [aW] aA.ins, ow [aL] aA.next_, ow [(.slice aZ aM.length aa)] aM, ow [(.slice bN ai.length am)] ai, ow [an] ae.2] a w) (fun a hf => ⟨(.slice cD ([] : List Phi_).length cE), hf.sb rfl, hm.pk [6, 7, 8, 9, 10, 11, 12, 2, 1, 0, 5, 4, 3] rfl rfl⟩) ?_)
    repeat clear hm
    rintro dO cF ae a w ⟨an, hf, hm⟩ dP cG
    refine gv hf (gS (gS (gR (gM rfl (gF fo_49_2 rfl (gL hm 0 isAgg47 rfl (gM rfl (gg fun dQ bt bO => ?_))))))))
    obtain ⟨bB, bC, dR, he⟩ := idx_form' h1 bO
    obtain ⟨rfl, _, rfl⟩ := sl3 he
    obtain ⟨dS, dT, dU, bu, bi, dV, dW⟩ := rk_Block_ h1 bO
    refine gI st_47 bt (idx_lt bO) rfl (gF fo_63_0 rfl (gY (yl isAgg60 ((bu.mono hm.lez).cell (j := 0) rfl) rfl) ?_))
    obtain ⟨dX, dY, rfl, dZ⟩ := ro_slice bi
    refine gY (yV st_60 rfl) (gB rfl (gE (gsd 42 rfl (fun cH => ?_) fun cH => ?_)))
    ·
     refine gct rfl (gSk (gS (gJg (fun bj a w => ∃ (bP : Value), St 137 [(1, (pV aR)), (2, (pV aS)), (4, (pV aT)), (5, (pV aV)), (6, (.bool (aQ.2))), (7, (nV aO)), (8, (.slice aZ aM.length aa)), (9, (.slice bN ai.length am)), (10, bP), (11, (nV ae.1))] w0 (hp w0) [blk aR [(nV c_.params), (nV c_.regs), (sV bB bC c_.blocks.length aY)] 49, blk aS [(nV 0), (nV 0), (.slice none 0 0)] 49, blk aT [(.slice aE aB.ins.length aF), (.slice aG aB.outs.length aH)] 93, ow [(.slice aE aB.ins.length aF)] aB.ins, ow [(.slice aG aB.outs.length aH)] aB.outs, blk aV [(nV aC.params), (nV aC.regs), (sV aJ aK aC.blocks.length aI)] 49, holeE aJ aK aC.blocks.length aI (aQ.1 : List Block_) (aO).toNat [aX, aW, (nV aA.jump), (nV aA.on), aL], drnS aX (aA.phis : List Phi_) (ae.1), ow [aW] aA.ins, ow [aL] aA.next_, ow [(.slice aZ aM.length aa)] aM, ow [(.slice bN ai.length am)] ai, ow [bP] bj] a w) (fun bj => ?_) ?_)))
     ·
      refine gBk (gS (gR (gM rfl (gF fo_49_2 rfl (gL hm 0 isAgg47 rfl (gM rfl (gI st_47 bt (idx_lt bO) rfl (gF fo_63_0 rfl (gY (yl isAgg60 ((bu.mono hm.lez).cell (j := 0) rfl) rfl) (gM rfl (gg fun d1 cI bk => ?_)))))))))))
      obtain ⟨d2, d3, d4, he⟩ := idx_form' bi bk
      obtain ⟨rfl, _, rfl⟩ := sl3 he
      obtain ⟨d5, cJ, d6⟩ := rk_Phi_ bi bk
      refine gI st_60 cI (idx_lt bk) rfl (gF fo_127_0 rfl (gY (yl isAgg3 ((cJ.mono hm.lez).cell (j := 0) rfl) rfl) (gg fun cK cL bl => ?_)))
      obtain ⟨bD, bE, d7, he⟩ := idx_form (hm.ow_rep 11 rfl) bl
      obtain ⟨rfl, _, rfl⟩ := sl3 he
      refine gI st_90 cL (idx_lt bl) rfl (gY (yl isAgg4 ((flat_cells (cs := [(.bool (cK))]) (hm.ow_rep 11 rfl) bl rfl).cell (j := 0) rfl) rfl) (gE (gJg (fun bm a w => ∃ (bQ : Value), St 137 [(1, (pV aR)), (2, (pV aS)), (4, (pV aT)), (5, (pV aV)), (6, (.bool (aQ.2))), (7, (nV aO)), (8, (.slice aZ aM.length aa)), (9, (sV bD bE ai.length am)), (10, bQ), (11, (nV ae.1))] w0 (hp w0) [blk aR [(nV c_.params), (nV c_.regs), (sV bB bC c_.blocks.length aY)] 49, blk aS [(nV 0), (nV 0), (.slice none 0 0)] 49, blk aT [(.slice aE aB.ins.length aF), (.slice aG aB.outs.length aH)] 93, ow [(.slice aE aB.ins.length aF)] aB.ins, ow [(.slice aG aB.outs.length aH)] aB.outs, blk aV [(nV aC.params), (nV aC.regs), (sV aJ aK aC.blocks.length aI)] 49, holeE aJ aK aC.blocks.length aI (aQ.1 : List Block_) (aO).toNat [aX, aW, (nV aA.jump), (nV aA.on), aL], drnS aX (aA.phis : List Phi_) (ae.1), ow [aW] aA.ins, ow [aL] aA.next_, ow [(.slice aZ aM.length aa)] aM, ow [(sV bD bE ai.length am)] ai, ow [bQ] bm] a w) (fun bm => ?_) ?_)))
      ·
       refine gs 57 rfl (fun cM => ?_) fun cM => ?_
       ·
        refine gct rfl (gR (gM rfl (gF fo_49_2 rfl (gL hm 5 isAgg47 rfl (gM rfl ?_)))))
        have hL5_1 := hm.holeE_len 6 rfl
        refine gI st_47 bM (idx_lt2 bJ hL5_1) rfl (gF fo_63_0 rfl (gY (yl isAgg60 ((hm.holeE_at 6 rfl).cell (j := 0) rfl) rfl) (gM rfl (gg fun ab bv bR => ?_))))
        obtain ⟨ap, aq, ar, he⟩ := hm.drn_form 7 rfl bR
        subst he
        obtain ⟨_, cN, hm⟩ := hm.drn_pin 7 rfl bR
        have cO := hm.ow_rep 0 rfl
        obtain ⟨_, _, rfl, rfl, bS⟩ := cO
        obtain ⟨al, rfl, -⟩ := id bS
        replace bS : GT.rep (hp _) [al] ab.args := bS
        clear cN bS
        replace hm : Mem w0 (hp w0) _ [ow [(nV ab.to), al] (ab : Phi_), blk aR [(nV c_.params), (nV c_.regs), (sV bB bC c_.blocks.length aY)] 49, blk aS [(nV 0), (nV 0), (.slice none 0 0)] 49, blk aT [(.slice aE aB.ins.length aF), (.slice aG aB.outs.length aH)] 93, ow [(.slice aE aB.ins.length aF)] aB.ins, ow [(.slice aG aB.outs.length aH)] aB.outs, blk aV [(nV aC.params), (nV aC.regs), (sV aJ aK aC.blocks.length aI)] 49, holeE aJ aK aC.blocks.length aI (aQ.1 : List Block_) (aO).toNat [(sV ap aq aA.phis.length ar), aW, (nV aA.jump), (nV aA.on), aL], drnH ap aq aA.phis.length ar (aA.phis : List Phi_) (ae.1).toNat [(nV ab.to), al], ow [aW] aA.ins, ow [aL] aA.next_, ow [(.slice aZ aM.length aa)] aM, ow [(sV bD bE ai.length am)] ai, ow [an] ae.2] := hm
        replace hm := hm.imp (c' := ow ([(nV ab.to)] ++ [al]) ((ab.to, ab.args) : Int × (List Int))) 0 rfl (fun F h0 => h0)
        replace hm := Mem.unpair (α := Int) (β := (List Int)) (c := [(nV ab.to)]) (d := [al]) (x := ab.to) (y := ab.args) hm 0 rfl rfl
        replace hm := hm.pk (L' := [ow [al] ab.args, blk aR [(nV c_.params), (nV c_.regs), (sV bB bC c_.blocks.length aY)] 49, blk aS [(nV 0), (nV 0), (.slice none 0 0)] 49, blk aT [(.slice aE aB.ins.length aF), (.slice aG aB.outs.length aH)] 93, ow [(.slice aE aB.ins.length aF)] aB.ins, ow [(.slice aG aB.outs.length aH)] aB.outs, blk aV [(nV aC.params), (nV aC.regs), (sV aJ aK aC.blocks.length aI)] 49, holeE aJ aK aC.blocks.length aI (aQ.1 : List Block_) (aO).toNat [(sV ap aq aA.phis.length ar), aW, (nV aA.jump), (nV aA.on), aL], drnH ap aq aA.phis.length ar (aA.phis : List Phi_) (ae.1).toNat [(nV ab.to), al], ow [aW] aA.ins, ow [aL] aA.next_, ow [(.slice aZ aM.length aa)] aM, ow [(sV bD bE ai.length am)] ai, ow [an] ae.2]) [0, 2, 3, 4, 5, 6, 7, 8, 9, 10, 11, 12, 13, 14] rfl rfl
        have hL5_2 := hm.drnH_len 8 rfl
        refine gI st_60 bv (idx_lt2 bR hL5_2) rfl (gY (yn (hm.drnH_at 8 rfl) isAgg127 sizeOf127 rfl) (gf rfl (fun a hf => e_build (vs := #[(0, (.agg #[(nV ab.to), al]))]) (cs := [(nV ab.to), al]) et_60 hf hm rfl rfl (by kernel_rfl) rfl rfl) ?_))
        rintro _ w ⟨bT, rfl, hm⟩
        replace hm := hm.els_nil (α := Phi_)
        replace hm : Mem w0 (hp w0) _ [els [] ([] : List Phi_), blk bT [(nV ab.to), al] 127, ow [(nV ab.to), al] (ab : Phi_), blk aR [(nV c_.params), (nV c_.regs), (sV bB bC c_.blocks.length aY)] 49, blk aS [(nV 0), (nV 0), (.slice none 0 0)] 49, blk aT [(.slice aE aB.ins.length aF), (.slice aG aB.outs.length aH)] 93, ow [(.slice aE aB.ins.length aF)] aB.ins, ow [(.slice aG aB.outs.length aH)] aB.outs, blk aV [(nV aC.params), (nV aC.regs), (sV aJ aK aC.blocks.length aI)] 49, holeE aJ aK aC.blocks.length aI (aQ.1 : List Block_) (aO).toNat [(sV ap aq aA.phis.length ar), aW, (nV aA.jump), (nV aA.on), aL], drnH ap aq aA.phis.length ar (aA.phis : List Phi_) (ae.1).toNat [(nV ab.to), al], ow [aW] aA.ins, ow [aL] aA.next_, ow [(.slice aZ aM.length aa)] aM, ow [(sV bD bE ai.length am)] ai, ow [an] ae.2] := mk_Phi_ ab.to hm 2 rfl
        replace hm := (hm.els_cons 0 2 (by decide) rfl rfl).pk (L' := [els [(nV ab.to), al] ([ab] : List Phi_), blk bT [(nV ab.to), al] 127, blk aR [(nV c_.params), (nV c_.regs), (sV bB bC c_.blocks.length aY)] 49, blk aS [(nV 0), (nV 0), (.slice none 0 0)] 49, blk aT [(.slice aE aB.ins.length aF), (.slice aG aB.outs.length aH)] 93, ow [(.slice aE aB.ins.length aF)] aB.ins, ow [(.slice aG aB.outs.length aH)] aB.outs, blk aV [(nV aC.params), (nV aC.regs), (sV aJ aK aC.blocks.length aI)] 49, holeE aJ aK aC.blocks.length aI (aQ.1 : List Block_) (aO).toNat [(sV ap aq aA.phis.length ar), aW, (nV aA.jump), (nV aA.on), aL], drnH ap aq aA.phis.length ar (aA.phis : List Phi_) (ae.1).toNat [(nV ab.to), al], ow [aW] aA.ins, ow [aL] aA.next_, ow [(.slice aZ aM.length aa)] aM, ow [(sV bD bE ai.length am)] ai, ow [an] ae.2]) [0, 1, 3, 4, 5, 6, 7, 8, 9, 10, 11, 12, 13, 14, 15] rfl rfl
        replace hm := (hm.lit_els 1 0 (by decide) rfl rfl rfl rfl).pk (L' := [ow [(sV bT 0 1 1)] ([ab] : List Phi_), blk aR [(nV c_.params), (nV c_.regs), (sV bB bC c_.blocks.length aY)] 49, blk aS [(nV 0), (nV 0), (.slice none 0 0)] 49, blk aT [(.slice aE aB.ins.length aF), (.slice aG aB.outs.length aH)] 93, ow [(.slice aE aB.ins.length aF)] aB.ins, ow [(.slice aG aB.outs.length aH)] aB.outs, blk aV [(nV aC.params), (nV aC.regs), (sV aJ aK aC.blocks.length aI)] 49, holeE aJ aK aC.blocks.length aI (aQ.1 : List Block_) (aO).toNat [(sV ap aq aA.phis.length ar), aW, (nV aA.jump), (nV aA.on), aL], drnH ap aq aA.phis.length ar (aA.phis : List Phi_) (ae.1).toNat [(nV ab.to), al], ow [aW] aA.ins, ow [aL] aA.next_, ow [(.slice aZ aM.length aa)] aM, ow [(sV bD bE ai.length am)] ai, ow [an] ae.2]) [1, 2, 3, 4, 5, 6, 7, 8, 9, 10, 11, 12, 13, 14] rfl rfl
        refine gb fun d8 cP => ?_
        obtain ⟨cQ, cR⟩ := appM_some.1 cP
        replace hm := (hm.both 13 0 (by decide) rfl rfl).pk (L' := [blk aR [(nV c_.params), (nV c_.regs), (sV bB bC c_.blocks.length aY)] 49, blk aS [(nV 0), (nV 0), (.slice none 0 0)] 49, blk aT [(.slice aE aB.ins.length aF), (.slice aG aB.outs.length aH)] 93, ow [(.slice aE aB.ins.length aF)] aB.ins, ow [(.slice aG aB.outs.length aH)] aB.outs, blk aV [(nV aC.params), (nV aC.regs), (sV aJ aK aC.blocks.length aI)] 49, holeE aJ aK aC.blocks.length aI (aQ.1 : List Block_) (aO).toNat [(sV ap aq aA.phis.length ar), aW, (nV aA.jump), (nV aA.on), aL], drnH ap aq aA.phis.length ar (aA.phis : List Phi_) (ae.1).toNat [(nV ab.to), al], ow [aW] aA.ins, ow [aL] aA.next_, ow [(.slice aZ aM.length aa)] aM, ow [(sV bD bE ai.length am)] ai, both (ow [an] ae.2) (ow [(sV bT 0 1 1)] ([ab] : List Phi_))]) [1, 2, 3, 4, 5, 6, 7, 8, 9, 10, 11, 12, 13] rfl rfl
        refine gf rfl (fun a hf => e_appendD (xs := ae.2) (ys := ([ab] : List Phi_)) 12 et_60 hf hm rfl rfl rfl rfl cQ) ?_
        rintro cS w hm
        rw [cR] at hm
        refine gA rfl (gE ?_)
        replace hm := hm.drnH_gone 7 rfl bv bR
        exact gZ fun a hf => ⟨cS, hf.sb rfl, hm.pk [0, 1, 2, 3, 4, 5, 6, 7, 8, 9, 10, 11, 12] rfl rfl⟩
       refine gcf rfl (gSk (gg fun au cT bo => ?_))
       obtain ⟨bU, bV, bW, he⟩ := hm.drn_form 7 rfl bo
       subst he
       obtain ⟨_, cU, hm⟩ := hm.drn_pin 7 rfl bo
       have cV := hm.ow_rep 0 rfl
       obtain ⟨_, _, rfl, rfl, bX⟩ := cV
       obtain ⟨bK, rfl, -⟩ := id bX
       replace bX : GT.rep (hp _) [bK] au.args := bX
       clear cU bX
       replace hm : Mem w0 (hp w0) _ [ow [(nV au.to), bK] (au : Phi_), blk aR [(nV c_.params), (nV c_.regs), (sV bB bC c_.blocks.length aY)] 49, blk aS [(nV 0), (nV 0), (.slice none 0 0)] 49, blk aT [(.slice aE aB.ins.length aF), (.slice aG aB.outs.length aH)] 93, ow [(.slice aE aB.ins.length aF)] aB.ins, ow [(.slice aG aB.outs.length aH)] aB.outs, blk aV [(nV aC.params), (nV aC.regs), (sV aJ aK aC.blocks.length aI)] 49, holeE aJ aK aC.blocks.length aI (aQ.1 : List Block_) (aO).toNat [(sV bU bV aA.phis.length bW), aW, (nV aA.jump), (nV aA.on), aL], drnH bU bV aA.phis.length bW (aA.phis : List Phi_) (ae.1).toNat [(nV au.to), bK], ow [aW] aA.ins, ow [aL] aA.next_, ow [(.slice aZ aM.length aa)] aM, ow [(sV bD bE ai.length am)] ai, ow [an] ae.2] := hm
       replace hm := hm.imp (c' := ow ([(nV au.to)] ++ [bK]) ((au.to, au.args) : Int × (List Int))) 0 rfl (fun F h0 => h0)
       replace hm := Mem.unpair (α := Int) (β := (List Int)) (c := [(nV au.to)]) (d := [bK]) (x := au.to) (y := au.args) hm 0 rfl rfl
       replace hm := hm.pk (L' := [ow [bK] au.args, blk aR [(nV c_.params), (nV c_.regs), (sV bB bC c_.blocks.length aY)] 49, blk aS [(nV 0), (nV 0), (.slice none 0 0)] 49, blk aT [(.slice aE aB.ins.length aF), (.slice aG aB.outs.length aH)] 93, ow [(.slice aE aB.ins.length aF)] aB.ins, ow [(.slice aG aB.outs.length aH)] aB.outs, blk aV [(nV aC.params), (nV aC.regs), (sV aJ aK aC.blocks.length aI)] 49, holeE aJ aK aC.blocks.length aI (aQ.1 : List Block_) (aO).toNat [(sV bU bV aA.phis.length bW), aW, (nV aA.jump), (nV aA.on), aL], drnH bU bV aA.phis.length bW (aA.phis : List Phi_) (ae.1).toNat [(nV au.to), bK], ow [aW] aA.ins, ow [aL] aA.next_, ow [(.slice aZ aM.length aa)] aM, ow [(sV bD bE ai.length am)] ai, ow [an] ae.2]) [0, 2, 3, 4, 5, 6, 7, 8, 9, 10, 11, 12, 13, 14] rfl rfl
       replace hm := hm.drnH_gone 8 rfl cT bo
       exact gZ fun a hf => ⟨an, hf.sb rfl, hm.pk [1, 2, 3, 4, 5, 6, 7, 8, 9, 10, 11, 12, 13] rfl rfl⟩
      repeat clear hm
      rintro bm a w ⟨bQ, hf, hm⟩
      exact gv hf (gZ fun a hf => ⟨bQ, hf.sb rfl, hm.pk [0, 1, 2, 3, 4, 5, 6, 7, 8, 9, 10, 11, 12] rfl rfl⟩)
     repeat clear hm
     rintro bj a w ⟨bP, hf, hm⟩
     refine gv hf (gR (gM rfl (gB rfl (gA rfl (gE ?_)))))
     replace hm := hm.drnS_w 7 rfl
     exact gZe fun a hf => ⟨bP, hf.sb rfl, hm.pk [0, 1, 2, 3, 4, 5, 6, 7, 8, 9, 10, 11, 12] rfl rfl⟩
    exact gcf rfl (gXt (gHh (gLp cG cF (gZ fun a hf => ⟨ae.1, an, hf.sb rfl, hm.pk [0, 1, 2, 3, 4, 5, 6, 7, 8, 9, 10, 12] rfl rfl⟩))))
   repeat clear hm
   rintro aN a w ⟨ak, bh, hf, hm⟩
   refine gv hf (gS (gR (gf rfl (fun a hf => e_build0 (α := Ins_) et_61 hm rfl) ?_)))
   rintro d9 w hm
   refine gA rfl (gE (gS (gS (gR (gA rfl (gE ?_))))))
   replace hm := hm.drnV0 9 rfl
   obtain ⟨af, ah, rfl, da⟩ := ro_slice (hm.ow_rep 12 rfl)
   obtain ⟨cW, cX, rfl, db⟩ := ro_slice (hm.ow_rep 0 rfl)
   refine gJg (fun bF a w => ∃ (bL : Int) (av : Value), St 137 [(1, (pV aR)), (2, (pV aS)), (4, (pV aT)), (5, (pV aV)), (6, (.bool (aQ.2))), (7, (nV aO)), (10, (.slice af aN.length ah)), (12, av)] w0 (hp w0) [blk aR [(nV c_.params), (nV c_.regs), (.slice az c_.blocks.length aY)] 49, blk aS [(nV 0), (nV 0), (.slice none 0 0)] 49, blk aT [(.slice aE aB.ins.length aF), (.slice aG aB.outs.length aH)] 93, ow [(.slice aE aB.ins.length aF)] aB.ins, ow [(.slice aG aB.outs.length aH)] aB.outs, blk aV [(nV aC.params), (nV aC.regs), (sV aJ aK aC.blocks.length aI)] 49, holeE aJ aK aC.blocks.length aI (aQ.1 : List Block_) (aO).toNat [aX, aW, (nV aA.jump), (nV aA.on), aL], drnV aX (aA.phis : List Phi_) (ak), drnV aW (aA.ins : List Ins_) (bL), ow [aL] aA.next_, ow [(.slice af aN.length ah)] aN, ow [av] bF] a w) (fun bF => ?_) ?_
   ·
    refine gBk (gMg (fun ac a w => ∃ (ao : Value), St 137 [(1, (pV aR)), (2, (pV aS)), (4, (pV aT)), (5, (pV aV)), (6, (.bool (aQ.2))), (7, (nV aO)), (8, (.slice aZ aM.length aa)), (10, (.slice af aN.length ah)), (12, ao), (13, (nV ac.1))] w0 (hp w0) [blk aR [(nV c_.params), (nV c_.regs), (.slice az c_.blocks.length aY)] 49, blk aS [(nV 0), (nV 0), (.slice none 0 0)] 49, blk aT [(.slice aE aB.ins.length aF), (.slice aG aB.outs.length aH)] 93, ow [(.slice aE aB.ins.length aF)] aB.ins, ow [(.slice aG aB.outs.length aH)] aB.outs, blk aV [(nV aC.params), (nV aC.regs), (sV aJ aK aC.blocks.length aI)] 49, holeE aJ aK aC.blocks.length aI (aQ.1 : List Block_) (aO).toNat [aX, aW, (nV aA.jump), (nV aA.on), aL], drnV aX (aA.phis : List Phi_) (ak), drnV aW (aA.ins : List Ins_) (ac.1), ow [aL] aA.next_, ow [(.slice aZ aM.length aa)] aM, ow [(.slice af aN.length ah)] aN, ow [ao] ac.2] a w) (fun a hf => ⟨(.slice cW ([] : List Ins_).length cX), hf.sb rfl, hm.pk [1, 2, 3, 4, 5, 6, 7, 8, 9, 10, 11, 12, 0] rfl rfl⟩) ?_)
    repeat clear hm
    rintro dc cY ac a w ⟨ao, hf, hm⟩ dd cZ
    refine gv hf (gS (gS (gR (gM rfl (gF fo_49_2 rfl (gL hm 0 isAgg47 rfl (gM rfl (gg fun de c4 bp => ?_))))))))
    obtain ⟨bG, bH, df, he⟩ := idx_form' h1 bp
    obtain ⟨rfl, _, rfl⟩ := sl3 he
    obtain ⟨dg, dh, di, c5, dk, c6, dl⟩ := rk_Block_ h1 bp
    refine gI st_47 c4 (idx_lt bp) rfl (gF fo_63_1 rfl (gY (yl isAgg61 ((c5.mono hm.lez).cell (j := 1) rfl) rfl) ?_))
    obtain ⟨dm, dp, rfl, dq⟩ := ro_slice c6
    refine gY (yV st_61 rfl) (gB rfl (gE (gsd 79 rfl (fun c7 => ?_) fun c7 => ?_)))
    ·
     refine gct rfl (gSk (gS (gJg (fun bq a w => ∃ (bY : Value), St 137 [(1, (pV aR)), (2, (pV aS)), (4, (pV aT)), (5, (pV aV)), (6, (.bool (aQ.2))), (7, (nV aO)), (8, (.slice aZ aM.length aa)), (10, (.slice af aN.length ah)), (12, bY), (13, (nV ac.1))] w0 (hp w0) [blk aR [(nV c_.params), (nV c_.regs), (sV bG bH c_.blocks.length aY)] 49, blk aS [(nV 0), (nV 0), (.slice none 0 0)] 49, blk aT [(.slice aE aB.ins.length aF), (.slice aG aB.outs.length aH)] 93, ow [(.slice aE aB.ins.length aF)] aB.ins, ow [(.slice aG aB.outs.length aH)] aB.outs, blk aV [(nV aC.params), (nV aC.regs), (sV aJ aK aC.blocks.length aI)] 49, holeE aJ aK aC.blocks.length aI (aQ.1 : List Block_) (aO).toNat [aX, aW, (nV aA.jump), (nV aA.on), aL], drnV aX (aA.phis : List Phi_) (ak), drnS aW (aA.ins : List Ins_) (ac.1), ow [aL] aA.next_, ow [(.slice aZ aM.length aa)] aM, ow [(.slice af aN.length ah)] aN, ow [bY] bq] a w) (fun bq => ?_) ?_)))
     ·
      refine gBk (gS (gR (gM rfl (gM rfl (gC hm rfl call176 (spec_l10At_ok _ aM (.slice aZ aM.length aa) (hm.ow_rep 10 rfl) ac.1) fun dr dt w hm => gB rfl (gE (gJg (fun br a w => ∃ (bZ : Value), St 137 [(1, (pV aR)), (2, (pV aS)), (4, (pV aT)), (5, (pV aV)), (6, (.bool (aQ.2))), (7, (nV aO)), (8, (.slice aZ aM.length aa)), (10, (.slice af aN.length ah)), (12, bZ), (13, (nV ac.1))] w0 (hp w0) [blk aR [(nV c_.params), (nV c_.regs), (sV bG bH c_.blocks.length aY)] 49, blk aS [(nV 0), (nV 0), (.slice none 0 0)] 49, blk aT [(.slice aE aB.ins.length aF), (.slice aG aB.outs.length aH)] 93, ow [(.slice aE aB.ins.length aF)] aB.ins, ow [(.slice aG aB.outs.length aH)] aB.outs, blk aV [(nV aC.params), (nV aC.regs), (sV aJ aK aC.blocks.length aI)] 49, holeE aJ aK aC.blocks.length aI (aQ.1 : List Block_) (aO).toNat [aX, aW, (nV aA.jump), (nV aA.on), aL], drnV aX (aA.phis : List Phi_) (ak), drnS aW (aA.ins : List Ins_) (ac.1), ow [aL] aA.next_, ow [(.slice aZ aM.length aa)] aM, ow [(.slice af aN.length ah)] aN, ow [bZ] br] a w) (fun br => ?_) ?_)))))))
      ·
       refine gsd 85 rfl (fun c8 => ?_) fun c8 => ?_
       ·
        refine gct rfl (gR (gM rfl (gF fo_49_2 rfl (gL hm 5 isAgg47 rfl (gM rfl ?_)))))
        have hL5_3 := hm.holeE_len 6 rfl
        refine gI st_47 bM (idx_lt2 bJ hL5_3) rfl (gF fo_63_1 rfl (gY (yl isAgg61 ((hm.holeE_at 6 rfl).cell (j := 1) rfl) rfl) (gM rfl (gg fun aD bx b6 => ?_))))
        obtain ⟨aw, ax, ay, he⟩ := hm.drn_form 8 rfl b6
        subst he
        obtain ⟨_, c9, hm⟩ := hm.drn_pin 8 rfl b6
        have ca := hm.ow_rep 0 rfl
        obtain ⟨_, _, rfl, rfl, _, _, rfl, rfl, _, _, rfl, b8, rfl⟩ := ca
        obtain ⟨aj, rfl, -⟩ := id b8
        replace b8 : GT.rep (hp _) [aj] aD.args := b8
        clear c9 b8
        replace hm : Mem w0 (hp w0) _ [ow [(nV aD.op), (nV aD.to), aj, (nV aD.n_)] (aD : Ins_), blk aR [(nV c_.params), (nV c_.regs), (sV bG bH c_.blocks.length aY)] 49, blk aS [(nV 0), (nV 0), (.slice none 0 0)] 49, blk aT [(.slice aE aB.ins.length aF), (.slice aG aB.outs.length aH)] 93, ow [(.slice aE aB.ins.length aF)] aB.ins, ow [(.slice aG aB.outs.length aH)] aB.outs, blk aV [(nV aC.params), (nV aC.regs), (sV aJ aK aC.blocks.length aI)] 49, holeE aJ aK aC.blocks.length aI (aQ.1 : List Block_) (aO).toNat [aX, (sV aw ax aA.ins.length ay), (nV aA.jump), (nV aA.on), aL], drnV aX (aA.phis : List Phi_) (ak), drnH aw ax aA.ins.length ay (aA.ins : List Ins_) (ac.1).toNat [(nV aD.op), (nV aD.to), aj, (nV aD.n_)], ow [aL] aA.next_, ow [(.slice aZ aM.length aa)] aM, ow [(.slice af aN.length ah)] aN, ow [ao] ac.2] := hm
        replace hm := hm.imp (c' := ow ([(nV aD.op)] ++ [(nV aD.to), aj, (nV aD.n_)]) ((aD.op, (aD.to, aD.args, aD.n_)) : Int × Int × (List Int) × Int)) 0 rfl (fun F h0 => h0)
        replace hm := Mem.unpair (α := Int) (β := Int × (List Int) × Int) (c := [(nV aD.op)]) (d := [(nV aD.to), aj, (nV aD.n_)]) (x := aD.op) (y := (aD.to, aD.args, aD.n_)) hm 0 rfl rfl
        replace hm := hm.imp (c' := ow ([(nV aD.to)] ++ [aj, (nV aD.n_)]) ((aD.to, (aD.args, aD.n_)) : Int × (List Int) × Int)) 0 rfl (fun F h0 => h0)
        replace hm := Mem.unpair (α := Int) (β := (List Int) × Int) (c := [(nV aD.to)]) (d := [aj, (nV aD.n_)]) (x := aD.to) (y := (aD.args, aD.n_)) hm 0 rfl rfl
        replace hm := hm.imp (c' := ow ([aj] ++ [(nV aD.n_)]) ((aD.args, aD.n_) : (List Int) × Int)) 0 rfl (fun F h0 => h0)
        replace hm := Mem.unpair (α := List Int) (β := Int) (c := [aj]) (d := [(nV aD.n_)]) (x := aD.args) (y := aD.n_) hm 0 rfl rfl
        replace hm := hm.pk (L' := [ow [aj] aD.args, blk aR [(nV c_.params), (nV c_.regs), (sV bG bH c_.blocks.length aY)] 49, blk aS [(nV 0), (nV 0), (.slice none 0 0)] 49, blk aT [(.slice aE aB.ins.length aF), (.slice aG aB.outs.length aH)] 93, ow [(.slice aE aB.ins.length aF)] aB.ins, ow [(.slice aG aB.outs.length aH)] aB.outs, blk aV [(nV aC.params), (nV aC.regs), (sV aJ aK aC.blocks.length aI)] 49, holeE aJ aK aC.blocks.length aI (aQ.1 : List Block_) (aO).toNat [aX, (sV aw ax aA.ins.length ay), (nV aA.jump), (nV aA.on), aL], drnV aX (aA.phis : List Phi_) (ak), drnH aw ax aA.ins.length ay (aA.ins : List Ins_) (ac.1).toNat [(nV aD.op), (nV aD.to), aj, (nV aD.n_)], ow [aL] aA.next_, ow [(.slice aZ aM.length aa)] aM, ow [(.slice af aN.length ah)] aN, ow [ao] ac.2]) [1, 4, 5, 6, 7, 8, 9, 10, 11, 12, 13, 14, 15, 16] rfl rfl
        have hL5_4 := hm.drnH_len 9 rfl
        refine gI st_61 bx (idx_lt2 b6 hL5_4) rfl (gY (yn (hm.drnH_at 9 rfl) isAgg65 sizeOf65 rfl) (gf rfl (fun a hf => e_build (vs := #[(0, (.agg #[(nV aD.op), (nV aD.to), aj, (nV aD.n_)]))]) (cs := [(nV aD.op), (nV aD.to), aj, (nV aD.n_)]) et_61 hf hm rfl rfl (by kernel_rfl) rfl rfl) ?_))
        rintro _ w ⟨b9, rfl, hm⟩
        replace hm := hm.els_nil (α := Ins_)
        replace hm : Mem w0 (hp w0) _ [els [] ([] : List Ins_), blk b9 [(nV aD.op), (nV aD.to), aj, (nV aD.n_)] 65, ow [(nV aD.op), (nV aD.to), aj, (nV aD.n_)] (aD : Ins_), blk aR [(nV c_.params), (nV c_.regs), (sV bG bH c_.blocks.length aY)] 49, blk aS [(nV 0), (nV 0), (.slice none 0 0)] 49, blk aT [(.slice aE aB.ins.length aF), (.slice aG aB.outs.length aH)] 93, ow [(.slice aE aB.ins.length aF)] aB.ins, ow [(.slice aG aB.outs.length aH)] aB.outs, blk aV [(nV aC.params), (nV aC.regs), (sV aJ aK aC.blocks.length aI)] 49, holeE aJ aK aC.blocks.length aI (aQ.1 : List Block_) (aO).toNat [aX, (sV aw ax aA.ins.length ay), (nV aA.jump), (nV aA.on), aL], drnV aX (aA.phis : List Phi_) (ak), drnH aw ax aA.ins.length ay (aA.ins : List Ins_) (ac.1).toNat [(nV aD.op), (nV aD.to), aj, (nV aD.n_)], ow [aL] aA.next_, ow [(.slice aZ aM.length aa)] aM, ow [(.slice af aN.length ah)] aN, ow [ao] ac.2] := mk_Ins_ aD.op aD.to aD.n_ hm 2 rfl
        replace hm := (hm.els_cons 0 2 (by decide) rfl rfl).pk (L' := [els [(nV aD.op), (nV aD.to), aj, (nV aD.n_)] ([aD] : List Ins_), blk b9 [(nV aD.op), (nV aD.to), aj, (nV aD.n_)] 65, blk aR [(nV c_.params), (nV c_.regs), (sV bG bH c_.blocks.length aY)] 49, blk aS [(nV 0), (nV 0), (.slice none 0 0)] 49, blk aT [(.slice aE aB.ins.length aF), (.slice aG aB.outs.length aH)] 93, ow [(.slice aE aB.ins.length aF)] aB.ins, ow [(.slice aG aB.outs.length aH)] aB.outs, blk aV [(nV aC.params), (nV aC.regs), (sV aJ aK aC.blocks.length aI)] 49, holeE aJ aK aC.blocks.length aI (aQ.1 : List Block_) (aO).toNat [aX, (sV aw ax aA.ins.length ay), (nV aA.jump), (nV aA.on), aL], drnV aX (aA.phis : List Phi_) (ak), drnH aw ax aA.ins.length ay (aA.ins : List Ins_) (ac.1).toNat [(nV aD.op), (nV aD.to), aj, (nV aD.n_)], ow [aL] aA.next_, ow [(.slice aZ aM.length aa)] aM, ow [(.slice af aN.length ah)] aN, ow [ao] ac.2]) [0, 1, 3, 4, 5, 6, 7, 8, 9, 10, 11, 12, 13, 14, 15] rfl rfl
        replace hm := (hm.lit_els 1 0 (by decide) rfl rfl rfl rfl).pk (L' := [ow [(sV b9 0 1 1)] ([aD] : List Ins_), blk aR [(nV c_.params), (nV c_.regs), (sV bG bH c_.blocks.length aY)] 49, blk aS [(nV 0), (nV 0), (.slice none 0 0)] 49, blk aT [(.slice aE aB.ins.length aF), (.slice aG aB.outs.length aH)] 93, ow [(.slice aE aB.ins.length aF)] aB.ins, ow [(.slice aG aB.outs.length aH)] aB.outs, blk aV [(nV aC.params), (nV aC.regs), (sV aJ aK aC.blocks.length aI)] 49, holeE aJ aK aC.blocks.length aI (aQ.1 : List Block_) (aO).toNat [aX, (sV aw ax aA.ins.length ay), (nV aA.jump), (nV aA.on), aL], drnV aX (aA.phis : List Phi_) (ak), drnH aw ax aA.ins.length ay (aA.ins : List Ins_) (ac.1).toNat [(nV aD.op), (nV aD.to), aj, (nV aD.n_)], ow [aL] aA.next_, ow [(.slice aZ aM.length aa)] aM, ow [(.slice af aN.length ah)] aN, ow [ao] ac.2]) [1, 2, 3, 4, 5, 6, 7, 8, 9, 10, 11, 12, 13, 14] rfl rfl
        refine gb fun du cb => ?_
        obtain ⟨cc, cd⟩ := appM_some.1 cb
        replace hm := (hm.both 13 0 (by decide) rfl rfl).pk (L' := [blk aR [(nV c_.params), (nV c_.regs), (sV bG bH c_.blocks.length aY)] 49, blk aS [(nV 0), (nV 0), (.slice none 0 0)] 49, blk aT [(.slice aE aB.ins.length aF), (.slice aG aB.outs.length aH)] 93, ow [(.slice aE aB.ins.length aF)] aB.ins, ow [(.slice aG aB.outs.length aH)] aB.outs, blk aV [(nV aC.params), (nV aC.regs), (sV aJ aK aC.blocks.length aI)] 49, holeE aJ aK aC.blocks.length aI (aQ.1 : List Block_) (aO).toNat [aX, (sV aw ax aA.ins.length ay), (nV aA.jump), (nV aA.on), aL], drnV aX (aA.phis : List Phi_) (ak), drnH aw ax aA.ins.length ay (aA.ins : List Ins_) (ac.1).toNat [(nV aD.op), (nV aD.to), aj, (nV aD.n_)], ow [aL] aA.next_, ow [(.slice aZ aM.length aa)] aM, ow [(.slice af aN.length ah)] aN, both (ow [ao] ac.2) (ow [(sV b9 0 1 1)] ([aD] : List Ins_))]) [1, 2, 3, 4, 5, 6, 7, 8, 9, 10, 11, 12, 13] rfl rfl
        refine gf rfl (fun a hf => e_appendD (xs := ac.2) (ys := ([aD] : List Ins_)) 12 et_61 hf hm rfl rfl rfl rfl cc) ?_
        rintro ce w hm
        rw [cd] at hm
        refine gA rfl (gE ?_)
        replace hm := hm.drnH_gone 8 rfl bx b6
        exact gZ fun a hf => ⟨ce, hf.sb rfl, hm.pk [0, 1, 2, 3, 4, 5, 6, 7, 8, 9, 10, 11, 12] rfl rfl⟩
       refine gcf rfl (gSk (gg fun aP cf bs => ?_))
       obtain ⟨ba, bb, bc, he⟩ := hm.drn_form 8 rfl bs
       subst he
       obtain ⟨_, cg, hm⟩ := hm.drn_pin 8 rfl bs
       have ci := hm.ow_rep 0 rfl
       obtain ⟨_, _, rfl, rfl, _, _, rfl, rfl, _, _, rfl, bd, rfl⟩ := ci
       obtain ⟨bA, rfl, -⟩ := id bd
       replace bd : GT.rep (hp _) [bA] aP.args := bd
       clear cg bd
       replace hm : Mem w0 (hp w0) _ [ow [(nV aP.op), (nV aP.to), bA, (nV aP.n_)] (aP : Ins_), blk aR [(nV c_.params), (nV c_.regs), (sV bG bH c_.blocks.length aY)] 49, blk aS [(nV 0), (nV 0), (.slice none 0 0)] 49, blk aT [(.slice aE aB.ins.length aF), (.slice aG aB.outs.length aH)] 93, ow [(.slice aE aB.ins.length aF)] aB.ins, ow [(.slice aG aB.outs.length aH)] aB.outs, blk aV [(nV aC.params), (nV aC.regs), (sV aJ aK aC.blocks.length aI)] 49, holeE aJ aK aC.blocks.length aI (aQ.1 : List Block_) (aO).toNat [aX, (sV ba bb aA.ins.length bc), (nV aA.jump), (nV aA.on), aL], drnV aX (aA.phis : List Phi_) (ak), drnH ba bb aA.ins.length bc (aA.ins : List Ins_) (ac.1).toNat [(nV aP.op), (nV aP.to), bA, (nV aP.n_)], ow [aL] aA.next_, ow [(.slice aZ aM.length aa)] aM, ow [(.slice af aN.length ah)] aN, ow [ao] ac.2] := hm
       replace hm := hm.imp (c' := ow ([(nV aP.op)] ++ [(nV aP.to), bA, (nV aP.n_)]) ((aP.op, (aP.to, aP.args, aP.n_)) : Int × Int × (List Int) × Int)) 0 rfl (fun F h0 => h0)
       replace hm := Mem.unpair (α := Int) (β := Int × (List Int) × Int) (c := [(nV aP.op)]) (d := [(nV aP.to), bA, (nV aP.n_)]) (x := aP.op) (y := (aP.to, aP.args, aP.n_)) hm 0 rfl rfl
       replace hm := hm.imp (c' := ow ([(nV aP.to)] ++ [bA, (nV aP.n_)]) ((aP.to, (aP.args, aP.n_)) : Int × (List Int) × Int)) 0 rfl (fun F h0 => h0)
       replace hm := Mem.unpair (α := Int) (β := (List Int) × Int) (c := [(nV aP.to)]) (d := [bA, (nV aP.n_)]) (x := aP.to) (y := (aP.args, aP.n_)) hm 0 rfl rfl
       replace hm := hm.imp (c' := ow ([bA] ++ [(nV aP.n_)]) ((aP.args, aP.n_) : (List Int) × Int)) 0 rfl (fun F h0 => h0)
       replace hm := Mem.unpair (α := List Int) (β := Int) (c := [bA]) (d := [(nV aP.n_)]) (x := aP.args) (y := aP.n_) hm 0 rfl rfl
       replace hm := hm.pk (L' := [ow [bA] aP.args, blk aR [(nV c_.params), (nV c_.regs), (sV bG bH c_.blocks.length aY)] 49, blk aS [(nV 0), (nV 0), (.slice none 0 0)] 49, blk aT [(.slice aE aB.ins.length aF), (.slice aG aB.outs.length aH)] 93, ow [(.slice aE aB.ins.length aF)] aB.ins, ow [(.slice aG aB.outs.length aH)] aB.outs, blk aV [(nV aC.params), (nV aC.regs), (sV aJ aK aC.blocks.length aI)] 49, holeE aJ aK aC.blocks.length aI (aQ.1 : List Block_) (aO).toNat [aX, (sV ba bb aA.ins.length bc), (nV aA.jump), (nV aA.on), aL], drnV aX (aA.phis : List Phi_) (ak), drnH ba bb aA.ins.length bc (aA.ins : List Ins_) (ac.1).toNat [(nV aP.op), (nV aP.to), bA, (nV aP.n_)], ow [aL] aA.next_, ow [(.slice aZ aM.length aa)] aM, ow [(.slice af aN.length ah)] aN, ow [ao] ac.2]) [1, 4, 5, 6, 7, 8, 9, 10, 11, 12, 13, 14, 15, 16] rfl rfl
       replace hm := hm.drnH_gone 9 rfl cf bs
       exact gZ fun a hf => ⟨ao, hf.sb rfl, hm.pk [1, 2, 3, 4, 5, 6, 7, 8, 9, 10, 11, 12, 13] rfl rfl⟩
      repeat clear hm
      rintro br a w ⟨bZ, hf, hm⟩
      exact gv hf (gZ fun a hf => ⟨bZ, hf.sb rfl, hm.pk [0, 1, 2, 3, 4, 5, 6, 7, 8, 9, 10, 11, 12] rfl rfl⟩)
     repeat clear hm
     rintro bq a w ⟨bY, hf, hm⟩
     refine gv hf (gR (gM rfl (gB rfl (gA rfl (gE ?_)))))
     replace hm := hm.drnS_w 8 rfl
     exact gZe fun a hf => ⟨bY, hf.sb rfl, hm.pk [0, 1, 2, 3, 4, 5, 6, 7, 8, 9, 10, 11, 12] rfl rfl⟩
    exact gcf rfl (gXt (gHh (gLp cZ cY (gZ fun a hf => ⟨ac.1, ao, hf.sb rfl, hm.pk [0, 1, 2, 3, 4, 5, 6, 7, 8, 9, 11, 12] rfl rfl⟩))))
   repeat clear hm
   rintro bF a w ⟨bL, av, hf, hm⟩
   refine gv hf (gS (gJ hm (fun be => [(1, (pV aR)), (2, (pV aS)), (4, (pV aT)), (5, (pV aV)), (6, (.bool (be))), (7, (nV aO)), (10, (.slice af aN.length ah)), (12, av)]) (fun be => [blk aR [(nV c_.params), (nV c_.regs), (.slice az c_.blocks.length aY)] 49, blk aS [(nV 0), (nV 0), (.slice none 0 0)] 49, blk aT [(.slice aE aB.ins.length aF), (.slice aG aB.outs.length aH)] 93, ow [(.slice aE aB.ins.length aF)] aB.ins, ow [(.slice aG aB.outs.length aH)] aB.outs, blk aV [(nV aC.params), (nV aC.regs), (sV aJ aK aC.blocks.length aI)] 49, holeE aJ aK aC.blocks.length aI (aQ.1 : List Block_) (aO).toNat [aX, aW, (nV aA.jump), (nV aA.on), aL], drnV aX (aA.phis : List Phi_) (ak), drnV aW (aA.ins : List Ins_) (bL), ow [aL] aA.next_, ow [(.slice af aN.length ah)] aN, ow [av] bF]) (fun be => ?_) ?_))
   ·
    refine gR (gM rfl (gM rfl (gs 99 rfl (fun cj => ?_) fun cj => ?_)))
    ·
     exact gO rfl (gO rfl (gO rfl (gO rfl (gO rfl (gO rfl (gO rfl (gO rfl (gO rfl (gO rfl (gKt rfl (gM rfl (gO rfl (gO rfl (gO rfl (gO rfl (gO rfl (gO rfl (gO rfl (gO rfl (gO rfl (gO rfl (gKt rfl (gA rfl (gE (gz hm [0, 1, 2, 3, 4, 5, 6, 7, 8, 9, 10, 11] rfl)))))))))))))))))))))))))
    refine gM rfl ?_
    obtain ⟨dv, dw, rfl, dx⟩ := ro_slice (hm.ow_rep 11 rfl)
    refine gY (yV st_61 rfl) (gF fo_49_2 rfl (gL hm 0 isAgg47 rfl (gM rfl (gg fun dy bz bf => ?_))))
    obtain ⟨dz, eA, eB, he⟩ := idx_form' h1 bf
    obtain ⟨rfl, _, rfl⟩ := sl3 he
    obtain ⟨eC, eD, eE, cA, ck, cl, eF⟩ := rk_Block_ h1 bf
    refine gI st_47 bz (idx_lt bf) rfl (gF fo_63_1 rfl (gY (yl isAgg61 ((cA.mono hm.lez).cell (j := 1) rfl) rfl) ?_))
    obtain ⟨eG, eH, rfl, eI⟩ := ro_slice cl
    refine gY (yV st_61 rfl) (gB rfl (gKf rfl (gM rfl (gsd 111 rfl (fun cm => ?_) fun cm => ?_))))
    ·
     exact gO rfl (gO rfl (gO rfl (gO rfl (gO rfl (gO rfl (gO rfl (gO rfl (gO rfl (gO rfl (gKt rfl (gA rfl (gE (gz hm [0, 1, 2, 3, 4, 5, 6, 7, 8, 9, 10, 11] rfl)))))))))))))
    refine gM rfl (gY (yV st_60 rfl) (gF fo_49_2 rfl (gL hm 0 isAgg47 rfl (gM rfl (gI st_47 bz (idx_lt bf) rfl (gF fo_63_0 rfl (gY (yl isAgg60 ((cA.mono hm.lez).cell (j := 0) rfl) rfl) ?_)))))))
    obtain ⟨eJ, eK, rfl, eL⟩ := ro_slice ck
    exact gY (yV st_60 rfl) (gB rfl (gKf rfl (gA rfl (gE (gz hm [0, 1, 2, 3, 4, 5, 6, 7, 8, 9, 10, 11] rfl)))))
   repeat clear hm
   intro be w hm
   refine gS (gR (gF fo_49_2 rfl (gL hm 5 isAgg47 rfl (gM rfl (gM rfl ?_)))))
   have hL1_1 := hm.holeE_len 6 rfl
   refine gI st_47 bM (idx_lt2 bJ hL1_1) rfl (gF fo_63_0 rfl ?_)
   have cB : ∀ u ∈ ([(.slice af aN.length ah)] : List Value), u.oneCell' = true := (one_cons rfl one_nil)
   refine gf0 rfl (fun a hf => e_storeH (j := 0) (vs := [(.slice af aN.length ah)]) 6 hf hm rfl rfl rfl sizeOf60 rfl rfl (cells_one (cB _ (List.mem_singleton.2 rfl))) cB rfl) ?_
   rintro _ w hm
   replace hm : Mem w0 (hp w0) _ [blk aR [(nV c_.params), (nV c_.regs), (.slice az c_.blocks.length aY)] 49, blk aS [(nV 0), (nV 0), (.slice none 0 0)] 49, blk aT [(.slice aE aB.ins.length aF), (.slice aG aB.outs.length aH)] 93, ow [(.slice aE aB.ins.length aF)] aB.ins, ow [(.slice aG aB.outs.length aH)] aB.outs, blk aV [(nV aC.params), (nV aC.regs), (sV aJ aK aC.blocks.length aI)] 49, holeE aJ aK aC.blocks.length aI (aQ.1 : List Block_) (aO).toNat [(.slice af aN.length ah), aW, (nV aA.jump), (nV aA.on), aL], drnV aX (aA.phis : List Phi_) (ak), drnV aW (aA.ins : List Ins_) (bL), ow [aL] aA.next_, ow [(.slice af aN.length ah)] aN, ow [av] bF] := hm
   refine gE (gR (gF fo_49_2 rfl (gL hm 5 isAgg47 rfl (gM rfl (gM rfl ?_)))))
   have hL1_2 := hm.holeE_len 6 rfl
   refine gI st_47 bM (idx_lt2 bJ hL1_2) rfl (gF fo_63_1 rfl ?_)
   have cC : ∀ u ∈ ([av] : List Value), u.oneCell' = true := (one_cons (rep_one (hm.ow_rep 11 rfl)) one_nil)
   refine gf0 rfl (fun a hf => e_storeH (j := 1) (vs := [av]) 6 hf hm rfl rfl rfl sizeOf61 rfl rfl (cells_one (cC _ (List.mem_singleton.2 rfl))) cC rfl) ?_
   rintro _ w hm
   replace hm : Mem w0 (hp w0) _ [blk aR [(nV c_.params), (nV c_.regs), (.slice az c_.blocks.length aY)] 49, blk aS [(nV 0), (nV 0), (.slice none 0 0)] 49, blk aT [(.slice aE aB.ins.length aF), (.slice aG aB.outs.length aH)] 93, ow [(.slice aE aB.ins.length aF)] aB.ins, ow [(.slice aG aB.outs.length aH)] aB.outs, blk aV [(nV aC.params), (nV aC.regs), (sV aJ aK aC.blocks.length aI)] 49, holeE aJ aK aC.blocks.length aI (aQ.1 : List Block_) (aO).toNat [(.slice af aN.length ah), av, (nV aA.jump), (nV aA.on), aL], drnV aX (aA.phis : List Phi_) (ak), drnV aW (aA.ins : List Ins_) (bL), ow [aL] aA.next_, ow [(.slice af aN.length ah)] aN, ow [av] bF] := hm
   refine gE ?_
   replace hm := (mk_Block_ aA.jump aA.on hm 10 11 9 rfl).pk (L' := [blk aR [(nV c_.params), (nV c_.regs), (.slice az c_.blocks.length aY)] 49, blk aS [(nV 0), (nV 0), (.slice none 0 0)] 49, blk aT [(.slice aE aB.ins.length aF), (.slice aG aB.outs.length aH)] 93, ow [(.slice aE aB.ins.length aF)] aB.ins, ow [(.slice aG aB.outs.length aH)] aB.outs, blk aV [(nV aC.params), (nV aC.regs), (sV aJ aK aC.blocks.length aI)] 49, holeE aJ aK aC.blocks.length aI (aQ.1 : List Block_) (aO).toNat [(.slice af aN.length ah), av, (nV aA.jump), (nV aA.on), aL], drnV aX (aA.phis : List Phi_) (ak), drnV aW (aA.ins : List Ins_) (bL), ow [(.slice af aN.length ah), av, (nV aA.jump), (nV aA.on), aL] ((⟨aN, bF, aA.jump, aA.on, aA.next_⟩ : Block_) : Block_)]) [0, 1, 2, 3, 4, 5, 6, 7, 8, 10] rfl rfl
   replace hm := (hm.shutE (y := ((⟨aN, bF, aA.jump, aA.on, aA.next_⟩ : Block_) : Block_)) 6 9 (by decide) rfl rfl).pk (L' := [blk aR [(nV c_.params), (nV c_.regs), (.slice az c_.blocks.length aY)] 49, blk aS [(nV 0), (nV 0), (.slice none 0 0)] 49, blk aT [(.slice aE aB.ins.length aF), (.slice aG aB.outs.length aH)] 93, ow [(.slice aE aB.ins.length aF)] aB.ins, ow [(.slice aG aB.outs.length aH)] aB.outs, blk aV [(nV aC.params), (nV aC.regs), (sV aJ aK aC.blocks.length aI)] 49, ow [(sV aJ aK aC.blocks.length aI)] (aQ.1.set (aO).toNat (⟨aN, bF, aA.jump, aA.on, aA.next_⟩ : Block_)), drnV aX (aA.phis : List Phi_) (ak), drnV aW (aA.ins : List Ins_) (bL)]) [0, 1, 2, 3, 4, 5, 6, 7, 8] rfl rfl
   have eM := List.getElem?_set_self (a := ((⟨aN, bF, aA.jump, aA.on, aA.next_⟩ : Block_) : Block_)) (idx_lt bJ)
   exact gR (gM rfl (gP (by omega) (by omega) rfl (gA rfl (gE (gze hm [0, 1, 2, 3, 4, 5, 6] rfl)))))
  repeat clear hm
  intro eN eO w hm eP eQ
  refine gS (gS (gR (gM rfl (gF fo_49_2 rfl (gL hm 0 isAgg47 rfl ?_)))))
  obtain ⟨eR, eS, rfl, eT⟩ := ro_slice h1
  exact gY (yV st_47 rfl) (gB rfl (gE (go _ 22 rfl (decide_eq_false (by omega)) (gcf rfl (gXt (gHh (gS (gR (gY (yn (hm.blk_at 5 rfl) isAgg49 sizeOf49 rfl) (gM rfl (gSN hm 1 sizeOf49 (one_cons rfl (one_cons rfl (one_cons rfl one_nil))) rfl fun w hm => gA rfl (gE (gRt (grct 1 results256 hm rfl isAgg49 sizeOf49 ⟨(.slice bg aC.blocks.length aI), rfl, hm.pk [6] rfl rfl⟩))))))))))))))
theorem spec_l12Drop_ok (w0 : World) (c_ : Code_) (v1 : Value) (h1 : GT.rep (hp w0) [v1] c_.blocks) :
    ConM Tryz.prog 190 [(.agg #[(nV c_.params), (nV c_.regs), v1])] w0 (spec_l12Drop c_) fun r v w' => ∃ (x1 : Value), v = (.agg #[(nV r.params), (nV r.regs), x1]) ∧ Mem w0 (hp w0) w' [ow [x1] r.blocks] := by
  unfold spec_l12Drop
  refine gcon func190 rfl fun r => ?_
  have hm := Mem.start w0
  refine gS (gR (gBx hm rfl fun aN w hm => gAl hm zeroValue49 rfl fun aD w hm => gE (gS (gR (gY (yn (hm.blk_at 1 rfl) isAgg49 sizeOf49 rfl) (gCg rfl call256 (spec_l12Once_ok _ c_ v1 (hm.now h1)) ?_))))))
  rintro aG aO aP w ⟨aQ, rfl, hB⟩
  replace hm := hm.give hB; clear hB
  refine gM rfl (gX rfl (gX rfl (gAl hm zeroValue49 rfl fun aE w hm => gSN hm 0 sizeOf49 (one_cons rfl (one_cons rfl (one_cons (rep_one (hm.ow_rep 1 rfl)) one_nil))) rfl fun w hm => gA rfl (gE (gS ?_)))))
  obtain ⟨aH, aI, rfl, aR⟩ := ro_slice (hm.ow_rep 1 rfl)
  refine gJg (fun aB a w => ∃ (aF : Value), St 17 [(2, (pV aD)), (3, (pV aE))] w0 (hp w0) [blk aD [(nV 0), (nV 0), (.slice none 0 0)] 49, blk aE [(nV aB.1), (nV aB.2.1), aF] 49, ow [aF] aB.2.2] a w) (fun aB => ?_) ?_
  ·
   refine gBk (gMg (fun aA a w => ∃ (aC : Value), St 17 [(2, (pV aD)), (3, (pV aE)), (4, (.bool (aA.2.2.2)))] w0 (hp w0) [blk aD [(nV 0), (nV 0), (.slice none 0 0)] 49, blk aE [(nV aA.1), (nV aA.2.1), aC] 49, ow [aC] aA.2.2.1] a w) (fun a hf => ⟨(.slice aH aG.1.blocks.length aI), hf.sb rfl, hm.pk [2, 0, 1] rfl rfl⟩) ?_)
   repeat clear hm
   rintro aS aJ aA a w ⟨aC, hf, hm⟩ aT aK
   refine gv hf (gS (gS (gR (gM rfl (gE (gs 10 rfl (fun aL => ?_) fun aL => ?_))))))
   ·
    refine gct rfl (gSk (gBk (gR (gY (yn (hm.blk_at 1 rfl) isAgg49 sizeOf49 rfl) (gCg rfl call256 (spec_l12Once_ok _ (⟨aA.1, aA.2.1, aA.2.2.1⟩ : Code_) aC (hm.ow_rep 2 rfl)) ?_)))))
    rintro aV aW aX w ⟨aM, rfl, hB⟩
    replace hm := hm.give hB; clear hB
    exact gM rfl (gX rfl (gX rfl (gSN hm 2 sizeOf49 (one_cons rfl (one_cons rfl (one_cons (rep_one (hm.ow_rep 0 rfl)) one_nil))) rfl fun w hm => gA rfl (gE (gZe fun a hf => ⟨aM, hf.sb rfl, hm.pk [1, 2, 0] rfl rfl⟩)))))
   exact gcf rfl (gXt (gHh (gLp aK aJ (gZ fun a hf => ⟨aC, hf.sb rfl, hm.pk [0, 1, 2] rfl rfl⟩))))
  repeat clear hm
  rintro aB a w ⟨aF, hf, hm⟩
  exact gv hf (gS (gR (gY (yn (hm.blk_at 1 rfl) isAgg49 sizeOf49 rfl) (gSN hm 0 sizeOf49 (one_cons rfl (one_cons rfl (one_cons (rep_one (hm.ow_rep 2 rfl)) one_nil))) rfl fun w hm => gE (gRt (grc 0 results190 hm rfl isAgg49 sizeOf49 ⟨aF, rfl, hm.pk [2] rfl rfl⟩))))))
theorem spec_l10Turn_ok (w0 : World) (c_ : Code_) (v1 : Value) (h1 : GT.rep (hp w0) [v1] c_.blocks) (pass : Str) :
    ConM Tryz.prog 117 [(.agg #[(nV c_.params), (nV c_.regs), v1]), (.string ⟨(pass).b.toArray⟩)] w0 (spec_l10Turn c_ pass) fun r v w' => ∃ (x1 : Value), v = (.agg #[(nV r.params), (nV r.regs), x1]) ∧ Mem w0 (hp w0) w' [ow [x1] r.blocks] := by
  unfold spec_l10Turn
  refine gcon func117 rfl fun r => ?_
  have hm := Mem.start w0
  refine gS (gR (gBx hm rfl fun aM w hm => gAl hm zeroValue49 rfl fun aN w hm => gE (gS (gS (gR (gM rfl (gE (gBk (gS (gR (gY (yG rfl (y_eqls (p := pass) (q := (mkS [114, 101, 97, 99, 104])) rfl rfl rfl)) (gA rfl (gE (gsd 6 rfl (fun aA => ?_) fun aA => ?_))))))))))))))
  ·
   exact gno
  refine gcf rfl (gS (gR (gY (yG rfl (y_eqls (p := pass) (q := (mkS [111, 114, 100, 101, 114])) rfl rfl rfl)) (gA rfl (gE (gsd 10 rfl (fun aB => ?_) fun aB => ?_))))))
  ·
   exact gno
  refine gcf rfl (gS (gR (gY (yG rfl (y_eqls (p := pass) (q := (mkS [115, 112, 108, 105, 116])) rfl rfl rfl)) (gA rfl (gE (gsd 16 rfl (fun aC => ?_) fun aC => ?_))))))
  ·
   exact gno
  refine gcf rfl (gS (gR (gY (yG rfl (y_eqls (p := pass) (q := (mkS [105, 100, 108, 101])) rfl rfl rfl)) (gA rfl (gE (gsd 20 rfl (fun aD => ?_) fun aD => ?_))))))
  ·
   refine gct rfl (gS (gR (gY (yn (hm.blk_at 1 rfl) isAgg49 sizeOf49 rfl) (gCg rfl call190 (spec_l12Drop_ok _ c_ v1 (hm.now h1)) ?_))))
   rintro aO aP aQ w ⟨aE, rfl, hB⟩
   replace hm := hm.give hB; clear hB
   exact gSN hm 1 sizeOf49 (one_cons rfl (one_cons rfl (one_cons (rep_one (hm.ow_rep 0 rfl)) one_nil))) rfl fun w hm => gE (gRt (grc 1 results117 hm rfl isAgg49 sizeOf49 ⟨aE, rfl, hm.pk [0] rfl rfl⟩))
  refine gcf rfl (gS (gR (gY (yG rfl (y_eqls (p := pass) (q := (mkS [115, 105, 110, 103, 108, 101])) rfl rfl rfl)) (gA rfl (gE (gsd 24 rfl (fun aF => ?_) fun aF => ?_))))))
  ·
   exact gno
  refine gcf rfl (gS (gR (gY (yG rfl (y_eqls (p := pass) (q := (mkS [107, 110, 111, 119, 110])) rfl rfl rfl)) (gA rfl (gE (gsd 28 rfl (fun aG => ?_) fun aG => ?_))))))
  ·
   exact gno
  refine gcf rfl (gS (gR (gY (yG rfl (y_eqls (p := pass) (q := (mkS [115, 104, 97, 114, 101])) rfl rfl rfl)) (gA rfl (gE (gsd 32 rfl (fun aH => ?_) fun aH => ?_))))))
  ·
   exact gno
  refine gcf rfl (gS (gR (gY (yG rfl (y_eqls (p := pass) (q := (mkS [104, 111, 105, 115, 116])) rfl rfl rfl)) (gA rfl (gE (gsd 36 rfl (fun aI => ?_) fun aI => ?_))))))
  ·
   exact gno
  refine gcf rfl (gS (gR (gY (yG rfl (y_eqls (p := pass) (q := (mkS [101, 118, 101, 110])) rfl rfl rfl)) (gA rfl (gE (gsd 40 rfl (fun aJ => ?_) fun aJ => ?_))))))
  ·
   exact gno
  refine gcf rfl (gS (gR (gY (yG rfl (y_eqls (p := pass) (q := (mkS [115, 107, 105, 112])) rfl rfl rfl)) (gA rfl (gE (gsd 44 rfl (fun aK => ?_) fun aK => ?_))))))
  ·
   exact gno
  refine gcf rfl (gS (gR (gY (yG rfl (y_eqls (p := pass) (q := (mkS [106, 111, 105, 110])) rfl rfl rfl)) (gA rfl (gE (gsd 48 rfl (fun aL => ?_) fun aL => ?_))))))
  ·
   exact gno
  exact gno
theorem spec_l10Each_ok (w0 : World) (u : Unit_) (v1 : Value) (h1 : GT.rep (hp w0) [v1] u.codes) (pass : Str) :
    ConM Tryz.prog 68 [(.agg #[v1]), (.string ⟨(pass).b.toArray⟩)] w0 (spec_l10Each u pass) fun r v w' => ∃ (x1 : Value), v = (.tuple #[(.agg #[x1]), (.bool (r.2))]) ∧ Mem w0 (hp w0) w' [ow [x1] r.1.codes] := by
  unfold spec_l10Each
  refine gcon func68 rfl fun r => ?_
  have hm := Mem.start w0
  refine gS (gR (gBx hm rfl fun aD w hm => gAl hm zeroValue28 rfl fun aE w hm => gA rfl (gE (gS (gS (gR (gY (yn (hm.blk_at 1 rfl) isAgg28 sizeOf28 rfl) (gC hm rfl call39 (spec_UnitValid_ok _ u v1 (hm.now h1)) fun ae af w hm => gN rfl (gE (gsn 10 rfl (fun aO => ?_) fun aO => ?_))))))))))
  ·
   refine gct rfl (gS (gR (gY (yG rfl (y_build (vs := []) (cs := #[(.slice none 0 0)]) rfl rfl (by kernel_rfl))) (gSN hm 0 sizeOf28 (one_cons rfl one_nil) rfl fun w hm => gA rfl (gE (gRt ?_))))))
   replace hm := hm.nilow (α := Code_)
   exact grct 1 results68 hm rfl isAgg28 sizeOf28 ⟨(.slice none 0 0), rfl, hm.pk [0] rfl rfl⟩
  refine gcf rfl (gSk (gS (gR (gY (yG rfl (y_build (vs := []) (cs := #[(.slice none 0 0)]) rfl rfl (by kernel_rfl))) (gAl hm zeroValue28 rfl fun aF w hm => gSN hm 0 sizeOf28 (one_cons rfl one_nil) rfl fun w hm => gE (gS (gS (gR (gA rfl (gE (gBk ?_)))))))))))
  replace hm := hm.nilow (α := Code_)
  refine gNg (fun aM aC a w => ∃ (aB : Value), St 37 [(1, (.string ⟨(pass).b.toArray⟩)), (2, (pV aD)), (4, (pV aE)), (6, (pV aF)), (7, (nV aM))] w0 (hp w0) [blk aD [v1] 28, blk aE [(.slice none 0 0)] 28, blk aF [aB] 28, ow [aB] aC] a w) (fun a hf => ⟨(.slice none 0 0), hf.sb rfl, hm.pk [3, 2, 1, 0] rfl rfl⟩) ?_ ?_
  ·
   repeat clear hm
   rintro _ _ aM aC a w ⟨aB, hf, hm⟩ ah ai aj _
   refine gv hf (gS (gS (gR (gM rfl (gF fo_28_0 rfl (gL hm 0 isAgg26 rfl ?_))))))
   obtain ⟨aP, aH, rfl, ak⟩ := ro_slice h1
   refine gY (yV st_26 rfl) (gB rfl (gE (go _ 17 rfl (decide_eq_true (by omega)) (gct rfl (gSk (gS (gBk (gW (.p 0 (.p 2 (.p 4 (.p 7 (.q 1 (.e 3 (.p 5 (.e 6 (.e 8 (.e 9 (.e 10 (.p 11 (.e 12 .fin .nil)) .nil) .nil) .nil) .nil)) .nil)))))) [3, 6, 8, 9] [0, 2, 4, 5, 7, 11] hm [0, 1, 2, 3] [blk aD [(.slice aP u.codes.length aH)] 28, blk aE [(.slice none 0 0)] 28, blk aF [aB] 28, ow [aB] aC] rfl mxo (by kernel_rfl) (fun _ _ _ h => h.2) fun w hm hS => tP rfl (fun w => yF fo_28_0 rfl) (tP rfl (fun w => yF fo_28_0 rfl) (tP rfl (fun w => yM rfl) (tP rfl (fun w => yM rfl) (tQ rfl hS (fun w hm => yL hm 2 isAgg26 rfl) (tO (tY rfl (yL hm 0 isAgg26 rfl) (tAs hS (gg fun aQ aR aL => ?_))))))))))))))))
   obtain ⟨aI, aJ, al, he⟩ := idx_form' h1 aL
   obtain ⟨rfl, _, rfl⟩ := sl3 he
   obtain ⟨aS, aT, aV⟩ := rk_Code_ h1 aL
   refine tP rfl (fun w => yI st_26 aR (idx_lt aL) rfl) (tO (tY rfl (yn (aT.mono hm.lez) isAgg49 sizeOf49 rfl) (tAs hS (tO (gb fun aA aW => tf rfl rfl (fun a hf => e_call hf rfl call117 rfl (spec_l10Turn_ok _ aQ aS (hm.now aV) pass _ aW)) ?_)))))
   rintro am w ⟨aG, rfl, hB⟩
   replace hm := hm.give hB; clear hB
   refine tAk hm [1, 2, 3, 4] rfl fun hS => tO (tf rfl rfl (fun a hf => e_build (vs := #[(0, (.agg #[(nV aA.params), (nV aA.regs), aG]))]) (cs := [(nV aA.params), (nV aA.regs), aG]) et_26 hf hm rfl rfl (by kernel_rfl) rfl rfl) ?_)
   rintro _ w ⟨aK, rfl, hm⟩
   replace hm := hm.els_nil (α := Code_)
   replace hm : Mem w0 (hp w0) _ [els [] ([] : List Code_), blk aK [(nV aA.params), (nV aA.regs), aG] 49, ow [(nV aA.params), (nV aA.regs), aG] (aA : Code_), blk aD [(sV aI aJ u.codes.length aH)] 28, blk aE [(.slice none 0 0)] 28, blk aF [aB] 28, ow [aB] aC] := mk_Code_ aA.params aA.regs hm 2 rfl
   replace hm := (hm.els_cons 0 2 (by decide) rfl rfl).pk (L' := [els [(nV aA.params), (nV aA.regs), aG] ([aA] : List Code_), blk aK [(nV aA.params), (nV aA.regs), aG] 49, blk aD [(sV aI aJ u.codes.length aH)] 28, blk aE [(.slice none 0 0)] 28, blk aF [aB] 28, ow [aB] aC]) [0, 1, 3, 4, 5, 6] rfl rfl
   replace hm := (hm.lit_els 1 0 (by decide) rfl rfl rfl rfl).pk (L' := [ow [(sV aK 0 1 1)] ([aA] : List Code_), blk aD [(sV aI aJ u.codes.length aH)] 28, blk aE [(.slice none 0 0)] 28, blk aF [aB] 28, ow [aB] aC]) [1, 2, 3, 4, 5] rfl rfl
   refine tAk hm [1, 2, 3, 4] rfl fun hS => tO (gb fun an aX => ?_)
   obtain ⟨aY, aZ⟩ := appM_some.1 aX
   replace hm := (hm.both 4 0 (by decide) rfl rfl).pk (L' := [blk aD [(sV aI aJ u.codes.length aH)] 28, blk aE [(.slice none 0 0)] 28, blk aF [aB] 28, both (ow [aB] aC) (ow [(sV aK 0 1 1)] ([aA] : List Code_))]) [1, 2, 3, 4] rfl rfl
   refine tf rfl rfl (fun a hf => e_appendD (xs := aC) (ys := ([aA] : List Code_)) 3 et_26 hf hm rfl rfl rfl rfl aY) ?_
   rintro aa w hm
   rw [aZ] at hm
   refine tAn rfl (tP rfl (fun w => yF fo_28_0 rfl) (tO (tf0 rfl rfl (fun a hf => e_store1 2 hf hm rfl sizeOf26 rfl rfl rfl (rep_one (hm.ow_rep 3 rfl)) rfl) ?_)))
   rintro _ w hm
   exact tAn rfl (tE (gR (gM rfl (gP (by omega) (by omega) rfl (gA rfl (gE (gZe fun a hf => ⟨aa, hf.sb rfl, hm.pk [0, 1, 2, 3] rfl rfl⟩)))))))
  repeat clear hm
  rintro ao ab a w ⟨aN, hf, hm⟩ ap aq
  refine gv hf (gS (gS (gR (gM rfl (gF fo_28_0 rfl (gL hm 0 isAgg26 rfl ?_))))))
  obtain ⟨ar, au, rfl, av⟩ := ro_slice h1
  refine gY (yV st_26 rfl) (gB rfl (gE (go _ 17 rfl (decide_eq_false (by omega)) (gcf rfl (gXt (gHh (gS (gS (gR (gY (yn (hm.blk_at 2 rfl) isAgg28 sizeOf28 rfl) (gC hm rfl call39 (spec_UnitValid_ok _ (⟨ab⟩ : Unit_) aN (hm.ow_rep 3 rfl)) fun aw ax w hm => gN rfl (gE (gsn 34 rfl (fun ac => ?_) fun ac => ?_)))))))))))))
  ·
   refine gct rfl (gS (gR (gY (yG rfl (y_build (vs := []) (cs := #[(.slice none 0 0)]) rfl rfl (by kernel_rfl))) (gSN hm 1 sizeOf28 (one_cons rfl one_nil) rfl fun w hm => gA rfl (gE (gRt ?_))))))
   replace hm := hm.nilow (α := Code_)
   exact grct 2 results68 hm rfl isAgg28 sizeOf28 ⟨(.slice none 0 0), rfl, hm.pk [0] rfl rfl⟩
  exact gcf rfl (gSk (gS (gR (gY (yn (hm.blk_at 2 rfl) isAgg28 sizeOf28 rfl) (gSN hm 1 sizeOf28 (one_cons (rep_one (hm.ow_rep 3 rfl)) one_nil) rfl fun w hm => gA rfl (gE (gRt (grct 1 results68 hm rfl isAgg28 sizeOf28 ⟨aN, rfl, hm.pk [3] rfl rfl⟩))))))))
theorem spec_DropIdle_ok (w0 : World) (u : Unit_) (v1 : Value) (h1 : GT.rep (hp w0) [v1] u.codes) :
    ConM Tryz.prog 26 [(.agg #[v1])] w0 (spec_DropIdle u) fun r v w' => ∃ (x1 : Value), v = (.tuple #[(.agg #[x1]), (.bool (r.2))]) ∧ Mem w0 (hp w0) w' [ow [x1] r.1.codes] := by
  unfold spec_DropIdle
  refine gcon func26 rfl fun r => ?_
  have hm := Mem.start w0
  refine gS (gR (gBx hm rfl fun aB w hm => gAl hm zeroValue28 rfl fun aC w hm => gA rfl (gE (gS (gR (gY (yn (hm.blk_at 1 rfl) isAgg28 sizeOf28 rfl) (gCg rfl call68 (spec_l10Each_ok _ u v1 (hm.now h1) (mkS [105, 100, 108, 101])) ?_)))))))
  rintro aD aE aF w ⟨aA, rfl, hB⟩
  replace hm := hm.give hB; clear hB
  exact gX rfl (gX rfl (gSN hm 1 sizeOf28 (one_cons (rep_one (hm.ow_rep 0 rfl)) one_nil) rfl fun w hm => gA rfl (gE (gRt (grct 1 results26 hm rfl isAgg28 sizeOf28 ⟨aA, rfl, hm.pk [0] rfl rfl⟩)))))
theorem impl_within_ok (w0 : World) (n_ : Int) (low : Int) (high : Int) :
    ConM Tryz.prog 47 [(nV n_), (nV low), (nV high)] w0 (impl_within n_ low high) fun r v w' => v = (.bool (r)) ∧ Below w0.heap.size w0 w' := by
  unfold impl_within
  refine gcon func47 rfl fun r => ?_
  have hm := Mem.start w0
  refine gS (gR (gA rfl (gE (gS (gJ hm (fun aA => [(6, (.bool (aA)))]) (fun aA => []) (fun aA => ?_) ?_)))))
  ·
   refine gR (gM rfl (gM rfl (gB rfl (gM rfl (gsd 10 rfl (fun aB => ?_) fun aB => ?_)))))
   ·
    exact gM rfl (gM rfl (gB rfl (gKt rfl (gA rfl (gE (gz hm [] rfl))))))
   exact gO rfl (gO rfl (gO rfl (gKf rfl (gA rfl (gE (gz hm [] rfl))))))
  repeat clear hm
  intro aA w hm
  exact gRt (gr1 results47 rfl ⟨rfl, hm.below⟩)
theorem impl_codeOk_1_ok (w0 : World) (r_ : Int) (c0_ : Code_) (v1 : Value) (h1 : GT.rep (hp w0) [v1] c0_.blocks) (bf0 : Nat) (hbf0 : w0.heap[bf0]? = some (.cells ([(nV c0_.params), (nV c0_.regs), v1] : List Value).toArray 49 (0, 0))) :
    ConM Tryz.prog 179 [(nV r_), (pV bf0)] w0 (impl_codeOk_1 r_ c0_) fun r v w' => v = (.bool (r)) ∧ Below w0.heap.size w0 w' := by
  unfold impl_codeOk_1
  refine gcon func179 rfl fun r => ?_
  have hm := Mem.start w0
  exact gS (gR (gA rfl (gE (gS (gR (gM rfl (gF fo_49_1 rfl (gY (yl isAgg3 (hm.old_cell hbf0 rfl) rfl) (gB rfl (gC hm rfl call47 (impl_within_ok _ r_ 0 (w64 (c0_.regs - 1))) fun aA aB w hm => gA rfl (gE (gRt (gr1 results179 rfl ⟨rfl, hm.below⟩)))))))))))))
theorem impl_nextCount_ok (w0 : World) (jump : Int) :
    ConM Tryz.prog 180 [(nV jump)] w0 (impl_nextCount jump) fun r v w' => v = (nV r) ∧ Below w0.heap.size w0 w' := by
  unfold impl_nextCount
  refine gcon func180 rfl fun r => ?_
  have hm := Mem.start w0
  refine gS (gR (gA rfl (gE (gS (gS (gR (gM rfl (gE (gBk (gS (gR (gB rfl (gA rfl (gE (gsd 4 rfl (fun aA => ?_) fun aA => ?_)))))))))))))))
  ·
   exact gct rfl (gS (gR (gA rfl (gE (gRt (gr1 results180 rfl ⟨rfl, hm.below⟩))))))
  refine gcf rfl (gS (gR (gB rfl (gA rfl (gE (gsd 6 rfl (fun aB => ?_) fun aB => ?_))))))
  ·
   exact gct rfl (gS (gR (gA rfl (gE (gRt (gr1 results180 rfl ⟨rfl, hm.below⟩))))))
  refine gcf rfl (gS (gR (gB rfl (gA rfl (gE (gsd 8 rfl (fun aC => ?_) fun aC => ?_))))))
  ·
   exact gct rfl (gS (gR (gA rfl (gE (gRt (gr1 results180 rfl ⟨rfl, hm.below⟩))))))
  exact gcf rfl (gSk (gS (gR (gA rfl (gE (gRt (gr1 results180 rfl ⟨rfl, hm.below⟩)))))))
theorem impl_usesOn_ok (w0 : World) (jump : Int) :
    ConM Tryz.prog 166 [(nV jump)] w0 (impl_usesOn jump) fun r v w' => v = (.bool (r)) ∧ Below w0.heap.size w0 w' := by
  unfold impl_usesOn
  refine gcon func166 rfl fun r => ?_
  have hm := Mem.start w0
  refine gS (gR (gA rfl (gE (gS (gJ hm (fun aA => [(2, (.bool (aA)))]) (fun aA => []) (fun aA => ?_) ?_)))))
  ·
   refine gR (gM rfl (gB rfl (gM rfl (gsd 5 rfl (fun aB => ?_) fun aB => ?_))))
   ·
    exact gO rfl (gO rfl (gKt rfl (gA rfl (gE (gz hm [] rfl)))))
   exact gM rfl (gB rfl (gKf rfl (gA rfl (gE (gz hm [] rfl)))))
  repeat clear hm
  intro aA w hm
  exact gRt (gr1 results166 rfl ⟨rfl, hm.below⟩)
theorem impl_codeOk_2_ok (w0 : World) (n_ : Int) (c0_ : Code_) (v1 : Value) (h1 : GT.rep (hp w0) [v1] c0_.blocks) (bf0 : Nat) (hbf0 : w0.heap[bf0]? = some (.cells ([(nV c0_.params), (nV c0_.regs), v1] : List Value).toArray 49 (0, 0))) :
    ConM Tryz.prog 182 [(nV n_), (pV bf0)] w0 (impl_codeOk_2 n_ c0_) fun r v w' => v = (.bool (r)) ∧ Below w0.heap.size w0 w' := by
  unfold impl_codeOk_2
  refine gcon func182 rfl fun r => ?_
  have hm := Mem.start w0
  refine gS (gR (gA rfl (gE (gS (gR (gM rfl (gF fo_49_2 rfl (gY (yl isAgg47 (hm.old_cell hbf0 rfl) rfl) ?_))))))))
  obtain ⟨aA, aB, rfl, aC⟩ := ro_slice h1
  exact gY (yV st_47 rfl) (gY (yS (by omega) (by omega) rfl) (gC hm rfl call47 (impl_within_ok _ n_ 1 (((c0_.blocks.length : Int)) - 1)) fun aD aE w hm => gN rfl (gA rfl (gE (gRt (gr1 results182 rfl ⟨rfl, hm.below⟩))))))
theorem slices_IndexFunc_S_int_int_ok (w0 : World) (s_ : List Int) (v1 : Value) (h1 : GT.rep (hp w0) [v1] s_) (f : Int → Option Bool) (fv1 : Value) (hfn1 : ∀ (w : World) (y0 : Int) (r : Bool), Below w0.heap.size w0 w → f y0 = some r → FnOk Tryz.prog fv1 [(nV y0)] w (fun v w' => v = (.bool (r)) ∧ Below w.heap.size w w')) :
    ConM Tryz.prog 247 [v1, fv1] w0 (slices_IndexFunc_S_int_int s_ f) fun r v w' => v = (nV r) ∧ Below w0.heap.size w0 w' := by
  unfold slices_IndexFunc_S_int_int
  refine gcon func247 rfl fun r => ?_
  have hm := Mem.start w0
  refine gS (gR (gA rfl (gE (gS (gS (gR (gM rfl ?_)))))))
  obtain ⟨aE, aF, rfl, aL⟩ := ro_slice h1
  refine gY (yV st_43 rfl) (gM rfl (gE (gBk (gNf hm (fun aA aC => [(0, (.slice aE s_.length aF)), (1, fv1), (7, (nV ((s_.length : Int)))), (8, (nV aA))]) (fun aA aC => []) [] rfl ?_ ?_))))
  ·
   repeat clear hm
   intro aM aG aA aC w hm aN aO aP aH
   refine gS (gR (gB rfl (gE (gS (go _ 9 rfl (decide_eq_true (by omega)) (gct rfl (gSk (gS (gBk (gS (gR (gM rfl (gA rfl (gE (gS (gR (gM rfl (gM rfl (gM rfl (gg fun aD aI aB => ?_))))))))))))))))))))
   obtain ⟨aQ, aR, aS, he⟩ := idx_form h1 aB
   obtain ⟨rfl, _, rfl⟩ := sl3 he
   refine gI st_43 aI (idx_lt aB) rfl (gY (yl isAgg3 ((flat_cells (cs := [(nV aD)]) (hm.now h1) aB rfl).cell (j := 0) rfl) rfl) (gb fun aT aJ => gf rfl (fun a hf => e_callv hf rfl rfl rfl (hfn1 _ aD _ hm.below aJ)) ?_))
   rintro aV w ⟨rfl, hB⟩
   replace hm := hm.below' hB; clear hB
   refine gE (gs 16 rfl (fun aK => ?_) fun aK => ?_)
   ·
    exact gct rfl (gS (gR (gM rfl (gA rfl (gE (gRt (gLr aH aG (gr1 results247 rfl ⟨rfl, hm.below⟩))))))))
   exact gcf rfl (gSk (gR (gP (by omega) (by omega) rfl (gM rfl (gE (gze hm [] rfl))))))
  repeat clear hm
  intro aW aX w hm aY aZ
  exact gS (gR (gB rfl (gE (gS (go _ 9 rfl (decide_eq_false (by omega)) (gcf rfl (gXt (gHh (gS (gR (gA rfl (gE (gRt (gr1 results247 rfl ⟨rfl, hm.below⟩))))))))))))))
theorem slices_ContainsFunc_S_int_int_ok (w0 : World) (s_ : List Int) (v1 : Value) (h1 : GT.rep (hp w0) [v1] s_) (f : Int → Option Bool) (fv1 : Value) (hfn1 : ∀ (w : World) (y0 : Int) (r : Bool), Below w0.heap.size w0 w → f y0 = some r → FnOk Tryz.prog fv1 [(nV y0)] w (fun v w' => v = (.bool (r)) ∧ Below w.heap.size w w')) :
    ConM Tryz.prog 181 [v1, fv1] w0 (slices_ContainsFunc_S_int_int s_ f) fun r v w' => v = (.bool (r)) ∧ Below w0.heap.size w0 w' := by
  unfold slices_ContainsFunc_S_int_int
  refine gcon func181 rfl fun r => ?_
  have hm := Mem.start w0
  exact gS (gR (gA rfl (gE (gS (gR (gM rfl (gM rfl (gC hm rfl call247 (slices_IndexFunc_S_int_int_ok _ s_ v1 (hm.now h1) f fv1 (fun w y0 r hB hq => hfn1 w y0 r (hm.below.trans (hB.mono hm.below.size)) hq)) fun aA aB w hm => gB rfl (gA rfl (gE (gRt (gr1 results181 rfl ⟨rfl, hm.below⟩))))))))))))
theorem impl_insOk_1_ok (w0 : World) (r_ : Int) (c0_ : Code_) (v1 : Value) (h1 : GT.rep (hp w0) [v1] c0_.blocks) (bf0 : Nat) (hbf0 : w0.heap[bf0]? = some (.cells ([(nV c0_.params), (nV c0_.regs), v1] : List Value).toArray 49 (0, 0))) :
    ConM Tryz.prog 249 [(nV r_), (pV bf0)] w0 (impl_insOk_1 r_ c0_) fun r v w' => v = (.bool (r)) ∧ Below w0.heap.size w0 w' := by
  unfold impl_insOk_1
  refine gcon func249 rfl fun r => ?_
  have hm := Mem.start w0
  exact gS (gR (gA rfl (gE (gS (gR (gM rfl (gF fo_49_1 rfl (gY (yl isAgg3 (hm.old_cell hbf0 rfl) rfl) (gB rfl (gC hm rfl call47 (impl_within_ok _ r_ 0 (w64 (c0_.regs - 1))) fun aA aB w hm => gA rfl (gE (gRt (gr1 results249 rfl ⟨rfl, hm.below⟩)))))))))))))
theorem impl_isIns_ok (w0 : World) (op : Int) :
    ConM Tryz.prog 243 [(nV op)] w0 (impl_isIns op) fun r v w' => v = (.bool (r)) ∧ Below w0.heap.size w0 w' := by
  unfold impl_isIns
  refine gcon func243 rfl fun r => ?_
  have hm := Mem.start w0
  exact gS (gR (gA rfl (gE (gS (gR (gM rfl (gC hm rfl call47 (impl_within_ok _ op 1 14) fun aA aB w hm => gA rfl (gE (gRt (gr1 results243 rfl ⟨rfl, hm.below⟩))))))))))
end Go.Proofs.YtabgclojkbijbaaGreat
