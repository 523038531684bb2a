/- A part of the proof of FnExactPlainUnitSaid. -/
import Derived.Test.YtcfdnpmajkhokaaGreatPlModels
import Derived.Test.YtcfdnpmajkhokaaGreatChecked
import Derived.Test.YtcfdnpmajkhokaaGreatPlLays
import Derived.Test.YtcfdnpmajkhokaaGreatWkAd
namespace Go.Proofs.YtcfdnpmajkhokaaGreat
open Go Go.Wk Go.RowKit
set_option maxRecDepth 4000
set_option maxHeartbeats 4000000
open Tryz
theorem mxo : Tryz.prog.follows .mixedOrders = true := by kernel_rfl
theorem fo_24_0 : FieldOff Tryz.prog 24 0 0 := by have h := FieldOff.mk (k := 0) underlying24 rfl sizeOf22; exact h
theorem fo_28_0 : FieldOff Tryz.prog 28 0 0 := by have h := FieldOff.mk (k := 0) underlying28 rfl sizeOf26; exact h
theorem fo_44_0 : FieldOff Tryz.prog 44 0 0 := by have h := FieldOff.mk (k := 0) underlying44 rfl sizeOf3; exact h
theorem fo_44_1 : FieldOff Tryz.prog 44 1 1 := by have h := FieldOff.mk (k := 1) underlying44 rfl sizeOf3; exact h
theorem fo_44_2 : FieldOff Tryz.prog 44 2 2 := by have h := FieldOff.mk (k := 2) underlying44 rfl sizeOf42; exact h
theorem fo_59_0 : FieldOff Tryz.prog 59 0 0 := by have h := FieldOff.mk (k := 0) underlying59 rfl sizeOf55; exact h
theorem fo_59_1 : FieldOff Tryz.prog 59 1 1 := by have h := FieldOff.mk (k := 1) underlying59 rfl sizeOf56; exact h
theorem fo_59_2 : FieldOff Tryz.prog 59 2 2 := by have h := FieldOff.mk (k := 2) underlying59 rfl sizeOf3; exact h
theorem fo_59_3 : FieldOff Tryz.prog 59 3 3 := by have h := FieldOff.mk (k := 3) underlying59 rfl sizeOf3; exact h
theorem fo_59_4 : FieldOff Tryz.prog 59 4 4 := by have h := FieldOff.mk (k := 4) underlying59 rfl sizeOf57; exact h
theorem fo_61_0 : FieldOff Tryz.prog 61 0 0 := by have h := FieldOff.mk (k := 0) underlying61 rfl sizeOf3; exact h
theorem fo_61_1 : FieldOff Tryz.prog 61 1 1 := by have h := FieldOff.mk (k := 1) underlying61 rfl sizeOf3; exact h
theorem fo_61_2 : FieldOff Tryz.prog 61 2 2 := by have h := FieldOff.mk (k := 2) underlying61 rfl sizeOf57; exact h
theorem fo_61_3 : FieldOff Tryz.prog 61 3 3 := by have h := FieldOff.mk (k := 3) underlying61 rfl sizeOf3; exact h
theorem fo_82_0 : FieldOff Tryz.prog 82 0 0 := by have h := FieldOff.mk (k := 0) underlying82 rfl sizeOf3; exact h
theorem fo_82_1 : FieldOff Tryz.prog 82 1 1 := by have h := FieldOff.mk (k := 1) underlying82 rfl sizeOf3; exact h
theorem fo_82_2 : FieldOff Tryz.prog 82 2 2 := by have h := FieldOff.mk (k := 2) underlying82 rfl sizeOf80; exact h
theorem fo_87_0 : FieldOff Tryz.prog 87 0 0 := by have h := FieldOff.mk (k := 0) underlying87 rfl sizeOf3; exact h
theorem fo_87_1 : FieldOff Tryz.prog 87 1 1 := by have h := FieldOff.mk (k := 1) underlying87 rfl sizeOf57; exact h
theorem fo_178_0 : FieldOff Tryz.prog 178 0 0 := by have h := FieldOff.mk (k := 0) underlying178 rfl sizeOf175; exact h
theorem fo_178_1 : FieldOff Tryz.prog 178 1 1 := by have h := FieldOff.mk (k := 1) underlying178 rfl sizeOf176; exact h
theorem fo_178_2 : FieldOff Tryz.prog 178 2 2 := by have h := FieldOff.mk (k := 2) underlying178 rfl sizeOf3; exact h
theorem fo_178_3 : FieldOff Tryz.prog 178 3 3 := by have h := FieldOff.mk (k := 3) underlying178 rfl sizeOf3; exact h
theorem fo_178_4 : FieldOff Tryz.prog 178 4 4 := by have h := FieldOff.mk (k := 4) underlying178 rfl sizeOf57; exact h
theorem fo_258_0 : FieldOff Tryz.prog 258 0 0 := by have h := FieldOff.mk (k := 0) underlying258 rfl sizeOf3; exact h
theorem fo_258_1 : FieldOff Tryz.prog 258 1 1 := by have h := FieldOff.mk (k := 1) underlying258 rfl sizeOf57; exact h
theorem fo_260_0 : FieldOff Tryz.prog 260 0 0 := by have h := FieldOff.mk (k := 0) underlying260 rfl sizeOf3; exact h
theorem fo_260_1 : FieldOff Tryz.prog 260 1 1 := by have h := FieldOff.mk (k := 1) underlying260 rfl sizeOf3; exact h
theorem fo_260_2 : FieldOff Tryz.prog 260 2 2 := by have h := FieldOff.mk (k := 2) underlying260 rfl sizeOf57; exact h
theorem fo_260_3 : FieldOff Tryz.prog 260 3 3 := by have h := FieldOff.mk (k := 3) underlying260 rfl sizeOf3; exact h
theorem st_22 : SliceTy Tryz.prog 22 82 3 := ⟨underlying22, sizeOf82⟩
theorem st_26 : SliceTy Tryz.prog 26 44 3 := ⟨underlying26, sizeOf44⟩
theorem st_42 : SliceTy Tryz.prog 42 59 5 := ⟨underlying42, sizeOf59⟩
theorem st_55 : SliceTy Tryz.prog 55 87 2 := ⟨underlying55, sizeOf87⟩
theorem st_56 : SliceTy Tryz.prog 56 61 4 := ⟨underlying56, sizeOf61⟩
theorem st_57 : SliceTy Tryz.prog 57 3 1 := ⟨underlying57, sizeOf3⟩
theorem st_64 : SliceTy Tryz.prog 64 57 1 := ⟨underlying64, sizeOf57⟩
theorem st_80 : SliceTy Tryz.prog 80 178 5 := ⟨underlying80, sizeOf178⟩
theorem st_105 : SliceTy Tryz.prog 105 122 1 := ⟨underlying105, sizeOf122⟩
theorem st_122 : SliceTy Tryz.prog 122 123 1 := ⟨underlying122, sizeOf123⟩
theorem st_175 : SliceTy Tryz.prog 175 258 2 := ⟨underlying175, sizeOf258⟩
theorem st_176 : SliceTy Tryz.prog 176 260 4 := ⟨underlying176, sizeOf260⟩
theorem et_26 : ElemTy Tryz.prog 26 44 3 (.agg #[(.int .i64 (0)), (.int .i64 (0)), (.slice none 0 0)]) := ⟨underlying26, ⟨_, (by kernel_rfl : Tryz.prog.info? 44 = some t44), rfl, by decide, rfl⟩, rfl, by decide⟩
theorem et_42 : ElemTy Tryz.prog 42 59 5 (.agg #[(.slice none 0 0), (.slice none 0 0), (.int .i64 (0)), (.int .i64 (0)), (.slice none 0 0)]) := ⟨underlying42, ⟨_, (by kernel_rfl : Tryz.prog.info? 59 = some t59), rfl, by decide, rfl⟩, rfl, by decide⟩
theorem et_55 : ElemTy Tryz.prog 55 87 2 (.agg #[(.int .i64 (0)), (.slice none 0 0)]) := ⟨underlying55, ⟨_, (by kernel_rfl : Tryz.prog.info? 87 = some t87), rfl, by decide, rfl⟩, rfl, by decide⟩
theorem et_56 : ElemTy Tryz.prog 56 61 4 (.agg #[(.int .i64 (0)), (.int .i64 (0)), (.slice none 0 0), (.int .i64 (0))]) := ⟨underlying56, ⟨_, (by kernel_rfl : Tryz.prog.info? 61 = some t61), rfl, by decide, rfl⟩, rfl, by decide⟩
theorem et_57 : ElemTy Tryz.prog 57 3 1 (.int .i64 (0)) := ⟨underlying57, ⟨_, (by kernel_rfl : Tryz.prog.info? 3 = some t3), rfl, by decide, rfl⟩, rfl, by decide⟩
theorem et_64 : ElemTy Tryz.prog 64 57 1 (.slice none 0 0) := ⟨underlying64, ⟨_, (by kernel_rfl : Tryz.prog.info? 57 = some t57), rfl, by decide, rfl⟩, rfl, by decide⟩
theorem et_105 : ElemTy Tryz.prog 105 122 1 (.slice none 0 0) := ⟨underlying105, ⟨_, (by kernel_rfl : Tryz.prog.info? 122 = some t122), rfl, by decide, rfl⟩, rfl, by decide⟩
theorem et_122 : ElemTy Tryz.prog 122 123 1 (.map none) := ⟨underlying122, ⟨_, (by kernel_rfl : Tryz.prog.info? 123 = some t123), rfl, by decide, rfl⟩, rfl, by decide⟩
theorem laws_szIntS_ok (w0 : World) (a_ : List Int) (v1 : Value) (h1 : GT.rep (hp w0) [v1] a_) (left : Int) :
    ConM Tryz.prog 247 [v1, (nV left)] w0 (laws_szIntS a_ left) fun r v w' => v = (nV r) ∧ Below w0.heap.size w0 w' := by
  unfold laws_szIntS
  refine gcon func247 rfl fun r => ?_
  have hm := Mem.start w0
  refine gS (gR (gA rfl (gE (gS (gR (gM rfl (gM rfl ?_)))))))
  obtain ⟨aB, aC, rfl, aD⟩ := ro_slice h1
  refine gY (yV st_57 rfl) (gB rfl (gA rfl (gE (gS (gS (gR (gM rfl (gB rfl (gE (gsd 10 rfl (fun aA => ?_) fun aA => ?_))))))))))
  ·
   exact gct rfl (gS (gR (gA rfl (gE (gRt (gr1 results247 rfl ⟨rfl, hm.below⟩))))))
  exact gcf rfl (gSk (gS (gR (gM rfl (gA rfl (gE (gRt (gr1 results247 rfl ⟨rfl, hm.below⟩))))))))
theorem laws_szPhi_ok (w0 : World) (a_ : Phi_) (v1 : Value) (h1 : GT.rep (hp w0) [v1] a_.args) (left : Int) :
    ConM Tryz.prog 283 [(.agg #[(nV a_.to), v1]), (nV left)] w0 (laws_szPhi a_ left) fun r v w' => v = (nV r) ∧ Below w0.heap.size w0 w' := by
  unfold laws_szPhi
  refine gcon func283 rfl fun r => ?_
  have hm := Mem.start w0
  refine gS (gR (gBx hm rfl fun aB w hm => gA rfl (gE (gS (gR (gF fo_258_1 rfl (gL hm 0 isAgg57 rfl (gM rfl (gC hm rfl call247 (laws_szIntS_ok _ a_.args v1 (hm.now h1) left) fun aC aD w hm => gA rfl (gE (gS (gS (gR (gM rfl (gB rfl (gE (gsd 10 rfl (fun aA => ?_) fun aA => ?_)))))))))))))))))
  ·
   exact gct rfl (gS (gR (gA rfl (gE (gRt (gr1 results283 rfl ⟨rfl, hm.below⟩))))))
  exact gcf rfl (gSk (gS (gR (gM rfl (gA rfl (gE (gRt (gr1 results283 rfl ⟨rfl, hm.below⟩))))))))
theorem laws_szPhiS_ok (w0 : World) (a_ : List Phi_) (v1 : Value) (h1 : GT.rep (hp w0) [v1] a_) (left : Int) :
    ConM Tryz.prog 245 [v1, (nV left)] w0 (laws_szPhiS a_ left) fun r v w' => v = (nV r) ∧ Below w0.heap.size w0 w' := by
  unfold laws_szPhiS
  refine gcon func245 rfl fun r => ?_
  have hm := Mem.start w0
  refine gS (gR (gA rfl (gE (gS (gR (gM rfl (gM rfl ?_)))))))
  obtain ⟨aD, aE, rfl, aO⟩ := ro_slice h1
  refine gY (yV st_175 rfl) (gB rfl (gA rfl (gE (gS (gS (gR (gM rfl (gB rfl (gE (gsd 11 rfl (fun aF => ?_) fun aF => ?_))))))))))
  ·
   exact gct rfl (gS (gR (gA rfl (gE (gRt (gr1 results245 rfl ⟨rfl, hm.below⟩))))))
  refine gcf rfl (gSk (gS (gS (gR (gA rfl (gE (gBk (gNg (fun aC aA a w => 0 ≤ aA ∧ St 27 [(0, (.slice aD a_.length aE)), (1, (nV aA)), (5, (nV aC))] w0 (hp w0) [] a w) (fun a hf => ⟨(by first | omega | (dsimp only; omega)), hf.sb rfl, hm.pk [] rfl rfl⟩) ?_ ?_))))))))
  ·
   repeat clear hm
   rintro aP aG aC aA a w ⟨aQ, hf, hm⟩ aR aS aT aH
   refine gv hf (gS (gS (gR (gM rfl (gM rfl (gY (yV st_175 rfl) (gB rfl (gE (go _ 15 rfl (decide_eq_true (by omega)) (gct rfl (gSk (gS (gBk (gS (gR (gM rfl (gM rfl (gg fun aI aJ aB => ?_))))))))))))))))))
   obtain ⟨aV, aW, aX, he⟩ := idx_form' h1 aB
   obtain ⟨rfl, _, rfl⟩ := sl3 he
   obtain ⟨aK, aL, aM⟩ := rk_Phi_ h1 aB
   refine gI st_175 aJ (idx_lt aB) rfl (gY (yn (aL.mono hm.lez) isAgg258 sizeOf258 rfl) (gM rfl (gC hm rfl call283 (laws_szPhi_ok _ aI aK (hm.now aM) aA) fun aY aZ w hm => gA rfl (gE (gS (gR (gM rfl (gB rfl (gE (gsd 25 rfl (fun aN => ?_) fun aN => ?_))))))))))
   ·
    exact gct rfl (gS (gR (gA rfl (gE (gRt (gLr aH aG (gr1 results245 rfl ⟨rfl, hm.below⟩)))))))
   exact gcf rfl (gSk (gR (gM rfl (gP (by omega) (by omega) rfl (gA rfl (gE (gZe fun a hf => ⟨(by first | omega | (dsimp only; omega)), hf.sb rfl, hm.pk [] rfl rfl⟩)))))))
  repeat clear hm
  rintro aa ab a w ⟨ac, hf, hm⟩ ae af
  exact gv hf (gS (gS (gR (gM rfl (gM rfl (gY (yV st_175 rfl) (gB rfl (gE (go _ 15 rfl (decide_eq_false (by omega)) (gcf rfl (gXt (gHh (gS (gR (gM rfl (gA rfl (gE (gRt (gr1 results245 rfl ⟨rfl, hm.below⟩)))))))))))))))))))
theorem laws_szIns_ok (w0 : World) (a_ : Ins_) (v1 : Value) (h1 : GT.rep (hp w0) [v1] a_.args) (left : Int) :
    ConM Tryz.prog 284 [(.agg #[(nV a_.op), (nV a_.to), v1, (nV a_.n_)]), (nV left)] w0 (laws_szIns a_ left) fun r v w' => v = (nV r) ∧ Below w0.heap.size w0 w' := by
  unfold laws_szIns
  refine gcon func284 rfl fun r => ?_
  have hm := Mem.start w0
  refine gS (gR (gBx hm rfl fun aB w hm => gA rfl (gE (gS (gR (gF fo_260_2 rfl (gL hm 0 isAgg57 rfl (gM rfl (gC hm rfl call247 (laws_szIntS_ok _ a_.args v1 (hm.now h1) left) fun aC aD w hm => gA rfl (gE (gS (gS (gR (gM rfl (gB rfl (gE (gsd 10 rfl (fun aA => ?_) fun aA => ?_)))))))))))))))))
  ·
   exact gct rfl (gS (gR (gA rfl (gE (gRt (gr1 results284 rfl ⟨rfl, hm.below⟩))))))
  exact gcf rfl (gSk (gS (gR (gM rfl (gA rfl (gE (gRt (gr1 results284 rfl ⟨rfl, hm.below⟩))))))))
theorem laws_szInsS_ok (w0 : World) (a_ : List Ins_) (v1 : Value) (h1 : GT.rep (hp w0) [v1] a_) (left : Int) :
    ConM Tryz.prog 246 [v1, (nV left)] w0 (laws_szInsS a_ left) fun r v w' => v = (nV r) ∧ Below w0.heap.size w0 w' := by
  unfold laws_szInsS
  refine gcon func246 rfl fun r => ?_
  have hm := Mem.start w0
  refine gS (gR (gA rfl (gE (gS (gR (gM rfl (gM rfl ?_)))))))
  obtain ⟨aD, aE, rfl, aO⟩ := ro_slice h1
  refine gY (yV st_176 rfl) (gB rfl (gA rfl (gE (gS (gS (gR (gM rfl (gB rfl (gE (gsd 11 rfl (fun aF => ?_) fun aF => ?_))))))))))
  ·
   exact gct rfl (gS (gR (gA rfl (gE (gRt (gr1 results246 rfl ⟨rfl, hm.below⟩))))))
  refine gcf rfl (gSk (gS (gS (gR (gA rfl (gE (gBk (gNg (fun aC aA a w => 0 ≤ aA ∧ St 27 [(0, (.slice aD a_.length aE)), (1, (nV aA)), (5, (nV aC))] w0 (hp w0) [] a w) (fun a hf => ⟨(by first | omega | (dsimp only; omega)), hf.sb rfl, hm.pk [] rfl rfl⟩) ?_ ?_))))))))
  ·
   repeat clear hm
   rintro aP aG aC aA a w ⟨aQ, hf, hm⟩ aR aS aT aH
   refine gv hf (gS (gS (gR (gM rfl (gM rfl (gY (yV st_176 rfl) (gB rfl (gE (go _ 15 rfl (decide_eq_true (by omega)) (gct rfl (gSk (gS (gBk (gS (gR (gM rfl (gM rfl (gg fun aI aJ aB => ?_))))))))))))))))))
   obtain ⟨aV, aW, aX, he⟩ := idx_form' h1 aB
   obtain ⟨rfl, _, rfl⟩ := sl3 he
   obtain ⟨aK, aL, aM⟩ := rk_Ins_ h1 aB
   refine gI st_176 aJ (idx_lt aB) rfl (gY (yn (aL.mono hm.lez) isAgg260 sizeOf260 rfl) (gM rfl (gC hm rfl call284 (laws_szIns_ok _ aI aK (hm.now aM) aA) fun aY aZ w hm => gA rfl (gE (gS (gR (gM rfl (gB rfl (gE (gsd 25 rfl (fun aN => ?_) fun aN => ?_))))))))))
   ·
    exact gct rfl (gS (gR (gA rfl (gE (gRt (gLr aH aG (gr1 results246 rfl ⟨rfl, hm.below⟩)))))))
   exact gcf rfl (gSk (gR (gM rfl (gP (by omega) (by omega) rfl (gA rfl (gE (gZe fun a hf => ⟨(by first | omega | (dsimp only; omega)), hf.sb rfl, hm.pk [] rfl rfl⟩)))))))
  repeat clear hm
  rintro aa ab a w ⟨ac, hf, hm⟩ ae af
  exact gv hf (gS (gS (gR (gM rfl (gM rfl (gY (yV st_176 rfl) (gB rfl (gE (go _ 15 rfl (decide_eq_false (by omega)) (gcf rfl (gXt (gHh (gS (gR (gM rfl (gA rfl (gE (gRt (gr1 results246 rfl ⟨rfl, hm.below⟩)))))))))))))))))))
theorem laws_szBlock_ok (w0 : World) (a_ : Block_) (v1 : Value) (h1 : GT.rep (hp w0) [v1] a_.phis) (v2 : Value) (h2 : GT.rep (hp w0) [v2] a_.ins) (v3 : Value) (h3 : GT.rep (hp w0) [v3] a_.next_) (left : Int) :
    ConM Tryz.prog 185 [(.agg #[v1, v2, (nV a_.jump), (nV a_.on), v3]), (nV left)] w0 (laws_szBlock a_ left) fun r v w' => v = (nV r) ∧ Below w0.heap.size w0 w' := by
  unfold laws_szBlock
  refine gcon func185 rfl fun r => ?_
  have hm := Mem.start w0
  refine gS (gR (gBx hm rfl fun aF w hm => gA rfl (gE (gS (gR (gF fo_178_0 rfl (gL hm 0 isAgg175 rfl (gM rfl (gC hm rfl call245 (laws_szPhiS_ok _ a_.phis v1 (hm.now h1) left) fun aA aG w hm => gA rfl (gE (gS (gS (gR (gM rfl (gB rfl (gE (gsd 10 rfl (fun aB => ?_) fun aB => ?_)))))))))))))))))
  ·
   exact gct rfl (gS (gR (gA rfl (gE (gRt (gr1 results185 rfl ⟨rfl, hm.below⟩))))))
  refine gcf rfl (gSk (gS (gR (gF fo_178_1 rfl (gL hm 0 isAgg176 rfl (gM rfl (gC hm rfl call246 (laws_szInsS_ok _ a_.ins v2 (hm.now h2) aA) fun aC aH w hm => gA rfl (gE (gS (gS (gR (gM rfl (gB rfl (gE (gsd 16 rfl (fun aD => ?_) fun aD => ?_)))))))))))))))
  ·
   exact gct rfl (gS (gR (gA rfl (gE (gRt (gr1 results185 rfl ⟨rfl, hm.below⟩))))))
  refine gcf rfl (gSk (gS (gR (gF fo_178_4 rfl (gL hm 0 isAgg57 rfl (gM rfl (gC hm rfl call247 (laws_szIntS_ok _ a_.next_ v3 (hm.now h3) aC) fun aI aJ w hm => gA rfl (gE (gS (gS (gR (gM rfl (gB rfl (gE (gsd 22 rfl (fun aE => ?_) fun aE => ?_)))))))))))))))
  ·
   exact gct rfl (gS (gR (gA rfl (gE (gRt (gr1 results185 rfl ⟨rfl, hm.below⟩))))))
  exact gcf rfl (gSk (gS (gR (gM rfl (gA rfl (gE (gRt (gr1 results185 rfl ⟨rfl, hm.below⟩))))))))
theorem laws_szBlockS_ok (w0 : World) (a_ : List Block_) (v1 : Value) (h1 : GT.rep (hp w0) [v1] a_) (left : Int) :
    ConM Tryz.prog 112 [v1, (nV left)] w0 (laws_szBlockS a_ left) fun r v w' => v = (nV r) ∧ Below w0.heap.size w0 w' := by
  unfold laws_szBlockS
  refine gcon func112 rfl fun r => ?_
  have hm := Mem.start w0
  refine gS (gR (gA rfl (gE (gS (gR (gM rfl (gM rfl ?_)))))))
  obtain ⟨aD, aE, rfl, aS⟩ := ro_slice h1
  refine gY (yV st_80 rfl) (gB rfl (gA rfl (gE (gS (gS (gR (gM rfl (gB rfl (gE (gsd 11 rfl (fun aF => ?_) fun aF => ?_))))))))))
  ·
   exact gct rfl (gS (gR (gA rfl (gE (gRt (gr1 results112 rfl ⟨rfl, hm.below⟩))))))
  refine gcf rfl (gSk (gS (gS (gR (gA rfl (gE (gBk (gNg (fun aC aA a w => 0 ≤ aA ∧ St 27 [(0, (.slice aD a_.length aE)), (1, (nV aA)), (5, (nV aC))] w0 (hp w0) [] a w) (fun a hf => ⟨(by first | omega | (dsimp only; omega)), hf.sb rfl, hm.pk [] rfl rfl⟩) ?_ ?_))))))))
  ·
   repeat clear hm
   rintro aT aG aC aA a w ⟨aV, hf, hm⟩ aW aX aY aH
   refine gv hf (gS (gS (gR (gM rfl (gM rfl (gY (yV st_80 rfl) (gB rfl (gE (go _ 15 rfl (decide_eq_true (by omega)) (gct rfl (gSk (gS (gBk (gS (gR (gM rfl (gM rfl (gg fun aI aJ aB => ?_))))))))))))))))))
   obtain ⟨aZ, aa, ab, he⟩ := idx_form' h1 aB
   obtain ⟨rfl, _, rfl⟩ := sl3 he
   obtain ⟨aK, aL, aM, aN, aO, aP, aQ⟩ := rk_Block_ h1 aB
   refine gI st_80 aJ (idx_lt aB) rfl (gY (yn (aN.mono hm.lez) isAgg178 sizeOf178 rfl) (gM rfl (gC hm rfl call185 (laws_szBlock_ok _ aI aK (hm.now aO) aL (hm.now aP) aM (hm.now aQ) aA) fun ac ae w hm => gA rfl (gE (gS (gR (gM rfl (gB rfl (gE (gsd 25 rfl (fun aR => ?_) fun aR => ?_))))))))))
   ·
    exact gct rfl (gS (gR (gA rfl (gE (gRt (gLr aH aG (gr1 results112 rfl ⟨rfl, hm.below⟩)))))))
   exact gcf rfl (gSk (gR (gM rfl (gP (by omega) (by omega) rfl (gA rfl (gE (gZe fun a hf => ⟨(by first | omega | (dsimp only; omega)), hf.sb rfl, hm.pk [] rfl rfl⟩)))))))
  repeat clear hm
  rintro af ag a w ⟨ah, hf, hm⟩ ai aj
  exact gv hf (gS (gS (gR (gM rfl (gM rfl (gY (yV st_80 rfl) (gB rfl (gE (go _ 15 rfl (decide_eq_false (by omega)) (gcf rfl (gXt (gHh (gS (gR (gM rfl (gA rfl (gE (gRt (gr1 results112 rfl ⟨rfl, hm.below⟩)))))))))))))))))))
theorem laws_szCode_ok (w0 : World) (a_ : Code_) (v1 : Value) (h1 : GT.rep (hp w0) [v1] a_.blocks) (left : Int) :
    ConM Tryz.prog 62 [(.agg #[(nV a_.params), (nV a_.regs), v1]), (nV left)] w0 (laws_szCode a_ left) fun r v w' => v = (nV r) ∧ Below w0.heap.size w0 w' := by
  unfold laws_szCode
  refine gcon func62 rfl fun r => ?_
  have hm := Mem.start w0
  refine gS (gR (gBx hm rfl fun aB w hm => gA rfl (gE (gS (gR (gF fo_82_2 rfl (gL hm 0 isAgg80 rfl (gM rfl (gC hm rfl call112 (laws_szBlockS_ok _ a_.blocks v1 (hm.now h1) left) fun aC aD w hm => gA rfl (gE (gS (gS (gR (gM rfl (gB rfl (gE (gsd 10 rfl (fun aA => ?_) fun aA => ?_)))))))))))))))))
  ·
   exact gct rfl (gS (gR (gA rfl (gE (gRt (gr1 results62 rfl ⟨rfl, hm.below⟩))))))
  exact gcf rfl (gSk (gS (gR (gM rfl (gA rfl (gE (gRt (gr1 results62 rfl ⟨rfl, hm.below⟩))))))))
theorem laws_szCodeS_ok (w0 : World) (a_ : List Code_) (v1 : Value) (h1 : GT.rep (hp w0) [v1] a_) (left : Int) :
    ConM Tryz.prog 26 [v1, (nV left)] w0 (laws_szCodeS a_ left) fun r v w' => v = (nV r) ∧ Below w0.heap.size w0 w' := by
  unfold laws_szCodeS
  refine gcon func26 rfl fun r => ?_
  have hm := Mem.start w0
  refine gS (gR (gA rfl (gE (gS (gR (gM rfl (gM rfl ?_)))))))
  obtain ⟨aD, aE, rfl, aO⟩ := ro_slice h1
  refine gY (yV st_22 rfl) (gB rfl (gA rfl (gE (gS (gS (gR (gM rfl (gB rfl (gE (gsd 11 rfl (fun aF => ?_) fun aF => ?_))))))))))
  ·
   exact gct rfl (gS (gR (gA rfl (gE (gRt (gr1 results26 rfl ⟨rfl, hm.below⟩))))))
  refine gcf rfl (gSk (gS (gS (gR (gA rfl (gE (gBk (gNg (fun aC aA a w => 0 ≤ aA ∧ St 27 [(0, (.slice aD a_.length aE)), (1, (nV aA)), (5, (nV aC))] w0 (hp w0) [] a w) (fun a hf => ⟨(by first | omega | (dsimp only; omega)), hf.sb rfl, hm.pk [] rfl rfl⟩) ?_ ?_))))))))
  ·
   repeat clear hm
   rintro aP aG aC aA a w ⟨aQ, hf, hm⟩ aR aS aT aH
   refine gv hf (gS (gS (gR (gM rfl (gM rfl (gY (yV st_22 rfl) (gB rfl (gE (go _ 15 rfl (decide_eq_true (by omega)) (gct rfl (gSk (gS (gBk (gS (gR (gM rfl (gM rfl (gg fun aI aJ aB => ?_))))))))))))))))))
   obtain ⟨aV, aW, aX, he⟩ := idx_form' h1 aB
   obtain ⟨rfl, _, rfl⟩ := sl3 he
   obtain ⟨aK, aL, aM⟩ := rk_Code_ h1 aB
   refine gI st_22 aJ (idx_lt aB) rfl (gY (yn (aL.mono hm.lez) isAgg82 sizeOf82 rfl) (gM rfl (gC hm rfl call62 (laws_szCode_ok _ aI aK (hm.now aM) aA) fun aY aZ w hm => gA rfl (gE (gS (gR (gM rfl (gB rfl (gE (gsd 25 rfl (fun aN => ?_) fun aN => ?_))))))))))
   ·
    exact gct rfl (gS (gR (gA rfl (gE (gRt (gLr aH aG (gr1 results26 rfl ⟨rfl, hm.below⟩)))))))
   exact gcf rfl (gSk (gR (gM rfl (gP (by omega) (by omega) rfl (gA rfl (gE (gZe fun a hf => ⟨(by first | omega | (dsimp only; omega)), hf.sb rfl, hm.pk [] rfl rfl⟩)))))))
  repeat clear hm
  rintro aa ab a w ⟨ac, hf, hm⟩ ae af
  exact gv hf (gS (gS (gR (gM rfl (gM rfl (gY (yV st_22 rfl) (gB rfl (gE (go _ 15 rfl (decide_eq_false (by omega)) (gcf rfl (gXt (gHh (gS (gR (gM rfl (gA rfl (gE (gRt (gr1 results26 rfl ⟨rfl, hm.below⟩)))))))))))))))))))
theorem laws_szUnit_ok (w0 : World) (a_ : Unit_) (v1 : Value) (h1 : GT.rep (hp w0) [v1] a_.codes) (left : Int) :
    ConM Tryz.prog 9 [(.agg #[v1]), (nV left)] w0 (laws_szUnit a_ left) fun r v w' => v = (nV r) ∧ Below w0.heap.size w0 w' := by
  unfold laws_szUnit
  refine gcon func9 rfl fun r => ?_
  have hm := Mem.start w0
  refine gS (gR (gBx hm rfl fun aB w hm => gA rfl (gE (gS (gR (gF fo_24_0 rfl (gL hm 0 isAgg22 rfl (gM rfl (gC hm rfl call26 (laws_szCodeS_ok _ a_.codes v1 (hm.now h1) left) fun aC aD w hm => gA rfl (gE (gS (gS (gR (gM rfl (gB rfl (gE (gsd 10 rfl (fun aA => ?_) fun aA => ?_)))))))))))))))))
  ·
   exact gct rfl (gS (gR (gA rfl (gE (gRt (gr1 results9 rfl ⟨rfl, hm.below⟩))))))
  exact gcf rfl (gSk (gS (gR (gM rfl (gA rfl (gE (gRt (gr1 results9 rfl ⟨rfl, hm.below⟩))))))))
theorem laws_toIntS_ok (w0 : World) (a_ : List Int) (v1 : Value) (h1 : GT.rep (hp w0) [v1] a_) :
    ConM Tryz.prog 250 [v1] w0 (laws_toIntS a_) fun r v w' => ∃ (x1 : Value), v = x1 ∧ Mem w0 (hp w0) w' [ow [x1] r] := by
  unfold laws_toIntS
  refine gcon func250 rfl fun r => ?_
  have hm := Mem.start w0
  refine gS (gR (gA rfl (gE (gS (gR (gM rfl ?_))))))
  obtain ⟨aJ, aK, rfl, aQ⟩ := ro_slice h1
  refine gY (yV st_57 rfl) (gb fun aA aL => ?_)
  obtain ⟨⟨aM, aN⟩, aI⟩ := makeM_some.1 aL
  refine gf rfl (fun a hf => e_make (x0 := (0 : Int)) et_57 (fun _ => (Flat.own_iff.2 rfl)) hf hm rfl rfl rfl aM (Int.le_refl _) aN) ?_
  rintro aR w hm
  rw [aI] at hm
  have h0_1l : (aA.length : Int) = (a_.length : Int) := by rw [← aI]; simp only [List.length_replicate]; omega
  refine gA rfl (gE (gS (gS (gR (gA rfl (gE ?_))))))
  obtain ⟨aD, aE, rfl, aS⟩ := ro_slice (hm.ow_rep 0 rfl)
  refine gBk (gNf hm (fun aF aG => [(0, (.slice aJ a_.length aK)), (3, (.slice aD aA.length aE)), (4, (nV aF))]) (fun aF aG => [ow [(.slice aD aA.length aE)] aG]) [0] rfl ?_ ?_)
  ·
   repeat clear hm
   intro _ _ aF aG w hm aT aV aW _
   refine gS (gS (gR (gM rfl (gM rfl (gY (yV st_57 rfl) (gB rfl (gE (go _ 11 rfl (decide_eq_true (by omega)) (gct rfl (gSk (gS (gBk (gR (gM rfl (gM rfl (gM rfl (gM rfl (gg fun aB aO aH => ?_))))))))))))))))))
   obtain ⟨aX, aY, aZ, he⟩ := idx_form h1 aH
   obtain ⟨rfl, _, rfl⟩ := sl3 he
   refine gI st_57 aO (idx_lt aH) rfl (gY (yl isAgg3 ((flat_cells (cs := [(nV aB)]) (hm.now h1) aH rfl).cell (j := 0) rfl) rfl) (gg fun aa aP aC => ?_))
   obtain ⟨ab, ac, ae, he⟩ := idx_form (hm.ow_rep 0 rfl) aC
   obtain ⟨rfl, _, rfl⟩ := sl3 he
   have hL1_1 := rep_slice_len (hm.ow_rep 0 rfl)
   refine gI st_57 aP (idx_lt2 aC hL1_1) rfl (gf0 rfl (fun a hf => e_setElem (x1 := aB) (j := 0) (vs := [(nV aB)]) 0 hf hm rfl aC rfl sizeOf3 rfl rfl rfl (one_cons rfl one_nil) rfl rfl) ?_)
   rintro _ w hm
   have af := List.getElem?_set_self (a := aB) (idx_lt aC)
   exact gE (gR (gM rfl (gP (by omega) (by omega) rfl (gA rfl (gE (gze hm [0] rfl))))))
  repeat clear hm
  intro ag ah w hm ai aj
  exact gS (gS (gR (gM rfl (gM rfl (gY (yV st_57 rfl) (gB rfl (gE (go _ 11 rfl (decide_eq_false (by omega)) (gcf rfl (gXt (gHh (gS (gR (gM rfl (gA rfl (gE (gRt (gr1 results250 rfl ⟨(.slice aD aA.length aE), rfl, hm.pk [0] rfl rfl⟩))))))))))))))))))
theorem laws_toPhi_ok (w0 : World) (a_ : Phi_) (v1 : Value) (h1 : GT.rep (hp w0) [v1] a_.args) :
    ConM Tryz.prog 285 [(.agg #[(nV a_.to), v1])] w0 (laws_toPhi a_) fun r v w' => ∃ (x1 : Value), v = (.agg #[(nV r.to), x1]) ∧ Mem w0 (hp w0) w' [ow [x1] r.args] := by
  unfold laws_toPhi
  refine gcon func285 rfl fun r => ?_
  have hm := Mem.start w0
  refine gS (gR (gBx hm rfl fun aB w hm => gAl hm zeroValue87 rfl fun aC w hm => gE (gS (gR (gAl hm zeroValue87 rfl fun aD w hm => gE (gS (gR (gF fo_258_0 rfl (gL hm 2 isAgg3 rfl (gF fo_87_0 rfl (gS1 hm 0 sizeOf3 rfl rfl fun w hm => gE (gS (gR (gF fo_258_1 rfl (gL hm 2 isAgg57 rfl (gCg rfl call250 (laws_toIntS_ok _ a_.args v1 (hm.now h1)) ?_))))))))))))))))
  rintro aE aF aA w ⟨_, rfl, hB⟩
  replace hm := hm.give hB; clear hB
  exact gF fo_87_1 rfl (gS1 hm 1 sizeOf57 (rep_one (hm.ow_rep 0 rfl)) rfl fun w hm => gE (gS (gR (gY (yn (hm.blk_at 1 rfl) isAgg87 sizeOf87 rfl) (gSN hm 2 sizeOf87 (one_cons rfl (one_cons (rep_one (hm.ow_rep 0 rfl)) one_nil)) rfl fun w hm => gE (gRt (grc 2 results285 hm rfl isAgg87 sizeOf87 ⟨aA, rfl, hm.pk [0] rfl rfl⟩)))))))
theorem laws_toPhiS_ok (w0 : World) (a_ : List Phi_) (v1 : Value) (h1 : GT.rep (hp w0) [v1] a_) :
    ConM Tryz.prog 248 [v1] w0 (laws_toPhiS a_) fun r v w' => ∃ (x1 : Value), v = x1 ∧ Mem w0 (hp w0) w' [ow [x1] r] := by
  unfold laws_toPhiS
  refine gcon func248 rfl fun r => ?_
  have hm := Mem.start w0
  refine gS (gR (gA rfl (gE (gS (gR (gM rfl ?_))))))
  obtain ⟨aM, aN, rfl, aY⟩ := ro_slice h1
  refine gY (yV st_175 rfl) (gb fun aB aO => ?_)
  obtain ⟨⟨aP, aQ⟩, aJ⟩ := makeM_some.1 aO
  refine gf rfl (fun a hf => e_make (x0 := ((⟨0, []⟩ : Phi_) : Phi_)) et_55 (fun _ => ⟨[(nV 0)], [(.slice none 0 0)], rfl, fun _ => False, fun _ => False, fun _ h => h.elim, fun _ h => h.elim, fun _ h => h.elim, (Flat.own_iff.2 rfl), (own_list.2 (.inl ⟨rfl, rfl⟩))⟩) hf hm rfl rfl rfl aP (Int.le_refl _) aQ) ?_
  rintro aZ w hm
  rw [aJ] at hm
  have h0_1l : (aB.length : Int) = (a_.length : Int) := by rw [← aJ]; simp only [List.length_replicate]; omega
  refine gA rfl (gE (gS (gS (gR (gA rfl (gE ?_))))))
  obtain ⟨aF, aC, rfl, aa⟩ := ro_slice (hm.ow_rep 0 rfl)
  refine gBk (gNf hm (fun aG aD => [(0, (.slice aM a_.length aN)), (3, (.slice aF aB.length aC)), (4, (nV aG))]) (fun aG aD => [ow [(.slice aF aB.length aC)] aD]) [0] rfl ?_ ?_)
  ·
   repeat clear hm
   intro _ _ aG aD w hm ab ac ae _
   refine gS (gS (gR (gM rfl (gM rfl (gY (yV st_175 rfl) (gB rfl (gE (go _ 11 rfl (decide_eq_true (by omega)) (gct rfl (gSk (gS (gBk (gR (gM rfl (gM rfl (gM rfl (gM rfl (gg fun aR aS aH => ?_))))))))))))))))))
   obtain ⟨af, ag, ah, he⟩ := idx_form' h1 aH
   obtain ⟨rfl, _, rfl⟩ := sl3 he
   obtain ⟨aT, aV, aW⟩ := rk_Phi_ h1 aH
   refine gI st_175 aS (idx_lt aH) rfl (gY (yn (aV.mono hm.lez) isAgg258 sizeOf258 rfl) (gCg rfl call285 (laws_toPhi_ok _ aR aT (hm.now aW)) ?_))
   rintro aA ai aj w ⟨aI, rfl, hB⟩
   replace hm := hm.give hB; clear hB
   refine gg fun ak aX aE => ?_
   obtain ⟨aK, aL, al, he⟩ := idx_form' (hm.ow_rep 1 rfl) aE
   obtain ⟨rfl, _, rfl⟩ := sl3 he
   obtain ⟨am, an, ao⟩ := rk_Phi_ (hm.ow_rep 1 rfl) aE
   have hL1_1 := rep_slice_len (hm.ow_rep 1 rfl)
   refine gI st_55 aX (idx_lt2 aE hL1_1) rfl ?_
   replace hm : Mem w0 (hp w0) _ [ow [(nV aA.to), aI] (aA : Phi_), ow [(sV aK aL aB.length aC)] aD] := mk_Phi_ aA.to hm 0 rfl
   replace hm := (hm.both 1 0 (by decide) rfl rfl).pk (L' := [both (ow [(sV aK aL aB.length aC)] aD) (ow [(nV aA.to), aI] (aA : Phi_))]) [1] rfl rfl
   refine gf0 rfl (fun a hf => e_putElem (x1 := (aA : Phi_)) (vs := [(nV aA.to), aI]) 0 hf hm rfl aE rfl sizeOf87 rfl rfl rfl rfl) ?_
   rintro _ w hm
   have ap := List.getElem?_set_self (a := (aA : Phi_)) (idx_lt aE)
   exact gE (gR (gM rfl (gP (by omega) (by omega) rfl (gA rfl (gE (gze hm [0] rfl))))))
  repeat clear hm
  intro aq ar w hm au av
  exact gS (gS (gR (gM rfl (gM rfl (gY (yV st_175 rfl) (gB rfl (gE (go _ 11 rfl (decide_eq_false (by omega)) (gcf rfl (gXt (gHh (gS (gR (gM rfl (gA rfl (gE (gRt (gr1 results248 rfl ⟨(.slice aF aB.length aC), rfl, hm.pk [0] rfl rfl⟩))))))))))))))))))
theorem laws_toIns_ok (w0 : World) (a_ : Ins_) (v1 : Value) (h1 : GT.rep (hp w0) [v1] a_.args) :
    ConM Tryz.prog 286 [(.agg #[(nV a_.op), (nV a_.to), v1, (nV a_.n_)])] w0 (laws_toIns a_) fun r v w' => ∃ (x1 : Value), v = (.agg #[(nV r.op), (nV r.to), x1, (nV r.n_)]) ∧ Mem w0 (hp w0) w' [ow [x1] r.args] := by
  unfold laws_toIns
  refine gcon func286 rfl fun r => ?_
  have hm := Mem.start w0
  refine gS (gR (gBx hm rfl fun aB w hm => gAl hm zeroValue61 rfl fun aC w hm => gE (gS (gR (gAl hm zeroValue61 rfl fun aD w hm => gE (gS (gR (gF fo_260_0 rfl (gL hm 2 isAgg3 rfl (gF fo_61_0 rfl (gS1 hm 0 sizeOf3 rfl rfl fun w hm => gE (gS (gR (gF fo_260_1 rfl (gL hm 2 isAgg3 rfl (gF fo_61_1 rfl (gS1 hm 0 sizeOf3 rfl rfl fun w hm => gE (gS (gR (gF fo_260_2 rfl (gL hm 2 isAgg57 rfl (gCg rfl call250 (laws_toIntS_ok _ a_.args v1 (hm.now h1)) ?_))))))))))))))))))))))
  rintro aE aF aA w ⟨_, rfl, hB⟩
  replace hm := hm.give hB; clear hB
  exact gF fo_61_2 rfl (gS1 hm 1 sizeOf57 (rep_one (hm.ow_rep 0 rfl)) rfl fun w hm => gE (gS (gR (gF fo_260_3 rfl (gL hm 3 isAgg3 rfl (gF fo_61_3 rfl (gS1 hm 1 sizeOf3 rfl rfl fun w hm => gE (gS (gR (gY (yn (hm.blk_at 1 rfl) isAgg61 sizeOf61 rfl) (gSN hm 2 sizeOf61 (one_cons rfl (one_cons rfl (one_cons (rep_one (hm.ow_rep 0 rfl)) (one_cons rfl one_nil)))) rfl fun w hm => gE (gRt (grc 2 results286 hm rfl isAgg61 sizeOf61 ⟨aA, rfl, hm.pk [0] rfl rfl⟩)))))))))))))
theorem laws_toInsS_ok (w0 : World) (a_ : List Ins_) (v1 : Value) (h1 : GT.rep (hp w0) [v1] a_) :
    ConM Tryz.prog 249 [v1] w0 (laws_toInsS a_) fun r v w' => ∃ (x1 : Value), v = x1 ∧ Mem w0 (hp w0) w' [ow [x1] r] := by
  unfold laws_toInsS
  refine gcon func249 rfl fun r => ?_
  have hm := Mem.start w0
  refine gS (gR (gA rfl (gE (gS (gR (gM rfl ?_))))))
  obtain ⟨aM, aN, rfl, aY⟩ := ro_slice h1
  refine gY (yV st_176 rfl) (gb fun aB aO => ?_)
  obtain ⟨⟨aP, aQ⟩, aJ⟩ := makeM_some.1 aO
  refine gf rfl (fun a hf => e_make (x0 := ((⟨0, 0, [], 0⟩ : Ins_) : Ins_)) et_56 (fun _ => ⟨[(nV 0)], [(nV 0), (.slice none 0 0), (nV 0)], rfl, fun _ => False, fun _ => False, fun _ h => h.elim, fun _ h => h.elim, fun _ h => h.elim, (Flat.own_iff.2 rfl), ⟨[(nV 0)], [(.slice none 0 0), (nV 0)], rfl, fun _ => False, fun _ => False, fun _ h => h.elim, fun _ h => h.elim, fun _ h => h.elim, (Flat.own_iff.2 rfl), ⟨[(.slice none 0 0)], [(nV 0)], rfl, fun _ => False, fun _ => False, fun _ h => h.elim, fun _ h => h.elim, fun _ h => h.elim, (own_list.2 (.inl ⟨rfl, rfl⟩)), (Flat.own_iff.2 rfl)⟩⟩⟩) hf hm rfl rfl rfl aP (Int.le_refl _) aQ) ?_
  rintro aZ w hm
  rw [aJ] at hm
  have h0_1l : (aB.length : Int) = (a_.length : Int) := by rw [← aJ]; simp only [List.length_replicate]; omega
  refine gA rfl (gE (gS (gS (gR (gA rfl (gE ?_))))))
  obtain ⟨aF, aC, rfl, aa⟩ := ro_slice (hm.ow_rep 0 rfl)
  refine gBk (gNf hm (fun aG aD => [(0, (.slice aM a_.length aN)), (3, (.slice aF aB.length aC)), (4, (nV aG))]) (fun aG aD => [ow [(.slice aF aB.length aC)] aD]) [0] rfl ?_ ?_)
  ·
   repeat clear hm
   intro _ _ aG aD w hm ab ac ae _
   refine gS (gS (gR (gM rfl (gM rfl (gY (yV st_176 rfl) (gB rfl (gE (go _ 11 rfl (decide_eq_true (by omega)) (gct rfl (gSk (gS (gBk (gR (gM rfl (gM rfl (gM rfl (gM rfl (gg fun aR aS aH => ?_))))))))))))))))))
   obtain ⟨af, ag, ah, he⟩ := idx_form' h1 aH
   obtain ⟨rfl, _, rfl⟩ := sl3 he
   obtain ⟨aT, aV, aW⟩ := rk_Ins_ h1 aH
   refine gI st_176 aS (idx_lt aH) rfl (gY (yn (aV.mono hm.lez) isAgg260 sizeOf260 rfl) (gCg rfl call286 (laws_toIns_ok _ aR aT (hm.now aW)) ?_))
   rintro aA ai aj w ⟨aI, rfl, hB⟩
   replace hm := hm.give hB; clear hB
   refine gg fun ak aX aE => ?_
   obtain ⟨aK, aL, al, he⟩ := idx_form' (hm.ow_rep 1 rfl) aE
   obtain ⟨rfl, _, rfl⟩ := sl3 he
   obtain ⟨am, an, ao⟩ := rk_Ins_ (hm.ow_rep 1 rfl) aE
   have hL1_1 := rep_slice_len (hm.ow_rep 1 rfl)
   refine gI st_56 aX (idx_lt2 aE hL1_1) rfl ?_
   replace hm : Mem w0 (hp w0) _ [ow [(nV aA.op), (nV aA.to), aI, (nV aA.n_)] (aA : Ins_), ow [(sV aK aL aB.length aC)] aD] := mk_Ins_ aA.op aA.to aA.n_ hm 0 rfl
   replace hm := (hm.both 1 0 (by decide) rfl rfl).pk (L' := [both (ow [(sV aK aL aB.length aC)] aD) (ow [(nV aA.op), (nV aA.to), aI, (nV aA.n_)] (aA : Ins_))]) [1] rfl rfl
   refine gf0 rfl (fun a hf => e_putElem (x1 := (aA : Ins_)) (vs := [(nV aA.op), (nV aA.to), aI, (nV aA.n_)]) 0 hf hm rfl aE rfl sizeOf61 rfl rfl rfl rfl) ?_
   rintro _ w hm
   have ap := List.getElem?_set_self (a := (aA : Ins_)) (idx_lt aE)
   exact gE (gR (gM rfl (gP (by omega) (by omega) rfl (gA rfl (gE (gze hm [0] rfl))))))
  repeat clear hm
  intro aq ar w hm au av
  exact gS (gS (gR (gM rfl (gM rfl (gY (yV st_176 rfl) (gB rfl (gE (go _ 11 rfl (decide_eq_false (by omega)) (gcf rfl (gXt (gHh (gS (gR (gM rfl (gA rfl (gE (gRt (gr1 results249 rfl ⟨(.slice aF aB.length aC), rfl, hm.pk [0] rfl rfl⟩))))))))))))))))))
theorem laws_toBlock_ok (w0 : World) (a_ : Block_) (v1 : Value) (h1 : GT.rep (hp w0) [v1] a_.phis) (v2 : Value) (h2 : GT.rep (hp w0) [v2] a_.ins) (v3 : Value) (h3 : GT.rep (hp w0) [v3] a_.next_) :
    ConM Tryz.prog 187 [(.agg #[v1, v2, (nV a_.jump), (nV a_.on), v3])] w0 (laws_toBlock a_) fun r v w' => ∃ (x1 : Value) (x2 : Value) (x3 : Value), v = (.agg #[x1, x2, (nV r.jump), (nV r.on), x3]) ∧ Mem w0 (hp w0) w' [ow [x1] r.phis, ow [x2] r.ins, ow [x3] r.next_] := by
  unfold laws_toBlock
  refine gcon func187 rfl fun r => ?_
  have hm := Mem.start w0
  refine gS (gR (gBx hm rfl fun aD w hm => gAl hm zeroValue59 rfl fun aE w hm => gE (gS (gR (gAl hm zeroValue59 rfl fun aF w hm => gE (gS (gR (gF fo_178_0 rfl (gL hm 2 isAgg175 rfl (gCg rfl call248 (laws_toPhiS_ok _ a_.phis v1 (hm.now h1)) ?_))))))))))
  rintro aG aH aA w ⟨_, rfl, hB⟩
  replace hm := hm.give hB; clear hB
  refine gF fo_59_0 rfl (gS1 hm 1 sizeOf55 (rep_one (hm.ow_rep 0 rfl)) rfl fun w hm => gE (gS (gR (gF fo_178_1 rfl (gL hm 3 isAgg176 rfl (gCg rfl call249 (laws_toInsS_ok _ a_.ins v2 (hm.now h2)) ?_))))))
  rintro aI aJ aB w ⟨_, rfl, hB⟩
  replace hm := hm.give hB; clear hB
  refine gF fo_59_1 rfl (gS1 hm 2 sizeOf56 (rep_one (hm.ow_rep 0 rfl)) rfl fun w hm => gE (gS (gR (gF fo_178_2 rfl (gL hm 4 isAgg3 rfl (gF fo_59_2 rfl (gS1 hm 2 sizeOf3 rfl rfl fun w hm => gE (gS (gR (gF fo_178_3 rfl (gL hm 4 isAgg3 rfl (gF fo_59_3 rfl (gS1 hm 2 sizeOf3 rfl rfl fun w hm => gE (gS (gR (gF fo_178_4 rfl (gL hm 4 isAgg57 rfl (gCg rfl call250 (laws_toIntS_ok _ a_.next_ v3 (hm.now h3)) ?_))))))))))))))))))
  rintro aK aL aC w ⟨_, rfl, hB⟩
  replace hm := hm.give hB; clear hB
  exact gF fo_59_4 rfl (gS1 hm 3 sizeOf57 (rep_one (hm.ow_rep 0 rfl)) rfl fun w hm => gE (gS (gR (gY (yn (hm.blk_at 3 rfl) isAgg59 sizeOf59 rfl) (gSN hm 4 sizeOf59 (one_cons (rep_one (hm.ow_rep 2 rfl)) (one_cons (rep_one (hm.ow_rep 1 rfl)) (one_cons rfl (one_cons rfl (one_cons (rep_one (hm.ow_rep 0 rfl)) one_nil))))) rfl fun w hm => gE (gRt (grc 4 results187 hm rfl isAgg59 sizeOf59 ⟨aA, aB, aC, rfl, hm.pk [2, 1, 0] rfl rfl⟩)))))))
theorem laws_toBlockS_ok (w0 : World) (a_ : List Block_) (v1 : Value) (h1 : GT.rep (hp w0) [v1] a_) :
    ConM Tryz.prog 120 [v1] w0 (laws_toBlockS a_) fun r v w' => ∃ (x1 : Value), v = x1 ∧ Mem w0 (hp w0) w' [ow [x1] r] := by
  unfold laws_toBlockS
  refine gcon func120 rfl fun r => ?_
  have hm := Mem.start w0
  refine gS (gR (gA rfl (gE (gS (gR (gM rfl ?_))))))
  obtain ⟨aO, aP, rfl, af⟩ := ro_slice h1
  refine gY (yV st_80 rfl) (gb fun aB aQ => ?_)
  obtain ⟨⟨aR, aS⟩, aL⟩ := makeM_some.1 aQ
  refine gf rfl (fun a hf => e_make (x0 := ((⟨[], [], 0, 0, []⟩ : Block_) : Block_)) et_42 (fun _ => ⟨[(.slice none 0 0)], [(.slice none 0 0), (nV 0), (nV 0), (.slice none 0 0)], rfl, fun _ => False, fun _ => False, fun _ h => h.elim, fun _ h => h.elim, fun _ h => h.elim, (own_list.2 (.inl ⟨rfl, rfl⟩)), ⟨[(.slice none 0 0)], [(nV 0), (nV 0), (.slice none 0 0)], rfl, fun _ => False, fun _ => False, fun _ h => h.elim, fun _ h => h.elim, fun _ h => h.elim, (own_list.2 (.inl ⟨rfl, rfl⟩)), ⟨[(nV 0)], [(nV 0), (.slice none 0 0)], rfl, fun _ => False, fun _ => False, fun _ h => h.elim, fun _ h => h.elim, fun _ h => h.elim, (Flat.own_iff.2 rfl), ⟨[(nV 0)], [(.slice none 0 0)], rfl, fun _ => False, fun _ => False, fun _ h => h.elim, fun _ h => h.elim, fun _ h => h.elim, (Flat.own_iff.2 rfl), (own_list.2 (.inl ⟨rfl, rfl⟩))⟩⟩⟩⟩) hf hm rfl rfl rfl aR (Int.le_refl _) aS) ?_
  rintro ag w hm
  rw [aL] at hm
  have h0_1l : (aB.length : Int) = (a_.length : Int) := by rw [← aL]; simp only [List.length_replicate]; omega
  refine gA rfl (gE (gS (gS (gR (gA rfl (gE ?_))))))
  obtain ⟨aF, aC, rfl, ah⟩ := ro_slice (hm.ow_rep 0 rfl)
  refine gBk (gNf hm (fun aG aD => [(0, (.slice aO a_.length aP)), (3, (.slice aF aB.length aC)), (4, (nV aG))]) (fun aG aD => [ow [(.slice aF aB.length aC)] aD]) [0] rfl ?_ ?_)
  ·
   repeat clear hm
   intro _ _ aG aD w hm ai aj ak _
   refine gS (gS (gR (gM rfl (gM rfl (gY (yV st_80 rfl) (gB rfl (gE (go _ 11 rfl (decide_eq_true (by omega)) (gct rfl (gSk (gS (gBk (gR (gM rfl (gM rfl (gM rfl (gM rfl (gg fun aT aV aH => ?_))))))))))))))))))
   obtain ⟨al, am, an, he⟩ := idx_form' h1 aH
   obtain ⟨rfl, _, rfl⟩ := sl3 he
   obtain ⟨aW, aX, aY, aZ, aa, ab, ac⟩ := rk_Block_ h1 aH
   refine gI st_80 aV (idx_lt aH) rfl (gY (yn (aZ.mono hm.lez) isAgg178 sizeOf178 rfl) (gCg rfl call187 (laws_toBlock_ok _ aT aW (hm.now aa) aX (hm.now ab) aY (hm.now ac)) ?_))
   rintro aA ao ap w ⟨aI, aJ, aK, rfl, hB⟩
   replace hm := hm.give hB; clear hB
   refine gg fun aq ae aE => ?_
   obtain ⟨aM, aN, ar, he⟩ := idx_form' (hm.ow_rep 3 rfl) aE
   obtain ⟨rfl, _, rfl⟩ := sl3 he
   obtain ⟨au, av, aw, ax, ay, az, bA⟩ := rk_Block_ (hm.ow_rep 3 rfl) aE
   have hL1_1 := rep_slice_len (hm.ow_rep 3 rfl)
   refine gI st_42 ae (idx_lt2 aE hL1_1) rfl ?_
   replace hm := (mk_Block_ aA.jump aA.on hm 0 1 2 rfl).pk (L' := [ow [aI, aJ, (nV aA.jump), (nV aA.on), aK] (aA : Block_), ow [(sV aM aN aB.length aC)] aD]) [0, 3] rfl rfl
   replace hm := (hm.both 1 0 (by decide) rfl rfl).pk (L' := [both (ow [(sV aM aN aB.length aC)] aD) (ow [aI, aJ, (nV aA.jump), (nV aA.on), aK] (aA : Block_))]) [1] rfl rfl
   refine gf0 rfl (fun a hf => e_putElem (x1 := (aA : Block_)) (vs := [aI, aJ, (nV aA.jump), (nV aA.on), aK]) 0 hf hm rfl aE rfl sizeOf59 rfl rfl rfl rfl) ?_
   rintro _ w hm
   have bB := List.getElem?_set_self (a := (aA : Block_)) (idx_lt aE)
   exact gE (gR (gM rfl (gP (by omega) (by omega) rfl (gA rfl (gE (gze hm [0] rfl))))))
  repeat clear hm
  intro bC bD w hm bE bF
  exact gS (gS (gR (gM rfl (gM rfl (gY (yV st_80 rfl) (gB rfl (gE (go _ 11 rfl (decide_eq_false (by omega)) (gcf rfl (gXt (gHh (gS (gR (gM rfl (gA rfl (gE (gRt (gr1 results120 rfl ⟨(.slice aF aB.length aC), rfl, hm.pk [0] rfl rfl⟩))))))))))))))))))
theorem laws_toCode_ok (w0 : World) (a_ : Code_) (v1 : Value) (h1 : GT.rep (hp w0) [v1] a_.blocks) :
    ConM Tryz.prog 70 [(.agg #[(nV a_.params), (nV a_.regs), v1])] w0 (laws_toCode a_) fun r v w' => ∃ (x1 : Value), v = (.agg #[(nV r.params), (nV r.regs), x1]) ∧ Mem w0 (hp w0) w' [ow [x1] r.blocks] := by
  unfold laws_toCode
  refine gcon func70 rfl fun r => ?_
  have hm := Mem.start w0
  refine gS (gR (gBx hm rfl fun aB w hm => gAl hm zeroValue44 rfl fun aC w hm => gE (gS (gR (gAl hm zeroValue44 rfl fun aD w hm => gE (gS (gR (gF fo_82_0 rfl (gL hm 2 isAgg3 rfl (gF fo_44_0 rfl (gS1 hm 0 sizeOf3 rfl rfl fun w hm => gE (gS (gR (gF fo_82_1 rfl (gL hm 2 isAgg3 rfl (gF fo_44_1 rfl (gS1 hm 0 sizeOf3 rfl rfl fun w hm => gE (gS (gR (gF fo_82_2 rfl (gL hm 2 isAgg80 rfl (gCg rfl call120 (laws_toBlockS_ok _ a_.blocks v1 (hm.now h1)) ?_))))))))))))))))))))))
  rintro aE aF aA w ⟨_, rfl, hB⟩
  replace hm := hm.give hB; clear hB
  exact gF fo_44_2 rfl (gS1 hm 1 sizeOf42 (rep_one (hm.ow_rep 0 rfl)) rfl fun w hm => gE (gS (gR (gY (yn (hm.blk_at 1 rfl) isAgg44 sizeOf44 rfl) (gSN hm 2 sizeOf44 (one_cons rfl (one_cons rfl (one_cons (rep_one (hm.ow_rep 0 rfl)) one_nil))) rfl fun w hm => gE (gRt (grc 2 results70 hm rfl isAgg44 sizeOf44 ⟨aA, rfl, hm.pk [0] rfl rfl⟩)))))))
theorem laws_toCodeS_ok (w0 : World) (a_ : List Code_) (v1 : Value) (h1 : GT.rep (hp w0) [v1] a_) :
    ConM Tryz.prog 29 [v1] w0 (laws_toCodeS a_) fun r v w' => ∃ (x1 : Value), v = x1 ∧ Mem w0 (hp w0) w' [ow [x1] r] := by
  unfold laws_toCodeS
  refine gcon func29 rfl fun r => ?_
  have hm := Mem.start w0
  refine gS (gR (gA rfl (gE (gS (gR (gM rfl ?_))))))
  obtain ⟨aM, aN, rfl, aY⟩ := ro_slice h1
  refine gY (yV st_22 rfl) (gb fun aB aO => ?_)
  obtain ⟨⟨aP, aQ⟩, aJ⟩ := makeM_some.1 aO
  refine gf rfl (fun a hf => e_make (x0 := ((⟨0, 0, []⟩ : Code_) : Code_)) et_26 (fun _ => ⟨[(nV 0)], [(nV 0), (.slice none 0 0)], rfl, fun _ => False, fun _ => False, fun _ h => h.elim, fun _ h => h.elim, fun _ h => h.elim, (Flat.own_iff.2 rfl), ⟨[(nV 0)], [(.slice none 0 0)], rfl, fun _ => False, fun _ => False, fun _ h => h.elim, fun _ h => h.elim, fun _ h => h.elim, (Flat.own_iff.2 rfl), (own_list.2 (.inl ⟨rfl, rfl⟩))⟩⟩) hf hm rfl rfl rfl aP (Int.le_refl _) aQ) ?_
  rintro aZ w hm
  rw [aJ] at hm
  have h0_1l : (aB.length : Int) = (a_.length : Int) := by rw [← aJ]; simp only [List.length_replicate]; omega
  refine gA rfl (gE (gS (gS (gR (gA rfl (gE ?_))))))
  obtain ⟨aF, aC, rfl, aa⟩ := ro_slice (hm.ow_rep 0 rfl)
  refine gBk (gNf hm (fun aG aD => [(0, (.slice aM a_.length aN)), (3, (.slice aF aB.length aC)), (4, (nV aG))]) (fun aG aD => [ow [(.slice aF aB.length aC)] aD]) [0] rfl ?_ ?_)
  ·
   repeat clear hm
   intro _ _ aG aD w hm ab ac ae _
   refine gS (gS (gR (gM rfl (gM rfl (gY (yV st_22 rfl) (gB rfl (gE (go _ 11 rfl (decide_eq_true (by omega)) (gct rfl (gSk (gS (gBk (gR (gM rfl (gM rfl (gM rfl (gM rfl (gg fun aR aS aH => ?_))))))))))))))))))
   obtain ⟨af, ag, ah, he⟩ := idx_form' h1 aH
   obtain ⟨rfl, _, rfl⟩ := sl3 he
   obtain ⟨aT, aV, aW⟩ := rk_Code_ h1 aH
   refine gI st_22 aS (idx_lt aH) rfl (gY (yn (aV.mono hm.lez) isAgg82 sizeOf82 rfl) (gCg rfl call70 (laws_toCode_ok _ aR aT (hm.now aW)) ?_))
   rintro aA ai aj w ⟨aI, rfl, hB⟩
   replace hm := hm.give hB; clear hB
   refine gg fun ak aX aE => ?_
   obtain ⟨aK, aL, al, he⟩ := idx_form' (hm.ow_rep 1 rfl) aE
   obtain ⟨rfl, _, rfl⟩ := sl3 he
   obtain ⟨am, an, ao⟩ := rk_Code_ (hm.ow_rep 1 rfl) aE
   have hL1_1 := rep_slice_len (hm.ow_rep 1 rfl)
   refine gI st_26 aX (idx_lt2 aE hL1_1) rfl ?_
   replace hm : Mem w0 (hp w0) _ [ow [(nV aA.params), (nV aA.regs), aI] (aA : Code_), ow [(sV aK aL aB.length aC)] aD] := mk_Code_ aA.params aA.regs hm 0 rfl
   replace hm := (hm.both 1 0 (by decide) rfl rfl).pk (L' := [both (ow [(sV aK aL aB.length aC)] aD) (ow [(nV aA.params), (nV aA.regs), aI] (aA : Code_))]) [1] rfl rfl
   refine gf0 rfl (fun a hf => e_putElem (x1 := (aA : Code_)) (vs := [(nV aA.params), (nV aA.regs), aI]) 0 hf hm rfl aE rfl sizeOf44 rfl rfl rfl rfl) ?_
   rintro _ w hm
   have ap := List.getElem?_set_self (a := (aA : Code_)) (idx_lt aE)
   exact gE (gR (gM rfl (gP (by omega) (by omega) rfl (gA rfl (gE (gze hm [0] rfl))))))
  repeat clear hm
  intro aq ar w hm au av
  exact gS (gS (gR (gM rfl (gM rfl (gY (yV st_22 rfl) (gB rfl (gE (go _ 11 rfl (decide_eq_false (by omega)) (gcf rfl (gXt (gHh (gS (gR (gM rfl (gA rfl (gE (gRt (gr1 results29 rfl ⟨(.slice aF aB.length aC), rfl, hm.pk [0] rfl rfl⟩))))))))))))))))))
theorem laws_toUnit_ok (w0 : World) (a_ : Unit_) (v1 : Value) (h1 : GT.rep (hp w0) [v1] a_.codes) :
    ConM Tryz.prog 11 [(.agg #[v1])] w0 (laws_toUnit a_) fun r v w' => ∃ (x1 : Value), v = (.agg #[x1]) ∧ Mem w0 (hp w0) w' [ow [x1] r.codes] := by
  unfold laws_toUnit
  refine gcon func11 rfl fun r => ?_
  have hm := Mem.start w0
  refine gS (gR (gBx hm rfl fun aB w hm => gAl hm zeroValue28 rfl fun aC w hm => gE (gS (gR (gAl hm zeroValue28 rfl fun aD w hm => gE (gS (gR (gF fo_24_0 rfl (gL hm 2 isAgg22 rfl (gCg rfl call29 (laws_toCodeS_ok _ a_.codes v1 (hm.now h1)) ?_))))))))))
  rintro aE aF aA w ⟨_, rfl, hB⟩
  replace hm := hm.give hB; clear hB
  exact gF fo_28_0 rfl (gS1 hm 1 sizeOf26 (rep_one (hm.ow_rep 0 rfl)) rfl fun w hm => gE (gS (gR (gY (yn (hm.blk_at 1 rfl) isAgg28 sizeOf28 rfl) (gSN hm 2 sizeOf28 (one_cons (rep_one (hm.ow_rep 0 rfl)) one_nil) rfl fun w hm => gE (gRt (grc 2 results11 hm rfl isAgg28 sizeOf28 ⟨aA, rfl, hm.pk [0] rfl rfl⟩)))))))
theorem spec_l1In_ok (w0 : World) (n_ : Int) (low : Int) (high : Int) :
    ConM Tryz.prog 39 [(nV n_), (nV low), (nV high)] w0 (spec_l1In n_ low high) fun r v w' => v = (.bool (r)) ∧ Below w0.heap.size w0 w' := by
  unfold spec_l1In
  refine gcon func39 rfl fun r => ?_
  have hm := Mem.start w0
  refine gS (gR (gA rfl (gE (gS (gJ hm (fun aA => [(6, (.bool (aA)))]) (fun aA => []) (fun aA => ?_) ?_)))))
  ·
   refine gR (gM rfl (gM rfl (gB rfl (gM rfl (gsd 10 rfl (fun aB => ?_) fun aB => ?_)))))
   ·
    exact gM rfl (gM rfl (gB rfl (gKt rfl (gA rfl (gE (gz hm [] rfl))))))
   exact gO rfl (gO rfl (gO rfl (gKf rfl (gA rfl (gE (gz hm [] rfl))))))
  repeat clear hm
  intro aA w hm
  exact gRt (gr1 results39 rfl ⟨rfl, hm.below⟩)
theorem spec_l7Regs_ok (w0 : World) (c_ : Code_) (v1 : Value) (h1 : GT.rep (hp w0) [v1] c_.blocks) (list : List Int) (v2 : Value) (h2 : GT.rep (hp w0) [v2] list) :
    ConM Tryz.prog 114 [(.agg #[(nV c_.params), (nV c_.regs), v1]), v2] w0 (spec_l7Regs c_ list) fun r v w' => v = (.bool (r)) ∧ Below w0.heap.size w0 w' := by
  unfold spec_l7Regs
  refine gcon func114 rfl fun r => ?_
  have hm := Mem.start w0
  refine gS (gR (gBx hm rfl fun aA w hm => gA rfl (gE (gS (gS (gR (gA rfl (gE (gBk (gNf hm (fun aB aD => [(1, v2), (2, (pV aA)), (5, (nV aB))]) (fun aB aD => [blk aA [(nV c_.params), (nV c_.regs), v1] 44]) [0] rfl ?_ ?_))))))))))
  ·
   repeat clear hm
   intro aK aF aB aD w hm aL aM aN aG
   refine gS (gS (gR (gM rfl (gM rfl ?_))))
   obtain ⟨aO, aP, rfl, aQ⟩ := ro_slice h2
   refine gY (yV st_57 rfl) (gB rfl (gE (go _ 9 rfl (decide_eq_true (by omega)) (gct rfl (gSk (gS (gBk (gS (gW (.p 0 (.p 1 (.p 2 (.p 4 (.q 3 (.e 5 (.p 6 (.e 7 (.p 8 .fin) .nil)) .nil)))))) [5] [0, 1, 2, 4, 6, 8] hm [0] [blk aA [(nV c_.params), (nV c_.regs), v1] 44] rfl mxo (by kernel_rfl) (fun _ _ _ h => h.2) fun w hm hS => tP rfl (fun w => yM rfl) (tP rfl (fun w => yM rfl) (gg fun aE aH aC => ?_)))))))))))
   obtain ⟨aR, aS, aT, he⟩ := idx_form h2 aC
   obtain ⟨rfl, _, rfl⟩ := sl3 he
   refine tP rfl (fun w => yI st_57 aH (idx_lt aC) rfl) (tP rfl (fun w => yF fo_44_1 rfl) (tQ rfl hS (fun w hm => yl isAgg3 ((flat_cells (cs := [(nV aE)]) (hm.now h2) aC rfl).cell (j := 0) rfl) rfl) (tO (tY rfl (yL hm 0 isAgg3 rfl) (tAs hS (tP rfl (fun w => yB rfl) (tO (gb fun aV aI => tf rfl rfl (fun a hf => e_call hf rfl call39 rfl (spec_l1In_ok _ aE 0 (w64 (c_.regs - 1)) _ aI)) ?_))))))))
   rintro aW w ⟨rfl, hB⟩
   replace hm := hm.below' hB; clear hB
   refine tAn rfl (tP rfl (fun w => yN rfl) (tE (gsn 20 rfl (fun aJ => ?_) fun aJ => ?_)))
   ·
    exact gct rfl (gS (gR (gA rfl (gE (gRt (gLr aG aF (gr1 results114 rfl ⟨rfl, hm.below⟩)))))))
   exact gcf rfl (gSk (gR (gM rfl (gP (by omega) (by omega) rfl (gA rfl (gE (gze hm [0] rfl)))))))
  repeat clear hm
  intro aX aY w hm aZ aa
  refine gS (gS (gR (gM rfl (gM rfl ?_))))
  obtain ⟨ab, ac, rfl, ae⟩ := ro_slice h2
  exact gY (yV st_57 rfl) (gB rfl (gE (go _ 9 rfl (decide_eq_false (by omega)) (gcf rfl (gXt (gHh (gS (gR (gA rfl (gE (gRt (gr1 results114 rfl ⟨rfl, hm.below⟩))))))))))))
theorem spec_l7Makes_ok (w0 : World) (op : Int) :
    ConM Tryz.prog 136 [(nV op)] w0 (spec_l7Makes op) fun r v w' => v = (.bool (r)) ∧ Below w0.heap.size w0 w' := by
  unfold spec_l7Makes
  refine gcon func136 rfl fun r => ?_
  have hm := Mem.start w0
  refine gS (gR (gA rfl (gE (gS (gJ hm (fun aA => [(2, (.bool (aA)))]) (fun aA => []) (fun aA => ?_) ?_)))))
  ·
   refine gR (gM rfl (gC hm rfl call39 (spec_l1In_ok _ op 1 14) fun aD aE w hm => gM rfl (gs 5 rfl (fun aB => ?_) fun aB => ?_)))
   ·
    refine gM rfl (gB rfl (gKt rfl (gM rfl (gsd 9 rfl (fun aC => ?_) fun aC => ?_))))
    ·
     exact gM rfl (gB rfl (gKt rfl (gA rfl (gE (gz hm [] rfl)))))
    exact gO rfl (gO rfl (gKf rfl (gA rfl (gE (gz hm [] rfl)))))
   exact gO rfl (gO rfl (gKf rfl (gM rfl (gO rfl (gO rfl (gKf rfl (gA rfl (gE (gz hm [] rfl)))))))))
  repeat clear hm
  intro aA w hm
  exact gRt (gr1 results136 rfl ⟨rfl, hm.below⟩)
theorem spec_l7Args_ok (w0 : World) (op : Int) :
    ConM Tryz.prog 186 [(nV op)] w0 (spec_l7Args op) fun r v w' => v = (nV r) ∧ Below w0.heap.size w0 w' := by
  unfold spec_l7Args
  refine gcon func186 rfl fun r => ?_
  have hm := Mem.start w0
  refine gS (gR (gA rfl (gE (gS (gBk (gS (gR (gM rfl (gB rfl (gA rfl (gE (gsd 3 rfl (fun aC => ?_) fun aC => ?_))))))))))))
  ·
   exact gct rfl (gS (gR (gA rfl (gE (gRt (gr1 results186 rfl ⟨rfl, hm.below⟩))))))
  refine gcf rfl (gS (gJ hm (fun aA => [(0, (nV op)), (6, (.bool (aA)))]) (fun aA => []) (fun aA => ?_) ?_))
  ·
   refine gR (gM rfl (gB rfl (gM rfl (gsd 9 rfl (fun aD => ?_) fun aD => ?_))))
   ·
    exact gO rfl (gO rfl (gKt rfl (gM rfl (gO rfl (gO rfl (gKt rfl (gM rfl (gO rfl (gO rfl (gKt rfl (gA rfl (gE (gz hm [] rfl)))))))))))))
   refine gM rfl (gB rfl (gKf rfl (gM rfl (gsd 13 rfl (fun aE => ?_) fun aE => ?_))))
   ·
    exact gO rfl (gO rfl (gKt rfl (gM rfl (gO rfl (gO rfl (gKt rfl (gA rfl (gE (gz hm [] rfl)))))))))
   refine gM rfl (gB rfl (gKf rfl (gM rfl (gsd 17 rfl (fun aF => ?_) fun aF => ?_))))
   ·
    exact gO rfl (gO rfl (gKt rfl (gA rfl (gE (gz hm [] rfl)))))
   exact gM rfl (gB rfl (gKf rfl (gA rfl (gE (gz hm [] rfl)))))
  repeat clear hm
  intro aA w hm
  refine gs 6 rfl (fun aG => ?_) fun aG => ?_
  ·
   exact gct rfl (gS (gR (gA rfl (gE (gRt (gr1 results186 rfl ⟨rfl, hm.below⟩))))))
  refine gcf rfl (gS (gJ hm (fun aB => [(21, (.bool (aB)))]) (fun aB => []) (fun aB => ?_) ?_))
  ·
   refine gR (gM rfl (gC hm rfl call39 (spec_l1In_ok _ op 3 9) fun aJ aK w hm => gM rfl (gs 24 rfl (fun aH => ?_) fun aH => ?_)))
   ·
    exact gO rfl (gO rfl (gKt rfl (gA rfl (gE (gz hm [] rfl)))))
   exact gM rfl (gB rfl (gKf rfl (gA rfl (gE (gz hm [] rfl)))))
  repeat clear hm
  intro aB w hm
  refine gs 21 rfl (fun aI => ?_) fun aI => ?_
  ·
   exact gct rfl (gS (gR (gA rfl (gE (gRt (gr1 results186 rfl ⟨rfl, hm.below⟩))))))
  exact gcf rfl (gSk (gS (gR (gA rfl (gE (gRt (gr1 results186 rfl ⟨rfl, hm.below⟩)))))))
theorem spec_l7Ins_ok (w0 : World) (u : Unit_) (v1 : Value) (h1 : GT.rep (hp w0) [v1] u.codes) (k_ : Int) (x_ : Ins_) (v2 : Value) (h2 : GT.rep (hp w0) [v2] x_.args) :
    ConM Tryz.prog 113 [(.agg #[v1]), (nV k_), (.agg #[(nV x_.op), (nV x_.to), v2, (nV x_.n_)])] w0 (spec_l7Ins u k_ x_) fun r v w' => v = (.bool (r)) ∧ Below w0.heap.size w0 w' := by
  unfold spec_l7Ins
  refine gcon func113 rfl fun r => ?_
  have hm := Mem.start w0
  refine gS (gR (gBx hm rfl fun aA w hm => gBx hm rfl fun aB w hm => gA rfl (gE (gS (gR (gF fo_28_0 rfl (gL hm 1 isAgg26 rfl (gM rfl (gg fun aC aP aK => ?_)))))))))
  obtain ⟨aD, aE, aF, he⟩ := idx_form' h1 aK
  subst he
  obtain ⟨aL, aQ, aN⟩ := rk_Code_ h1 aK
  refine gI st_26 aP (idx_lt aK) rfl (gY (yn (aQ.mono hm.lez) isAgg44 sizeOf44 rfl) (gAl hm zeroValue44 rfl fun aM w hm => gSN hm 0 sizeOf44 (one_cons rfl (one_cons rfl (one_cons (rep_one aN) one_nil))) rfl fun w hm => gE (gS (gS (gJ hm (fun aG => [(1, (nV k_)), (3, (pV aA)), (5, (pV aB)), (7, (pV aM)), (23, (.bool (aG)))]) (fun aG => [blk aA [(sV aD aE u.codes.length aF)] 28, blk aB [(nV x_.op), (nV x_.to), v2, (nV x_.n_)] 61, blk aM [(nV aC.params), (nV aC.regs), aL] 44]) (fun aG => ?_) ?_)))))
  ·
   refine gR (gF fo_61_0 rfl (gL hm 1 isAgg3 rfl (gC hm rfl call39 (spec_l1In_ok _ x_.op 1 14) fun al am w hm => gN rfl (gM rfl (gsn 17 rfl (fun aR => ?_) fun aR => ?_)))))
   ·
    exact gO rfl (gO rfl (gO rfl (gO rfl (gO rfl (gKt rfl (gE (gz hm [2, 1, 0] rfl)))))))
   exact gY (yn (hm.blk_at 0 rfl) isAgg44 sizeOf44 rfl) (gF fo_61_2 rfl (gL hm 1 isAgg57 rfl (gC hm rfl call114 (spec_l7Regs_ok _ aC aL (hm.now aN) x_.args v2 (hm.now h2)) fun an ao w hm => gN rfl (gKf rfl (gE (gz hm [2, 1, 0] rfl))))))
  repeat clear hm
  intro aG w hm
  refine gs 23 rfl (fun aS => ?_) fun aS => ?_
  ·
   exact gct rfl (gS (gR (gA rfl (gE (gRt (gr1 results113 rfl ⟨rfl, hm.below⟩))))))
  refine gcf rfl (gSk (gS (gS (gJ hm (fun aH => [(1, (nV k_)), (3, (pV aA)), (5, (pV aB)), (44, (.bool (aH)))]) (fun aH => [blk aA [(sV aD aE u.codes.length aF)] 28, blk aB [(nV x_.op), (nV x_.to), v2, (nV x_.n_)] 61]) (fun aH => ?_) ?_))))
  ·
   refine gW (.p 0 (.p 3 (.p 5 (.q 1 (.q 4 (.q 6 (.p 7 (.e 2 (.e 8 (.p 9 (.p 10 (.p 11 (.e 12 (.e 13 (.p 14 (.p 15 (.p 16 (.e 17 (.p 18 (.p 19 (.p 20 .fin))) .nil)))) .nil) .nil)))) .nil) .nil)))))))) [1, 2, 4, 6] [0, 3, 5, 7, 9, 10, 11, 14, 15, 16, 18, 19, 20] hm [0, 1, 2] [blk aA [(sV aD aE u.codes.length aF)] 28, blk aB [(nV x_.op), (nV x_.to), v2, (nV x_.n_)] 61, blk aM [(nV aC.params), (nV aC.regs), aL] 44] rfl mxo (by kernel_rfl) (fun _ _ _ h => h.2) fun w hm hS => tP rfl (fun w => yF fo_61_0 rfl) (tP rfl (fun w => yF fo_61_1 rfl) (tP rfl (fun w => yF fo_44_1 rfl) (tQ rfl hS (fun w hm => yL hm 1 isAgg3 rfl) (tQ rfl hS (fun w hm => yL hm 1 isAgg3 rfl) (tQ rfl hS (fun w hm => yL hm 2 isAgg3 rfl) (tP rfl (fun w => yB rfl) (tO (gb fun ap aT => tf rfl rfl (fun a hf => e_call hf rfl call136 rfl (spec_l7Makes_ok _ x_.op _ aT)) ?_))))))))
   rintro aq w ⟨rfl, hB⟩
   replace hm := hm.below' hB; clear hB
   refine tAk hm [0, 1, 2] rfl fun hS => tO (gb fun ar aV => tf rfl rfl (fun a hf => e_call hf rfl call39 rfl (spec_l1In_ok _ x_.to 0 (w64 (aC.regs - 1)) _ aV)) ?_)
   rintro au w ⟨rfl, hB⟩
   replace hm := hm.below' hB; clear hB
   refine tAn rfl (tP rfl (fun w => yG rfl (y_neqb underlying4 rfl rfl rfl)) (tP rfl (fun w => yM rfl) (gsd 34 rfl (fun aW => ?_) fun aW => ?_)))
   ·
    exact tPo rfl rfl (tO (tEo rfl rfl (tAn rfl (tO (tEo rfl rfl (tAn rfl (tPo rfl rfl (tPo rfl rfl (tPo rfl rfl (tO (tEo rfl rfl (tAn rfl (tPo rfl rfl (tPo rfl rfl (tP rfl (fun w => yKt rfl) (tE (gz hm [0, 1] rfl)))))))))))))))))
   refine tP rfl (fun w => yF fo_61_0 rfl) (tO (tY rfl (yL hm 1 isAgg3 rfl) (tAn rfl (tO (gb fun av aX => tf rfl rfl (fun a hf => e_call hf rfl call136 rfl (spec_l7Makes_ok _ x_.op _ aX)) ?_)))))
   rintro aw w ⟨rfl, hB⟩
   replace hm := hm.below' hB; clear hB
   refine tAn rfl (tP rfl (fun w => yN rfl) (tP rfl (fun w => yM rfl) (gsn 39 rfl (fun aY => ?_) fun aY => ?_)))
   ·
    exact tP rfl (fun w => yF fo_61_1 rfl) (tO (tY rfl (yL hm 1 isAgg3 rfl) (tAn rfl (tP rfl (fun w => yB rfl) (tP rfl (fun w => yKt rfl) (tP rfl (fun w => yKf rfl) (tE (gz hm [0, 1] rfl))))))))
   exact tPo rfl rfl (tO (tEo rfl rfl (tAn rfl (tPo rfl rfl (tP rfl (fun w => yKf rfl) (tP rfl (fun w => yKf rfl) (tE (gz hm [0, 1] rfl))))))))
  repeat clear hm
  intro aH w hm
  refine gs 44 rfl (fun aZ => ?_) fun aZ => ?_
  ·
   exact gct rfl (gS (gR (gA rfl (gE (gRt (gr1 results113 rfl ⟨rfl, hm.below⟩))))))
  refine gcf rfl (gSk (gS (gS (gR (gF fo_61_0 rfl (gL hm 1 isAgg3 rfl (gB rfl (gE (gsd 47 rfl (fun aa => ?_) fun aa => ?_)))))))))
  ·
   refine gct rfl (gS (gJ hm (fun aI => [(6, (.bool (aI)))]) (fun aI => []) (fun aI => ?_) ?_))
   ·
    refine gW (.p 0 (.p 2 (.p 3 (.e 1 (.e 4 (.p 5 (.p 6 (.p 9 (.p 11 (.q 7 (.p 8 (.q 10 (.e 12 (.p 13 (.p 14 (.e 15 (.p 16 (.p 17 (.p 18 .fin))) .nil))) .nil)))))))) .nil) .nil)))) [7, 10, 12, 15] [0, 2, 3, 5, 6, 8, 9, 11, 13, 14, 16, 17, 18] hm [0, 1] [blk aA [(sV aD aE u.codes.length aF)] 28, blk aB [(nV x_.op), (nV x_.to), v2, (nV x_.n_)] 61] rfl mxo (by kernel_rfl) (fun _ _ _ h => h.2) fun w hm hS => tP rfl (fun w => yF fo_61_3 rfl) (tP rfl (fun w => yM rfl) (tP rfl (fun w => yB rfl) (tO (tY rfl (yL hm 1 isAgg3 rfl) (tAn rfl (tO (gb fun ax ab => tf rfl rfl (fun a hf => e_call hf rfl call39 rfl (spec_l1In_ok _ x_.n_ 0 (w64 (k_ - 1)) _ ab)) ?_)))))))
    rintro ay w ⟨rfl, hB⟩
    replace hm := hm.below' hB; clear hB
    refine tAk hm [0, 1] rfl fun hS => tP rfl (fun w => yM rfl) (gs 53 rfl (fun ac => ?_) fun ac => ?_)
    ·
     refine tP rfl (fun w => yF fo_61_2 rfl) (tP rfl (fun w => yF fo_28_0 rfl) (tP rfl (fun w => yF fo_61_3 rfl) (tQ rfl hS (fun w hm => yL hm 1 isAgg57 rfl) ?_)))
     obtain ⟨az, bA, rfl, bB⟩ := ro_slice h2
     refine tP rfl (fun w => yV st_57 rfl) (tQ rfl hS (fun w hm => yL hm 0 isAgg26 rfl) (tO (tY rfl (yL hm 1 isAgg3 rfl) (tAs hS (gg fun bC ae aO => ?_)))))
     obtain ⟨bD, af, bE⟩ := rk_Code_ h1 aO
     exact tP rfl (fun w => yI st_26 ae (idx_lt aO) rfl) (tP rfl (fun w => yF fo_44_0 rfl) (tO (tY rfl (yl isAgg3 ((af.mono hm.lez).cell (j := 0) rfl) rfl) (tAs hS (tP rfl (fun w => yB rfl) (tP rfl (fun w => yKt rfl) (tP rfl (fun w => yA rfl) (tE (gz hm [] rfl)))))))))
    exact tPo rfl rfl (tPo rfl rfl (tPo rfl rfl (tQo rfl hS rfl (tPo rfl rfl (tQo rfl hS rfl (tO (tEo rfl rfl (tAs hS (tPo rfl rfl (tPo rfl rfl (tO (tEo rfl rfl (tAs hS (tPo rfl rfl (tP rfl (fun w => yKf rfl) (tP rfl (fun w => yA rfl) (tE (gz hm [] rfl))))))))))))))))))
   repeat clear hm
   intro aI w hm
   exact gRt (gr1 results113 rfl ⟨rfl, hm.below⟩)
  refine gcf rfl (gSk (gS (gJ hm (fun aJ => [(6, (.bool (aJ)))]) (fun aJ => []) (fun aJ => ?_) ?_)))
  ·
   refine gW (.p 0 (.p 3 (.q 1 (.p 2 (.e 4 (.e 5 (.p 6 (.p 7 (.p 8 (.e 9 (.e 10 (.p 11 (.p 12 (.p 13 (.e 14 (.p 15 (.p 16 (.p 17 (.e 18 (.p 19 (.p 20 (.p 21 (.p 22 .fin)))) .nil)))) .nil)))) .nil) .nil)))) .nil) .nil))))) [4, 5] [0, 2, 3, 6, 7, 8, 11, 12, 13, 15, 16, 17, 19, 20, 21, 22] hm [0, 1] [blk aA [(sV aD aE u.codes.length aF)] 28, blk aB [(nV x_.op), (nV x_.to), v2, (nV x_.n_)] 61] rfl mxo (by kernel_rfl) (fun _ _ _ h => h.2) fun w hm hS => tP rfl (fun w => yF fo_61_2 rfl) (tP rfl (fun w => yF fo_61_0 rfl) (tQ rfl hS (fun w hm => yL hm 1 isAgg57 rfl) ?_))
   obtain ⟨bF, bG, rfl, bH⟩ := ro_slice h2
   refine tP rfl (fun w => yV st_57 rfl) (tO (tY rfl (yL hm 1 isAgg3 rfl) (tAs hS (tO (gb fun bJ ag => tf rfl rfl (fun a hf => e_call hf rfl call186 rfl (spec_l7Args_ok _ x_.op _ ag)) ?_)))))
   rintro bK w ⟨rfl, hB⟩
   replace hm := hm.below' hB; clear hB
   refine tAk hm [0, 1] rfl fun hS => tP rfl (fun w => yB rfl) (tP rfl (fun w => yM rfl) (gsd 73 rfl (fun ah => ?_) fun ah => ?_))
   ·
    refine tP rfl (fun w => yF fo_61_3 rfl) (tO (tY rfl (yL hm 1 isAgg3 rfl) (tAn rfl (tO (gb fun bL ai => tf rfl rfl (fun a hf => e_call hf rfl call39 rfl (spec_l1In_ok _ x_.n_ 0 255 _ ai)) ?_)))))
    rintro bM w ⟨rfl, hB⟩
    replace hm := hm.below' hB; clear hB
    refine tAn rfl (tP rfl (fun w => yKt rfl) (tP rfl (fun w => yM rfl) (gs 78 rfl (fun aj => ?_) fun aj => ?_)))
    ·
     refine tP rfl (fun w => yF fo_61_3 rfl) (tO (tY rfl (yL hm 1 isAgg3 rfl) (tAn rfl (tP rfl (fun w => yB rfl) (tP rfl (fun w => yM rfl) (gsd 82 rfl (fun ak => ?_) fun ak => ?_))))))
     ·
      exact tPo rfl rfl (tO (tEo rfl rfl (tAn rfl (tPo rfl rfl (tP rfl (fun w => yKt rfl) (tP rfl (fun w => yKt rfl) (tP rfl (fun w => yA rfl) (tE (gz hm [] rfl)))))))))
     exact tP rfl (fun w => yF fo_61_0 rfl) (tO (tY rfl (yL hm 1 isAgg3 rfl) (tAn rfl (tP rfl (fun w => yB rfl) (tP rfl (fun w => yKf rfl) (tP rfl (fun w => yKt rfl) (tP rfl (fun w => yA rfl) (tE (gz hm [] rfl)))))))))
    exact tPo rfl rfl (tO (tEo rfl rfl (tAn rfl (tPo rfl rfl (tPo rfl rfl (tPo rfl rfl (tO (tEo rfl rfl (tAn rfl (tPo rfl rfl (tPo rfl rfl (tP rfl (fun w => yKf rfl) (tP rfl (fun w => yA rfl) (tE (gz hm [] rfl)))))))))))))))
   exact tPo rfl rfl (tO (tEo rfl rfl (tAn rfl (tO (tEo rfl rfl (tAn rfl (tP rfl (fun w => yKf rfl) (tP rfl (fun w => yM rfl) (tPo rfl rfl (tO (tEo rfl rfl (tAn rfl (tPo rfl rfl (tPo rfl rfl (tPo rfl rfl (tO (tEo rfl rfl (tAn rfl (tPo rfl rfl (tPo rfl rfl (tP rfl (fun w => yKf rfl) (tP rfl (fun w => yA rfl) (tE (gz hm [] rfl))))))))))))))))))))))))
  repeat clear hm
  intro aJ w hm
  exact gRt (gr1 results113 rfl ⟨rfl, hm.below⟩)
theorem spec_l7Preds_ok (w0 : World) (c_ : Code_) (v1 : Value) (h1 : GT.rep (hp w0) [v1] c_.blocks) (b_ : Int) :
    ConM Tryz.prog 66 [(.agg #[(nV c_.params), (nV c_.regs), v1]), (nV b_)] w0 (spec_l7Preds c_ b_) fun r v w' => ∃ (x1 : Value), v = x1 ∧ Mem w0 (hp w0) w' [ow [x1] r] := by
  unfold spec_l7Preds
  refine gcon func66 rfl fun r => ?_
  have hm := Mem.start w0
  refine gS (gR (gBx hm rfl fun aB w hm => gA rfl (gE (gS (gR (gf rfl (fun a hf => e_build0 (α := Int) et_57 hm rfl) ?_))))))
  rintro af w hm
  refine gA rfl (gE (gS (gS (gR (gA rfl (gE ?_))))))
  obtain ⟨aS, aT, rfl, ag⟩ := ro_slice (hm.ow_rep 0 rfl)
  refine gBk (gNg (fun aA aC a w => ∃ (aF : Value), St 43 [(1, (nV b_)), (2, (pV aB)), (5, aF), (6, (nV aA))] w0 (hp w0) [blk aB [(nV c_.params), (nV c_.regs), v1] 44, ow [aF] aC] a w) (fun a hf => ⟨(.slice aS ([] : List Int).length aT), hf.sb rfl, hm.pk [1, 0] rfl rfl⟩) ?_ ?_)
  ·
   repeat clear hm
   rintro _ _ aA aC a w ⟨aF, hf, hm⟩ ah ai aj _
   refine gv hf (gS (gS (gR (gM rfl (gF fo_44_2 rfl (gL hm 0 isAgg42 rfl ?_))))))
   obtain ⟨aM, aN, rfl, ak⟩ := ro_slice h1
   refine gY (yV st_42 rfl) (gB rfl (gE (go _ 13 rfl (decide_eq_true (by omega)) (gct rfl (gSk (gS (gBk (gS (gR (gA rfl (gE ?_)))))))))))
   obtain ⟨aG, aH, rfl, al⟩ := ro_slice (hm.ow_rep 1 rfl)
   refine gJg (fun aI a w => ∃ (aD : Value), St 43 [(1, (nV b_)), (2, (pV aB)), (5, aD), (6, (nV aA))] w0 (hp w0) [blk aB [(nV c_.params), (nV c_.regs), (.slice aM c_.blocks.length aN)] 44, ow [aD] aI] a w) (fun aI => ?_) ?_
   ·
    refine gBk (gMf hm (fun aJ => [(1, (nV b_)), (2, (pV aB)), (5, (.slice aG aC.length aH)), (6, (nV aA)), (7, (nV aJ))]) (fun aJ => [blk aB [(nV c_.params), (nV c_.regs), (.slice aM c_.blocks.length aN)] 44, ow [(.slice aG aC.length aH)] aC]) [0, 1] rfl ?_)
    repeat clear hm
    intro am aO aJ w hm an aP
    refine gS (gS (gR (gM rfl (gF fo_44_2 rfl (gL hm 0 isAgg42 rfl (gM rfl (gg fun ao aQ aE => ?_)))))))
    obtain ⟨ap, aq, ar, he⟩ := idx_form' h1 aE
    obtain ⟨rfl, _, rfl⟩ := sl3 he
    obtain ⟨au, av, aw, aR, ax, ay, aK⟩ := rk_Block_ h1 aE
    refine gI st_42 aQ (idx_lt aE) rfl (gF fo_59_4 rfl (gY (yl isAgg57 ((aR.mono hm.lez).cell (j := 4) rfl) rfl) ?_))
    obtain ⟨az, bA, rfl, bB⟩ := ro_slice aK
    refine gY (yV st_57 rfl) (gB rfl (gE (gsd 24 rfl (fun aV => ?_) fun aV => ?_)))
    ·
     refine gct rfl (gSk (gS (gBk (gS (gR (gF fo_44_2 rfl (gL hm 0 isAgg42 rfl (gM rfl (gI st_42 aQ (idx_lt aE) rfl (gF fo_59_4 rfl (gY (yl isAgg57 ((aR.mono hm.lez).cell (j := 4) rfl) rfl) (gM rfl (gg fun aW aX aL => ?_)))))))))))))
     obtain ⟨bC, bD, bE, he⟩ := idx_form aK aL
     obtain ⟨rfl, _, rfl⟩ := sl3 he
     refine gI st_57 aX (idx_lt aL) rfl (gY (yl isAgg3 ((flat_cells (cs := [(nV aW)]) (hm.now aK) aL rfl).cell (j := 0) rfl) rfl) (gM rfl (gB rfl (gE (gsd 37 rfl (fun aY => ?_) fun aY => ?_)))))
     ·
      refine gct rfl (gS (gR (gM rfl (gM rfl (gf rfl (fun a hf => e_build (vs := #[(0, (nV aA))]) (cs := [(nV aA)]) et_57 hf hm rfl rfl (by kernel_rfl) rfl rfl) ?_)))))
      rintro _ w ⟨bF, rfl, hm⟩
      replace hm := hm.lit (xs := ([aA] : List Int)) 0 rfl rfl rfl rfl
      refine gb fun bG aZ => ?_
      obtain ⟨aa, ab⟩ := appM_some.1 aZ
      refine gf rfl (fun a hf => e_append 2 et_57 hf hm rfl (hm.ow_rep 0 rfl) rfl rfl rfl aa) ?_
      rintro ac w hm
      rw [ab] at hm
      exact gA rfl (gE (gXt (gHm rfl (gHh (gLp aP aO (gZ fun a hf => ⟨ac, hf.sb rfl, hm.pk [1, 2] rfl rfl⟩))))))
     exact gcf rfl (gSk (gR (gM rfl (gB rfl (gA rfl (gE (gze hm [0, 1] rfl)))))))
    exact gcf rfl (gXt (gHh (gLp aP aO (gZ fun a hf => ⟨(.slice aG aC.length aH), hf.sb rfl, hm.pk [0, 1] rfl rfl⟩))))
   repeat clear hm
   rintro aI a w ⟨aD, hf, hm⟩
   exact gv hf (gR (gM rfl (gP (by omega) (by omega) rfl (gA rfl (gE (gZe fun a hf => ⟨aD, hf.sb rfl, hm.pk [0, 1] rfl rfl⟩))))))
  repeat clear hm
  rintro bH bJ a w ⟨ae, hf, hm⟩ bK bL
  refine gv hf (gS (gS (gR (gM rfl (gF fo_44_2 rfl (gL hm 0 isAgg42 rfl ?_))))))
  obtain ⟨bM, bN, rfl, bO⟩ := ro_slice h1
  exact gY (yV st_42 rfl) (gB rfl (gE (go _ 13 rfl (decide_eq_false (by omega)) (gcf rfl (gXt (gHh (gS (gR (gM rfl (gA rfl (gE (gRt (gr1 results66 rfl ⟨ae, rfl, hm.pk [1] rfl rfl⟩)))))))))))))
theorem spec_l7Block_ok (w0 : World) (u : Unit_) (v1 : Value) (h1 : GT.rep (hp w0) [v1] u.codes) (k_ : Int) (b_ : Int) :
    ConM Tryz.prog 63 [(.agg #[v1]), (nV k_), (nV b_)] w0 (spec_l7Block u k_ b_) fun r v w' => v = (.bool (r)) ∧ Below w0.heap.size w0 w' := by
  unfold spec_l7Block
  refine gcon func63 rfl fun r => ?_
  have hm := Mem.start w0
  refine gS (gR (gBx hm rfl fun aE w hm => gA rfl (gE (gS (gR (gF fo_28_0 rfl (gL hm 0 isAgg26 rfl (gM rfl (gg fun aB bC af => ?_)))))))))
  obtain ⟨aI, aJ, aK, he⟩ := idx_form' h1 af
  subst he
  obtain ⟨bp, bD, aO⟩ := rk_Code_ h1 af
  refine gI st_26 bC (idx_lt af) rfl (gY (yn (bD.mono hm.lez) isAgg44 sizeOf44 rfl) (gAl hm zeroValue44 rfl fun aC w hm => gSN hm 0 sizeOf44 (one_cons rfl (one_cons rfl (one_cons (rep_one aO) one_nil))) rfl fun w hm => gE (gS (gR (gF fo_44_2 rfl (gL hm 0 isAgg42 rfl (gM rfl (gg fun aA bE ag => ?_))))))))
  obtain ⟨aF, aG, aH, he⟩ := idx_form' aO ag
  subst he
  obtain ⟨aL, aN, aQ, bF, aR, aS, aP⟩ := rk_Block_ aO ag
  refine gI st_42 bE (idx_lt ag) rfl (gY (yn (bF.mono hm.lez) isAgg59 sizeOf59 rfl) (gAl hm zeroValue59 rfl fun aD w hm => gSN hm 0 sizeOf59 (one_cons (rep_one aR) (one_cons (rep_one aS) (one_cons rfl (one_cons rfl (one_cons (rep_one aP) one_nil))))) rfl fun w hm => gE (gS (gR (gA rfl (gE (gS (gS (gR (gF fo_59_2 rfl (gL hm 0 isAgg3 rfl (gE (gJge (fun aZ a w => 0 ≤ aA.jump ∧ aA.jump ≤ 3 ∧ 0 ≤ aZ ∧ aZ ≤ 2 ∧ St 136 [(1, (nV k_)), (2, (nV b_)), (3, (pV aE)), (7, (pV aC)), (8, (pV aD)), (9, (nV aZ))] w0 (hp w0) [blk aE [(sV aI aJ u.codes.length aK)] 28, blk aC [(nV aB.params), (nV aB.regs), (sV aF aG aB.blocks.length aH)] 44, blk aD [aL, aN, (nV aA.jump), (nV aA.on), aQ] 59] a w) (fun bq ar => ?_) ?_)))))))))))))
  ·
   refine gBk (gS (gR (gB rfl (gA rfl (gE (gJge (fun aa a w => 0 ≤ aA.jump ∧ aA.jump ≤ 3 ∧ 0 ≤ aa ∧ aa ≤ 2 ∧ St 136 [(1, (nV k_)), (2, (nV b_)), (3, (pV aE)), (7, (pV aC)), (8, (pV aD)), (9, (nV aa))] w0 (hp w0) [blk aE [(sV aI aJ u.codes.length aK)] 28, blk aC [(nV aB.params), (nV aB.regs), (sV aF aG aB.blocks.length aH)] 44, blk aD [aL, aN, (nV aA.jump), (nV aA.on), aQ] 59] a w) (fun br au => ?_) ?_))))))
   ·
    refine gsd 26 rfl (fun bG => ?_) fun bG => ?_
    ·
     refine gct rfl (gS (gR (gF fo_59_3 rfl (gL hm 0 isAgg3 rfl (gB rfl (gE (gsd 30 rfl (fun bH => ?_) fun bH => ?_)))))))
     ·
      exact gct rfl (gS (gR (gA rfl (gE (gRt (gEr au (gEr ar (gr1 results63 rfl ⟨rfl, hm.below⟩))))))))
     exact gcf rfl (gSk (gZe fun a hf => ⟨(by first | omega | (dsimp only; omega)), (by first | omega | (dsimp only; omega)), (by first | omega | (dsimp only; omega)), (by first | omega | (dsimp only; omega)), hf.sb rfl, hm.pk [2, 1, 0] rfl rfl⟩))
    refine gcf rfl (gS (gR (gB rfl (gA rfl (gE (gJge (fun ab a w => 0 ≤ aA.jump ∧ aA.jump ≤ 3 ∧ 0 ≤ ab ∧ ab ≤ 2 ∧ St 136 [(1, (nV k_)), (2, (nV b_)), (3, (pV aE)), (7, (pV aC)), (8, (pV aD)), (9, (nV ab))] w0 (hp w0) [blk aE [(sV aI aJ u.codes.length aK)] 28, blk aC [(nV aB.params), (nV aB.regs), (sV aF aG aB.blocks.length aH)] 44, blk aD [aL, aN, (nV aA.jump), (nV aA.on), aQ] 59] a w) (fun bt bJ => ?_) ?_))))))
    ·
     refine gsd 31 rfl (fun bK => ?_) fun bK => ?_
     ·
      exact gct rfl (gR (gA rfl (gE (gZe fun a hf => ⟨(by first | omega | (dsimp only; omega)), (by first | omega | (dsimp only; omega)), (by first | omega | (dsimp only; omega)), (by first | omega | (dsimp only; omega)), hf.sb rfl, hm.pk [2, 1, 0] rfl rfl⟩))))
     refine gcf rfl (gS (gR (gB rfl (gA rfl (gE (gsd 33 rfl (fun bL => ?_) fun bL => ?_))))))
     ·
      exact gct rfl (gR (gA rfl (gE (gZe fun a hf => ⟨(by first | omega | (dsimp only; omega)), (by first | omega | (dsimp only; omega)), (by first | omega | (dsimp only; omega)), (by first | omega | (dsimp only; omega)), hf.sb rfl, hm.pk [2, 1, 0] rfl rfl⟩))))
     exact gcf rfl (gS (gR (gA rfl (gE (gRt (gEr bJ (gEr au (gEr ar (gr1 results63 rfl ⟨rfl, hm.below⟩)))))))))
    repeat clear hm
    rintro ab a w ⟨bu, bv, bw, bx, hf, hm⟩
    exact gv hf (gZe fun a hf => ⟨(by first | omega | (dsimp only; omega)), (by first | omega | (dsimp only; omega)), (by first | omega | (dsimp only; omega)), (by first | omega | (dsimp only; omega)), hf.sb rfl, hm.pk [0, 1, 2] rfl rfl⟩)
   repeat clear hm
   rintro aa a w ⟨bz, cA, cB, cC, hf, hm⟩
   exact gv hf (gZe fun a hf => ⟨(by first | omega | (dsimp only; omega)), (by first | omega | (dsimp only; omega)), (by first | omega | (dsimp only; omega)), (by first | omega | (dsimp only; omega)), hf.sb rfl, hm.pk [0, 1, 2] rfl rfl⟩)
  repeat clear hm
  rintro aZ a w ⟨cD, cE, cF, cG, hf, hm⟩
  refine gv hf (gS (gS (gJg (fun ah a w => 0 ≤ aA.jump ∧ aA.jump ≤ 3 ∧ St 136 [(1, (nV k_)), (2, (nV b_)), (3, (pV aE)), (7, (pV aC)), (8, (pV aD)), (53, (.bool (ah)))] w0 (hp w0) [blk aE [(sV aI aJ u.codes.length aK)] 28, blk aC [(nV aB.params), (nV aB.regs), (sV aF aG aB.blocks.length aH)] 44, blk aD [aL, aN, (nV aA.jump), (nV aA.on), aQ] 59] a w) (fun ah => ?_) ?_)))
  ·
   refine gR (gF fo_59_4 rfl (gL hm 2 isAgg57 rfl ?_))
   obtain ⟨cH, cI, rfl, cJ⟩ := ro_slice aP
   refine gY (yV st_57 rfl) (gM rfl (gB rfl (gM rfl (gsd 40 rfl (fun bM => ?_) fun bM => ?_))))
   ·
    exact gO rfl (gO rfl (gO rfl (gO rfl (gO rfl (gO rfl (gO rfl (gO rfl (gO rfl (gO rfl (gO rfl (gO rfl (gKt rfl (gE (gZ fun a hf => ⟨(by first | omega | (dsimp only; omega)), (by first | omega | (dsimp only; omega)), hf.sb rfl, hm.pk [0, 1, 2] rfl rfl⟩))))))))))))))
   refine gF fo_59_2 rfl (gL hm 2 isAgg3 rfl (gB rfl (gM rfl (gsd 44 rfl (fun bN => ?_) fun bN => ?_))))
   ·
    exact gF fo_59_3 rfl (gL hm 2 isAgg3 rfl (gF fo_44_1 rfl (gL hm 1 isAgg3 rfl (gB rfl (gC hm rfl call39 (spec_l1In_ok _ aA.on 0 (w64 (aB.regs - 1))) fun cK cL w hm => gN rfl (gKt rfl (gKf rfl (gE (gZ fun a hf => ⟨(by first | omega | (dsimp only; omega)), (by first | omega | (dsimp only; omega)), hf.sb rfl, hm.pk [0, 1, 2] rfl rfl⟩)))))))))
   exact gO rfl (gO rfl (gO rfl (gO rfl (gO rfl (gO rfl (gO rfl (gKf rfl (gKf rfl (gE (gZ fun a hf => ⟨(by first | omega | (dsimp only; omega)), (by first | omega | (dsimp only; omega)), hf.sb rfl, hm.pk [0, 1, 2] rfl rfl⟩))))))))))
  repeat clear hm
  rintro ah a w ⟨cM, cN, hf, hm⟩
  refine gv hf (gs 53 rfl (fun bO => ?_) fun bO => ?_)
  ·
   exact gct rfl (gS (gR (gA rfl (gE (gRt (gr1 results63 rfl ⟨rfl, hm.below⟩))))))
  refine gcf rfl (gSk (gS (gS (gR (gA rfl (gE (gBk (gNf hm (fun ai av => [(1, (nV k_)), (2, (nV b_)), (3, (pV aE)), (7, (pV aC)), (8, (pV aD)), (10, (nV ai))]) (fun ai av => [blk aE [(sV aI aJ u.codes.length aK)] 28, blk aC [(nV aB.params), (nV aB.regs), (sV aF aG aB.blocks.length aH)] 44, blk aD [aL, aN, (nV aA.jump), (nV aA.on), aQ] 59]) [0, 1, 2] rfl ?_ ?_))))))))
  ·
   repeat clear hm
   intro cO bP ai av w hm cP cQ cR bQ
   refine gS (gS (gR (gM rfl (gF fo_59_4 rfl (gL hm 2 isAgg57 rfl ?_)))))
   obtain ⟨bR, bS, rfl, cS⟩ := ro_slice aP
   refine gY (yV st_57 rfl) (gB rfl (gE (go _ 58 rfl (decide_eq_true (by omega)) (gct rfl (gSk (gS (gBk (gS (gW (.p 0 (.p 2 (.p 5 (.q 1 (.p 3 (.q 4 (.e 6 (.p 7 (.p 8 (.e 9 (.p 10 .fin) .nil))) .nil))))))) [6] [0, 2, 3, 5, 7, 8, 10] hm [0, 1, 2] [blk aE [(sV aI aJ u.codes.length aK)] 28, blk aC [(nV aB.params), (nV aB.regs), (sV aF aG aB.blocks.length aH)] 44, blk aD [aL, aN, (nV aA.jump), (nV aA.on), (.slice bR aA.next_.length bS)] 59] rfl mxo (by kernel_rfl) (fun _ _ _ h => h.2) fun w hm hS => tP rfl (fun w => yF fo_59_4 rfl) (tP rfl (fun w => yM rfl) (tP rfl (fun w => yF fo_44_2 rfl) (tQ rfl hS (fun w hm => yL hm 2 isAgg57 rfl) (gg fun aw bT aj => ?_)))))))))))))
   obtain ⟨cT, cU, cV, he⟩ := idx_form aP aj
   obtain ⟨rfl, _, rfl⟩ := sl3 he
   refine tP rfl (fun w => yI st_57 bT (idx_lt aj) rfl) (tQ rfl hS (fun w hm => yl isAgg3 ((flat_cells (cs := [(nV aw)]) (hm.now aP) aj rfl).cell (j := 0) rfl) rfl) (tO (tY rfl (yL hm 1 isAgg42 rfl) (tAs hS ?_))))
   have cW := rep_len aO
   refine tP rfl (fun w => yV st_42 rfl) (tP rfl (fun w => yS (by omega) (by omega) rfl) (tO (gb fun cX bU => tf rfl rfl (fun a hf => e_call hf rfl call39 rfl (spec_l1In_ok _ aw 1 (((aB.blocks.length : Int)) - 1) _ bU)) ?_)))
   rintro cY w ⟨rfl, hB⟩
   replace hm := hm.below' hB; clear hB
   refine tAn rfl (tP rfl (fun w => yN rfl) (tE (gsn 71 rfl (fun bV => ?_) fun bV => ?_)))
   ·
    exact gct rfl (gS (gR (gA rfl (gE (gRt (gLr bQ bP (gr1 results63 rfl ⟨rfl, hm.below⟩)))))))
   exact gcf rfl (gSk (gR (gM rfl (gP (by omega) (by omega) rfl (gA rfl (gE (gze hm [0, 1, 2] rfl)))))))
  repeat clear hm
  intro cZ c4 w hm c5 c6
  refine gS (gS (gR (gM rfl (gF fo_59_4 rfl (gL hm 2 isAgg57 rfl ?_)))))
  obtain ⟨aT, aV, rfl, c7⟩ := ro_slice aP
  refine gY (yV st_57 rfl) (gB rfl (gE (go _ 58 rfl (decide_eq_false (by omega)) (gcf rfl (gXt (gHh (gS (gS (gR (gA rfl (gE (gBk (gNf hm (fun ak ax => [(1, (nV k_)), (2, (nV b_)), (3, (pV aE)), (7, (pV aC)), (8, (pV aD)), (11, (nV ak))]) (fun ak ax => [blk aE [(sV aI aJ u.codes.length aK)] 28, blk aC [(nV aB.params), (nV aB.regs), (sV aF aG aB.blocks.length aH)] 44, blk aD [aL, aN, (nV aA.jump), (nV aA.on), (.slice aT aA.next_.length aV)] 59]) [0, 1, 2] rfl ?_ ?_)))))))))))))
  ·
   repeat clear hm
   intro c8 bW ak ax w hm c9 ca cb bX
   refine gS (gS (gR (gM rfl (gF fo_59_1 rfl (gL hm 2 isAgg56 rfl ?_)))))
   obtain ⟨bY, bZ, rfl, cc⟩ := ro_slice aS
   refine gY (yV st_56 rfl) (gB rfl (gE (go _ 76 rfl (decide_eq_true (by omega)) (gct rfl (gSk (gS (gBk (gS (gW (.p 1 (.p 2 (.p 4 (.q 0 (.e 3 (.p 5 (.e 6 (.e 7 (.p 8 .fin) .nil) .nil)) .nil))))) [3, 6] [1, 2, 4, 5, 8] hm [0, 1, 2] [blk aE [(sV aI aJ u.codes.length aK)] 28, blk aC [(nV aB.params), (nV aB.regs), (sV aF aG aB.blocks.length aH)] 44, blk aD [aL, (.slice bY aA.ins.length bZ), (nV aA.jump), (nV aA.on), (.slice aT aA.next_.length aV)] 59] rfl mxo (by kernel_rfl) (fun _ _ _ h => h.2) fun w hm hS => tP rfl (fun w => yM rfl) (tP rfl (fun w => yF fo_59_1 rfl) (tP rfl (fun w => yM rfl) (tQ rfl hS (fun w hm => yn (hm.blk_at 0 rfl) isAgg28 sizeOf28 rfl) (tO (tY rfl (yL hm 2 isAgg56 rfl) (tAs hS (gg fun b6 b7 al => ?_))))))))))))))))
   obtain ⟨cd, ce, cf, he⟩ := idx_form' aS al
   obtain ⟨rfl, _, rfl⟩ := sl3 he
   obtain ⟨b8, b9, ba⟩ := rk_Ins_ aS al
   refine tP rfl (fun w => yI st_56 b7 (idx_lt al) rfl) (tO (tY rfl (yn (b9.mono hm.lez) isAgg61 sizeOf61 rfl) (tAs hS (tO (gb fun cg bb => tf rfl rfl (fun a hf => e_call hf rfl call113 rfl (spec_l7Ins_ok _ u (sV aI aJ u.codes.length aK) (hm.now h1) k_ b6 b8 (hm.now ba) _ bb)) ?_)))))
   rintro cj w ⟨rfl, hB⟩
   replace hm := hm.below' hB; clear hB
   refine tAn rfl (tP rfl (fun w => yN rfl) (tE (gsn 87 rfl (fun bc => ?_) fun bc => ?_)))
   ·
    exact gct rfl (gS (gR (gA rfl (gE (gRt (gLr bX bW (gr1 results63 rfl ⟨rfl, hm.below⟩)))))))
   exact gcf rfl (gSk (gR (gM rfl (gP (by omega) (by omega) rfl (gA rfl (gE (gze hm [0, 1, 2] rfl)))))))
  repeat clear hm
  intro ck cl w hm cm cn
  refine gS (gS (gR (gM rfl (gF fo_59_1 rfl (gL hm 2 isAgg56 rfl ?_)))))
  obtain ⟨am, an, rfl, co⟩ := ro_slice aS
  refine gY (yV st_56 rfl) (gB rfl (gE (go _ 76 rfl (decide_eq_false (by omega)) (gcf rfl (gXt (gHh (gS (gR (gY (yn (hm.blk_at 1 rfl) isAgg44 sizeOf44 rfl) (gM rfl (gCg rfl call66 (spec_l7Preds_ok _ aB (sV aF aG aB.blocks.length aH) (hm.now aO) b_) ?_)))))))))))
  rintro aM cq cr w ⟨_, rfl, hB⟩
  replace hm := hm.give hB; clear hB
  refine gA rfl (gE (gS (gS (gR (gA rfl (gE ?_))))))
  obtain ⟨aW, aX, rfl, ct⟩ := ro_slice (hm.ow_rep 0 rfl)
  refine gBk (gNf hm (fun ac ay => [(2, (nV b_)), (7, (pV aC)), (8, (pV aD)), (12, (.slice aW aM.length aX)), (13, (nV ac))]) (fun ac ay => [blk aC [(nV aB.params), (nV aB.regs), (sV aF aG aB.blocks.length aH)] 44, blk aD [aL, (.slice am aA.ins.length an), (nV aA.jump), (nV aA.on), (.slice aT aA.next_.length aV)] 59, ow [(.slice aW aM.length aX)] aM]) [2, 3, 0] rfl ?_ ?_)
  ·
   repeat clear hm
   intro cu bd ac ay w hm cv cw cx be
   refine gS (gS (gR (gM rfl (gF fo_59_0 rfl (gL hm 1 isAgg55 rfl ?_)))))
   obtain ⟨az, bA, rfl, cy⟩ := ro_slice aR
   refine gY (yV st_55 rfl) (gB rfl (gE (go _ 95 rfl (decide_eq_true (by omega)) (gct rfl (gSk (gS (gBk (gS (gJ hm (fun ae => [(2, (nV b_)), (7, (pV aC)), (8, (pV aD)), (12, (.slice aW aM.length aX)), (13, (nV ac)), (135, (.bool (ae)))]) (fun ae => [blk aC [(nV aB.params), (nV aB.regs), (sV aF aG aB.blocks.length aH)] 44, blk aD [(.slice az aA.phis.length bA), (.slice am aA.ins.length an), (nV aA.jump), (nV aA.on), (.slice aT aA.next_.length aV)] 59, ow [(.slice aW aM.length aX)] aM]) (fun ae => ?_) ?_)))))))))
   ·
    refine gW (.p 0 (.p 1 (.p 2 (.p 3 (.p 5 (.p 10 (.p 11 (.e 4 (.p 6 (.p 7 (.e 8 (.p 9 (.p 12 (.p 13 (.p 14 (.p 16 (.p 18 (.q 15 (.e 17 (.p 19 (.p 20 (.e 21 (.e 22 (.p 23 (.p 24 (.p 25 (.p 26 (.p 28 (.p 32 (.q 27 (.p 29 (.p 30 (.q 31 (.e 33 (.p 34 (.e 35 (.p 36 (.p 37 .fin)) .nil)) .nil))))))))))) .nil) .nil))) .nil)))))))) .nil))) .nil)))))))) [17, 21, 33] [0, 1, 2, 3, 5, 6, 7, 9, 10, 11, 12, 13, 14, 16, 18, 19, 20, 23, 24, 25, 26, 28, 29, 30, 32, 34, 36, 37] hm [0, 1, 2] [blk aC [(nV aB.params), (nV aB.regs), (sV aF aG aB.blocks.length aH)] 44, blk aD [(.slice az aA.phis.length bA), (.slice am aA.ins.length an), (nV aA.jump), (nV aA.on), (.slice aT aA.next_.length aV)] 59, ow [(.slice aW aM.length aX)] aM] rfl mxo (by kernel_rfl) (fun _ _ _ h => h.2) fun w hm hS => tP rfl (fun w => yM rfl) (tP rfl (fun w => yB rfl) (tP rfl (fun w => yM rfl) (gsd 100 rfl (fun bf => ?_) fun bf => ?_)))
    ·
     refine tPo rfl rfl (tPo rfl rfl (tPo rfl rfl (tPo rfl rfl (tO (tEo rfl rfl (tAn rfl (tPo rfl rfl (tPo rfl rfl (tO (tEo rfl rfl (tAn rfl (tPo rfl rfl (tPo rfl rfl (tP rfl (fun w => yKt rfl) (tP rfl (fun w => yM rfl) (tPo rfl rfl (tPo rfl rfl (tQo rfl hS rfl (tO (tEo rfl rfl (tAs hS (tPo rfl rfl (tPo rfl rfl (tO (tEo rfl rfl (tAs hS (tO (tEo rfl rfl (tAn rfl (tPo rfl rfl ?_))))))))))))))))))))))))))))))
     exact tP rfl (fun w => yKt rfl) (tP rfl (fun w => yM rfl) (tPo rfl rfl (tPo rfl rfl (tPo rfl rfl (tQo rfl hS rfl (tPo rfl rfl (tPo rfl rfl (tQo rfl hS rfl (tO (tEo rfl rfl (tAs hS (tPo rfl rfl (tO (tEo rfl rfl (tAn rfl (tPo rfl rfl (tP rfl (fun w => yKt rfl) (tE (gz hm [0, 1, 2] rfl)))))))))))))))))))
    refine tP rfl (fun w => yF fo_59_0 rfl) (tP rfl (fun w => yM rfl) (tP rfl (fun w => yM rfl) (tP rfl (fun w => yV st_57 rfl) (tO (tY rfl (yL hm 1 isAgg55 rfl) (tAn rfl (gg fun ao ap aY => ?_)))))))
    obtain ⟨cz, dA, dB, he⟩ := idx_form' aR aY
    obtain ⟨rfl, _, rfl⟩ := sl3 he
    obtain ⟨dC, aq, bB⟩ := rk_Phi_ aR aY
    refine tP rfl (fun w => yI st_55 ap (idx_lt aY) rfl) (tP rfl (fun w => yF fo_87_1 rfl) (tO (tY rfl (yl isAgg57 ((aq.mono hm.lez).cell (j := 1) rfl) rfl) (tAn rfl ?_))))
    obtain ⟨bg, bh, rfl, dD⟩ := ro_slice bB
    refine tP rfl (fun w => yV st_57 rfl) (tP rfl (fun w => yB rfl) (tP rfl (fun w => yKf rfl) (tP rfl (fun w => yM rfl) (gsd 112 rfl (fun bj => ?_) fun bj => ?_))))
    ·
     refine tPo rfl rfl (tPo rfl rfl (tQo rfl hS rfl (tO (tEo rfl rfl (tAs hS (tPo rfl rfl (tPo rfl rfl (tO (tEo rfl rfl (tAs hS (tO (tEo rfl rfl (tAn rfl (tPo rfl rfl (tP rfl (fun w => yKt rfl) (tP rfl (fun w => yM rfl) (tPo rfl rfl (tPo rfl rfl (tPo rfl rfl (tQo rfl hS rfl (tPo rfl rfl (tPo rfl rfl (tQo rfl hS rfl (tO (tEo rfl rfl (tAs hS (tPo rfl rfl (tO (tEo rfl rfl (tAn rfl ?_))))))))))))))))))))))))))))))
     exact tPo rfl rfl (tP rfl (fun w => yKt rfl) (tE (gz hm [0, 1, 2] rfl)))
    refine tP rfl (fun w => yF fo_59_0 rfl) (tP rfl (fun w => yM rfl) (tQ rfl hS (fun w hm => yn (hm.blk_at 0 rfl) isAgg44 sizeOf44 rfl) (tO (tY rfl (yL hm 1 isAgg55 rfl) (tAs hS (tP rfl (fun w => yI st_55 ap (idx_lt aY) rfl) (tP rfl (fun w => yF fo_87_1 rfl) (tO (tY rfl (yl isAgg57 ((aq.mono hm.lez).cell (j := 1) rfl) rfl) (tAs hS (tO (gb fun dE bk => tf rfl rfl (fun a hf => e_call hf rfl call114 rfl (spec_l7Regs_ok _ aB (sV aF aG aB.blocks.length aH) (hm.now aO) ao.args (.slice bg ao.args.length bh) (hm.now bB) _ bk)) ?_))))))))))))
    rintro dF w ⟨rfl, hB⟩
    replace hm := hm.below' hB; clear hB
    refine tAk hm [0, 1, 2] rfl fun hS => tP rfl (fun w => yN rfl) (tP rfl (fun w => yKf rfl) (tP rfl (fun w => yM rfl) (gsn 123 rfl (fun bl => ?_) fun bl => ?_)))
    ·
     exact tPo rfl rfl (tPo rfl rfl (tPo rfl rfl (tQo rfl hS rfl (tPo rfl rfl (tPo rfl rfl (tQo rfl hS rfl (tO (tEo rfl rfl (tAs hS (tPo rfl rfl (tO (tEo rfl rfl (tAn rfl (tPo rfl rfl (tP rfl (fun w => yKt rfl) (tE (gz hm [0, 1, 2] rfl)))))))))))))))))
    refine tP rfl (fun w => yF fo_59_0 rfl) (tP rfl (fun w => yM rfl) (tP rfl (fun w => yF fo_44_1 rfl) (tQ rfl hS (fun w hm => yL hm 1 isAgg55 rfl) (tP rfl (fun w => yI st_55 ap (idx_lt aY) rfl) (tP rfl (fun w => yF fo_87_0 rfl) (tQ rfl hS (fun w hm => yl isAgg3 ((aq.mono hm.lez).cell (j := 0) rfl) rfl) (tO (tY rfl (yL hm 0 isAgg3 rfl) (tAs hS (tP rfl (fun w => yB rfl) (tO (gb fun dG bm => tf rfl rfl (fun a hf => e_call hf rfl call39 rfl (spec_l1In_ok _ ao.to 0 (w64 (aB.regs - 1)) _ bm)) ?_))))))))))))
    rintro dH w ⟨rfl, hB⟩
    replace hm := hm.below' hB; clear hB
    exact tAn rfl (tP rfl (fun w => yN rfl) (tP rfl (fun w => yKf rfl) (tE (gz hm [0, 1, 2] rfl))))
   repeat clear hm
   intro ae w hm
   refine gs 135 rfl (fun bo => ?_) fun bo => ?_
   ·
    exact gct rfl (gS (gR (gA rfl (gE (gRt (gLr be bd (gr1 results63 rfl ⟨rfl, hm.below⟩)))))))
   exact gcf rfl (gSk (gR (gM rfl (gP (by omega) (by omega) rfl (gA rfl (gE (gze hm [0, 1, 2] rfl)))))))
  repeat clear hm
  intro dI dJ w hm dK dL
  refine gS (gS (gR (gM rfl (gF fo_59_0 rfl (gL hm 1 isAgg55 rfl ?_)))))
  obtain ⟨dM, dN, rfl, dO⟩ := ro_slice aR
  exact gY (yV st_55 rfl) (gB rfl (gE (go _ 95 rfl (decide_eq_false (by omega)) (gcf rfl (gXt (gHh (gS (gR (gA rfl (gE (gRt (gr1 results63 rfl ⟨rfl, hm.below⟩))))))))))))
theorem spec_UnitValid_ok (w0 : World) (u : Unit_) (v1 : Value) (h1 : GT.rep (hp w0) [v1] u.codes) :
    ConM Tryz.prog 27 [(.agg #[v1])] w0 (spec_UnitValid u) fun r v w' => v = (.bool (r)) ∧ Below w0.heap.size w0 w' := by
  unfold spec_UnitValid
  refine gcon func27 rfl fun r => ?_
  have hm := Mem.start w0
  refine gS (gR (gBx hm rfl fun aB w hm => gA rfl (gE (gS (gS (gR (gF fo_28_0 rfl (gL hm 0 isAgg26 rfl ?_))))))))
  obtain ⟨aX, aE, rfl, ao⟩ := ro_slice h1
  refine gY (yV st_26 rfl) (gC hm rfl call39 (spec_l1In_ok _ (u.codes.length : Int) 1 4) fun ap aq w hm => gN rfl (gE (gsn 11 rfl (fun aY => ?_) fun aY => ?_)))
  ·
   exact gct rfl (gS (gR (gA rfl (gE (gRt (gr1 results27 rfl ⟨rfl, hm.below⟩))))))
  refine gcf rfl (gSk (gS (gR (gA rfl (gE (gS (gS (gR (gA rfl (gE (gBk (gNf hm (fun aC aJ => [(1, (pV aB)), (3, (nV aJ)), (4, (nV aC))]) (fun aC aJ => [blk aB [(.slice aX u.codes.length aE)] 28]) [0] rfl ?_ ?_))))))))))))
  ·
   repeat clear hm
   intro ar aP aC aJ w hm au av aw aQ
   refine gS (gS (gR (gM rfl (gF fo_28_0 rfl (gL hm 0 isAgg26 rfl (gY (yV st_26 rfl) (gB rfl (gE (go _ 16 rfl (decide_eq_true (by omega)) (gct rfl (gSk (gS (gBk (gS (gR (gF fo_28_0 rfl (gL hm 0 isAgg26 rfl (gM rfl (gg fun aA aZ aO => ?_)))))))))))))))))))
   obtain ⟨aG, aH, ax, he⟩ := idx_form' h1 aO
   obtain ⟨rfl, _, rfl⟩ := sl3 he
   obtain ⟨aR, aa, aF⟩ := rk_Code_ h1 aO
   refine gI st_26 aZ (idx_lt aO) rfl (gY (yn (aa.mono hm.lez) isAgg44 sizeOf44 rfl) (gAl hm zeroValue44 rfl fun aD w hm => gSN hm 0 sizeOf44 (one_cons rfl (one_cons rfl (one_cons (rep_one aF) one_nil))) rfl fun w hm => gE (gS (gS (gJ hm (fun aK => [(1, (pV aB)), (3, (nV aJ)), (4, (nV aC)), (5, (pV aD)), (42, (.bool (aK)))]) (fun aK => [blk aB [(sV aG aH u.codes.length aE)] 28, blk aD [(nV aA.params), (nV aA.regs), aR] 44]) (fun aK => ?_) ?_)))))
   ·
    refine gR (gF fo_44_0 rfl (gL hm 0 isAgg3 rfl (gC hm rfl call39 (spec_l1In_ok _ aA.params 0 3) fun ay az w hm => gN rfl (gM rfl (gsn 28 rfl (fun ab => ?_) fun ab => ?_)))))
    ·
     exact gO rfl (gO rfl (gO rfl (gO rfl (gO rfl (gO rfl (gKt rfl (gM rfl (gO rfl (gO rfl (gO rfl (gO rfl (gO rfl (gKt rfl (gE (gz hm [1, 0] rfl)))))))))))))))
    refine gF fo_44_1 rfl (gL hm 0 isAgg3 rfl (gF fo_44_0 rfl (gL hm 0 isAgg3 rfl (gC hm rfl call39 (spec_l1In_ok _ aA.regs aA.params 300) fun bA bB w hm => gN rfl (gKf rfl (gM rfl (gsn 36 rfl (fun ac => ?_) fun ac => ?_)))))))
    ·
     exact gO rfl (gO rfl (gO rfl (gO rfl (gO rfl (gKt rfl (gE (gz hm [1, 0] rfl)))))))
    refine gF fo_44_2 rfl (gL hm 0 isAgg42 rfl ?_)
    obtain ⟨bC, bD, rfl, bE⟩ := ro_slice aF
    exact gY (yV st_42 rfl) (gC hm rfl call39 (spec_l1In_ok _ (aA.blocks.length : Int) 1 160) fun bF bG w hm => gN rfl (gKf rfl (gE (gz hm [1, 0] rfl))))
   repeat clear hm
   intro aK w hm
   refine gs 42 rfl (fun ae => ?_) fun ae => ?_
   ·
    exact gct rfl (gS (gR (gA rfl (gE (gRt (gLr aQ aP (gr1 results27 rfl ⟨rfl, hm.below⟩)))))))
   refine gcf rfl (gSk (gS (gR (gA rfl (gE (gBk (gNf hm (fun aI aL => [(1, (pV aB)), (3, (nV aL)), (4, (nV aC)), (5, (pV aD)), (6, (nV aI))]) (fun aI aL => [blk aB [(sV aG aH u.codes.length aE)] 28, blk aD [(nV aA.params), (nV aA.regs), aR] 44]) [0, 1] rfl ?_ ?_)))))))
   ·
    repeat clear hm
    intro bH af aI aL w hm bJ bK bL ag
    refine gS (gS (gR (gM rfl (gF fo_44_2 rfl (gL hm 1 isAgg42 rfl ?_)))))
    obtain ⟨ah, aS, rfl, bM⟩ := ro_slice aF
    refine gY (yV st_42 rfl) (gB rfl (gE (go _ 47 rfl (decide_eq_true (by omega)) (gct rfl (gSk (gS (gBk (gS (gW (.p 0 (.p 1 (.p 3 (.p 9 (.p 11 (.q 2 (.p 4 (.p 5 (.q 6 (.p 7 (.p 8 (.e 10 (.p 12 (.p 13 (.e 14 (.p 15 (.p 16 (.p 17 .fin))) .nil))) .nil)))))))))))) [10, 14] [0, 1, 3, 4, 5, 7, 8, 9, 11, 12, 13, 15, 16, 17] hm [0, 1] [blk aB [(sV aG aH u.codes.length aE)] 28, blk aD [(nV aA.params), (nV aA.regs), (.slice ah aA.blocks.length aS)] 44] rfl mxo (by kernel_rfl) (fun _ _ _ h => h.2) fun w hm hS => tP rfl (fun w => yM rfl) (tP rfl (fun w => yF fo_44_2 rfl) (tP rfl (fun w => yM rfl) (tP rfl (fun w => yF fo_44_2 rfl) (tP rfl (fun w => yM rfl) (tQ rfl hS (fun w hm => yL hm 1 isAgg42 rfl) (gg fun aT aV aM => ?_)))))))))))))))
    obtain ⟨ai, aj, bN, he⟩ := idx_form' aF aM
    obtain ⟨rfl, _, rfl⟩ := sl3 he
    obtain ⟨bO, bP, bQ, aW, ak, al, bR⟩ := rk_Block_ aF aM
    refine tP rfl (fun w => yI st_42 aV (idx_lt aM) rfl) (tP rfl (fun w => yF fo_59_1 rfl) (tQ rfl hS (fun w hm => yl isAgg56 ((aW.mono hm.lez).cell (j := 1) rfl) rfl) ?_))
    obtain ⟨bS, bT, rfl, bU⟩ := ro_slice al
    refine tP rfl (fun w => yV st_56 rfl) (tP rfl (fun w => yB rfl) (tO (tY rfl (yL hm 1 isAgg42 rfl) (tAs hS (tP rfl (fun w => yI st_42 aV (idx_lt aM) rfl) (tP rfl (fun w => yF fo_59_0 rfl) (tO (tY rfl (yl isAgg55 ((aW.mono hm.lez).cell (j := 0) rfl) rfl) (tAs hS ?_)))))))))
    obtain ⟨bV, bW, rfl, bX⟩ := ro_slice ak
    refine tP rfl (fun w => yV st_55 rfl) (tP rfl (fun w => yB rfl) (tP rfl (fun w => yA rfl) (tE (gS (gJ hm (fun aN => [(1, (pV aB)), (3, (nV (w64 ((w64 (aL + ((aT.ins.length : Int)))) + ((aT.phis.length : Int)))))), (4, (nV aC)), (5, (pV aD)), (6, (nV aI)), (75, (.bool (aN)))]) (fun aN => [blk aB [(sV aG aH u.codes.length aE)] 28, blk aD [(nV aA.params), (nV aA.regs), (sV ai aj aA.blocks.length aS)] 44]) (fun aN => ?_) ?_)))))
    ·
     refine gR (gM rfl (gB rfl (gM rfl (gsd 69 rfl (fun am => ?_) fun am => ?_))))
     ·
      exact gO rfl (gO rfl (gO rfl (gO rfl (gO rfl (gKt rfl (gE (gz hm [0, 1] rfl)))))))
     exact gY (yn (hm.blk_at 0 rfl) isAgg28 sizeOf28 rfl) (gM rfl (gM rfl (gC hm rfl call63 (spec_l7Block_ok _ u (sV aG aH u.codes.length aE) (hm.now h1) aC aI) fun bY bZ w hm => gN rfl (gKf rfl (gE (gz hm [0, 1] rfl))))))
    repeat clear hm
    intro aN w hm
    refine gs 75 rfl (fun an => ?_) fun an => ?_
    ·
     exact gct rfl (gS (gR (gA rfl (gE (gRt (gLr ag af (gLr aQ aP (gr1 results27 rfl ⟨rfl, hm.below⟩))))))))
    exact gcf rfl (gSk (gR (gM rfl (gP (by omega) (by omega) rfl (gA rfl (gE (gze hm [0, 1] rfl)))))))
   repeat clear hm
   intro b6 b7 w hm b8 b9
   refine gS (gS (gR (gM rfl (gF fo_44_2 rfl (gL hm 1 isAgg42 rfl ?_)))))
   obtain ⟨ba, bb, rfl, bc⟩ := ro_slice aF
   exact gY (yV st_42 rfl) (gB rfl (gE (go _ 47 rfl (decide_eq_false (by omega)) (gcf rfl (gXt (gHh (gR (gM rfl (gP (by omega) (by omega) rfl (gA rfl (gE (gze hm [0] rfl))))))))))))
  repeat clear hm
  intro bd be w hm bf bg
  exact gS (gS (gR (gM rfl (gF fo_28_0 rfl (gL hm 0 isAgg26 rfl (gY (yV st_26 rfl) (gB rfl (gE (go _ 16 rfl (decide_eq_false (by omega)) (gcf rfl (gXt (gHh (gS (gR (gA rfl (gE (gRt (gr1 results27 rfl ⟨rfl, hm.below⟩))))))))))))))))))
abbrev od117_1 : Go.Wk.Ord := (.p 10 (.e 12 .fin .nil))
abbrev od117_2 : Go.Wk.Ord := (.p 10 (.e 11 (.e 12 .fin .nil) .nil))
abbrev od117_3 : Go.Wk.Ord := (.e 9 od117_2 (.e 11 (.e 9 od117_1 .nil) .nil))
abbrev od117_4 : Go.Wk.Ord := (.e 6 (.e 9 od117_1 .nil) .nil)
abbrev od117_5 : Go.Wk.Ord := (.e 1 od117_2 (.e 11 (.e 1 od117_1 .nil) .nil))
abbrev od117_6 : Go.Wk.Ord := (.e 1 (.e 9 od117_1 .nil) (.e 9 (.e 1 od117_1 .nil) .nil))
abbrev od117_7 : Go.Wk.Ord := (.e 0 od117_2 (.e 11 (.e 0 od117_1 .nil) .nil))
abbrev od117_8 : Go.Wk.Ord := (.e 0 (.e 9 od117_1 .nil) (.e 9 (.e 0 od117_1 .nil) .nil))
abbrev od117_9 : Go.Wk.Ord := (.e 0 (.e 1 od117_1 .nil) (.e 1 (.e 0 od117_1 .nil) .nil))
abbrev od117_10 : Go.Wk.Ord := (.e 6 od117_3 (.e 11 od117_4 .nil))
abbrev od117_11 : Go.Wk.Ord := (.e 1 od117_3 (.e 9 od117_5 (.e 11 od117_6 .nil)))
abbrev od117_12 : Go.Wk.Ord := (.e 1 od117_4 (.e 6 od117_6 .nil))
abbrev od117_13 : Go.Wk.Ord := (.e 0 od117_3 (.e 9 od117_7 (.e 11 od117_8 .nil)))
abbrev od117_14 : Go.Wk.Ord := (.e 0 od117_4 (.e 6 od117_8 .nil))
abbrev od117_15 : Go.Wk.Ord := (.e 0 od117_6 (.e 1 od117_8 (.e 9 od117_9 .nil)))
theorem spec_l7CopyBlock_ok (w0 : World) (b_ : Block_) (v1 : Value) (h1 : GT.rep (hp w0) [v1] b_.phis) (v2 : Value) (h2 : GT.rep (hp w0) [v2] b_.ins) (v3 : Value) (h3 : GT.rep (hp w0) [v3] b_.next_) :
    ConM Tryz.prog 117 [(.agg #[v1, v2, (nV b_.jump), (nV b_.on), v3])] w0 (spec_l7CopyBlock b_) fun r v w' => ∃ (x1 : Value) (x2 : Value) (x3 : Value), v = (.agg #[x1, x2, (nV r.jump), (nV r.on), x3]) ∧ Mem w0 (hp w0) w' [ow [x1] r.phis, ow [x2] r.ins, ow [x3] r.next_] := by
  unfold spec_l7CopyBlock
  refine gcon func117 rfl fun r => ?_
  have hm := Mem.start w0
  refine gS (gR (gBx hm rfl fun aB w hm => gAl hm zeroValue59 rfl fun aC w hm => gE (gS (gJg (fun aD a w => ∃ (aI : Nat) (bt bu bv : Value), St 74 [(1, (pV aB)), (2, (pV aC)), (3, (pV aI))] w0 (hp w0) [blk aB [v1, v2, (nV b_.jump), (nV b_.on), v3] 59, blk aC [(.slice none 0 0), (.slice none 0 0), (nV 0), (nV 0), (.slice none 0 0)] 59, blk aI [bt, bu, (nV b_.jump), (nV b_.on), bv] 59, ow [bt] ([] : List Phi_), ow [bu] ([] : List Ins_), ow [bv] aD] a w) (fun aD => ?_) ?_))))
  ·
   refine gW (.p 2 (.p 4 (.p 7 (.q 3 (.q 5 (.q 8 (.e 0 (.e 1 od117_10 (.e 6 od117_11 (.e 11 od117_12 .nil))) (.e 1 (.e 0 od117_10 (.e 6 od117_13 (.e 11 od117_14 .nil))) (.e 6 (.e 0 od117_11 (.e 1 od117_13 (.e 9 (.e 0 od117_5 (.e 1 od117_7 (.e 11 od117_9 .nil))) (.e 11 od117_15 .nil)))) (.e 11 (.e 0 od117_12 (.e 1 od117_14 (.e 6 od117_15 .nil))) .nil)))))))))) [0, 1, 3, 5, 6, 8, 9, 11] [2, 4, 7, 10] hm [0, 1] [blk aC [(.slice none 0 0), (.slice none 0 0), (nV 0), (nV 0), (.slice none 0 0)] 59, blk aB [v1, v2, (nV b_.jump), (nV b_.on), v3] 59] rfl mxo (by kernel_rfl) (fun _ _ _ h => h.2) fun w hm hS => tP rfl (fun w => yF fo_59_2 rfl) (tP rfl (fun w => yF fo_59_3 rfl) (tP rfl (fun w => yF fo_59_4 rfl) (tQ rfl hS (fun w hm => yL hm 1 isAgg3 rfl) (tQ rfl hS (fun w hm => yL hm 1 isAgg3 rfl) (tQ rfl hS (fun w hm => yL hm 1 isAgg57 rfl) (gb fun aN aY => tSh ((.e 12 .fin .nil)) (fun a w => ∃ (bV : Nat) (bW bX bY : Value), St 74 [(1, (pV aB)), (2, (pV aC)), (3, (pV bV)), (17, (.agg #[bW, bX, (nV b_.jump), (nV b_.on), bY]))] w0 (hp w0) [blk aB [v1, v2, (nV b_.jump), (nV b_.on), v3] 59, blk aC [(.slice none 0 0), (.slice none 0 0), (nV 0), (nV 0), (.slice none 0 0)] 59, blk bV [(.slice none 0 0), (.slice none 0 0), (nV 0), (nV 0), (.slice none 0 0)] 59, ow [bW] ([] : List Phi_), ow [bX] ([] : List Ins_), ow [bY] aN] a w) ?_ fun hT2_1 => ?_))))))
   ·
    rintro a w ⟨bV, bW, bX, bY, hf, hm⟩
    refine tSv hf hm [1, 0] rfl fun hS => tO (tf0 rfl rfl (fun a hf => e_storeN 2 hf hm rfl sizeOf59 rfl rfl rfl (one_cons (rep_one (hm.ow_rep 3 rfl)) (one_cons (rep_one (hm.ow_rep 4 rfl)) (one_cons rfl (one_cons rfl (one_cons (rep_one (hm.ow_rep 5 rfl)) one_nil))))) rfl rfl) ?_)
    rintro _ w hm
    exact tAn rfl (tE (gZ fun a hf => ⟨bV, bW, bX, bY, hf.sb rfl, hm.pk [0, 1, 2, 3, 4, 5] rfl rfl⟩))
   refine tSh (od117_1) (fun a w => ∃ (bZ : Nat) (bw bx bz : Value), St 74 [(1, (pV aB)), (2, (pV aC)), (3, (pV bZ)), (7, bw), (8, bx), (10, (nV b_.jump)), (12, (nV b_.on)), (16, bz)] w0 (hp w0) [blk aB [v1, v2, (nV b_.jump), (nV b_.on), v3] 59, blk aC [(.slice none 0 0), (.slice none 0 0), (nV 0), (nV 0), (.slice none 0 0)] 59, blk bZ [(.slice none 0 0), (.slice none 0 0), (nV 0), (nV 0), (.slice none 0 0)] 59, ow [bw] ([] : List Phi_), ow [bx] ([] : List Ins_), ow [bz] aN] a w) ?_ fun hT2_2 => ?_
   ·
    rintro a w ⟨bZ, bw, bx, bz, hf, hm⟩
    refine tSv hf hm [1, 0] rfl fun hS => ?_
    obtain ⟨ag, ah, rfl, cP⟩ := ro_slice (hm.ow_rep 3 rfl)
    obtain ⟨ai, aj, rfl, cQ⟩ := ro_slice (hm.ow_rep 4 rfl)
    obtain ⟨ak, al, rfl, cR⟩ := ro_slice (hm.ow_rep 5 rfl)
    exact tP rfl (fun w => yG rfl (y_build (vs := [(0, (.slice ag ([] : List Phi_).length ah)), (1, (.slice ai ([] : List Ins_).length aj)), (2, (nV b_.jump)), (3, (nV b_.on)), (4, (.slice ak aN.length al))]) (cs := #[(.slice ag ([] : List Phi_).length ah), (.slice ai ([] : List Ins_).length aj), (nV b_.jump), (nV b_.on), (.slice ak aN.length al)]) rfl rfl (by kernel_rfl))) (tUse hT2_1 fun a hf => ⟨bZ, (.slice ag ([] : List Phi_).length ah), (.slice ai ([] : List Ins_).length aj), (.slice ak aN.length al), hf.sb rfl, hm.pk [0, 1, 2, 3, 4, 5] rfl rfl⟩)
   refine tSh ((.e 0 od117_1 .nil)) (fun a w => ∃ (b6 : Nat) (b7 b8 : Value), St 74 [(1, (pV aB)), (2, (pV aC)), (3, (pV b6)), (8, b7), (10, (nV b_.jump)), (12, (nV b_.on)), (16, b8)] w0 (hp w0) [blk aB [v1, v2, (nV b_.jump), (nV b_.on), v3] 59, blk aC [(.slice none 0 0), (.slice none 0 0), (nV 0), (nV 0), (.slice none 0 0)] 59, blk b6 [(.slice none 0 0), (.slice none 0 0), (nV 0), (nV 0), (.slice none 0 0)] 59, ow [b7] ([] : List Ins_), ow [b8] aN] a w) ?_ fun hT2_3 => ?_
   ·
    rintro a w ⟨b6, b7, b8, hf, hm⟩
    refine tSv hf hm [1, 0] rfl fun hS => tO (tf rfl rfl (fun a hf => e_build0 (α := Phi_) et_55 hm rfl) ?_)
    rintro aE w hm
    exact tAk hm [2, 1] rfl fun hS => tUse hT2_2 fun a hf => ⟨b6, aE, b7, b8, hf.sb rfl, hm.pk [1, 2, 3, 0, 4, 5] rfl rfl⟩
   refine tSh ((.e 1 od117_1 .nil)) (fun a w => ∃ (b9 : Nat) (ba bb : Value), St 74 [(1, (pV aB)), (2, (pV aC)), (3, (pV b9)), (7, ba), (10, (nV b_.jump)), (12, (nV b_.on)), (16, bb)] w0 (hp w0) [blk aB [v1, v2, (nV b_.jump), (nV b_.on), v3] 59, blk aC [(.slice none 0 0), (.slice none 0 0), (nV 0), (nV 0), (.slice none 0 0)] 59, blk b9 [(.slice none 0 0), (.slice none 0 0), (nV 0), (nV 0), (.slice none 0 0)] 59, ow [ba] ([] : List Phi_), ow [bb] aN] a w) ?_ fun hT2_4 => ?_
   ·
    rintro a w ⟨b9, ba, bb, hf, hm⟩
    refine tSv hf hm [1, 0] rfl fun hS => tO (tf rfl rfl (fun a hf => e_build0 (α := Ins_) et_56 hm rfl) ?_)
    rintro aE w hm
    exact tAk hm [2, 1] rfl fun hS => tUse hT2_2 fun a hf => ⟨b9, ba, aE, bb, hf.sb rfl, hm.pk [1, 2, 3, 4, 0, 5] rfl rfl⟩
   refine tSh ((.e 9 od117_1 .nil)) (fun a w => ∃ (bc : Nat) (bd be cA : Value), St 74 [(1, (pV aB)), (2, (pV aC)), (3, (pV bc)), (7, bd), (8, be), (10, (nV b_.jump)), (12, (nV b_.on)), (13, cA), (15, v3)] w0 (hp w0) [blk aB [v1, v2, (nV b_.jump), (nV b_.on), v3] 59, blk aC [(.slice none 0 0), (.slice none 0 0), (nV 0), (nV 0), (.slice none 0 0)] 59, blk bc [(.slice none 0 0), (.slice none 0 0), (nV 0), (nV 0), (.slice none 0 0)] 59, ow [bd] ([] : List Phi_), ow [be] ([] : List Ins_), ow [cA] ([] : List Int)] a w) ?_ fun hT2_5 => ?_
   ·
    rintro a w ⟨bc, bd, be, cA, hf, hm⟩
    refine tSv hf hm [1, 0] rfl fun hS => tO ?_
    obtain ⟨aK, aL⟩ := appM_some.1 aY
    refine tf rfl rfl (fun a hf => e_append 5 et_57 hf hm rfl (hm.now h3) rfl rfl rfl aK) ?_
    rintro aE w hm
    rw [aL] at hm
    exact tAk hm [1, 0] rfl fun hS => tUse hT2_2 fun a hf => ⟨bc, bd, be, aE, hf.sb rfl, hm.pk [0, 1, 2, 3, 4, 5] rfl rfl⟩
   refine tSh (od117_2) (fun a w => ∃ (cB cC cD : Value), St 74 [(1, (pV aB)), (2, (pV aC)), (7, cB), (8, cC), (10, (nV b_.jump)), (12, (nV b_.on)), (16, cD)] w0 (hp w0) [blk aB [v1, v2, (nV b_.jump), (nV b_.on), v3] 59, blk aC [(.slice none 0 0), (.slice none 0 0), (nV 0), (nV 0), (.slice none 0 0)] 59, ow [cB] ([] : List Phi_), ow [cC] ([] : List Ins_), ow [cD] aN] a w) ?_ fun hT2_6 => ?_
   ·
    rintro a w ⟨cB, cC, cD, hf, hm⟩
    refine tSv hf hm [1, 0] rfl fun hS => ?_
    obtain ⟨ag, ah, rfl, cP⟩ := ro_slice (hm.ow_rep 2 rfl)
    obtain ⟨ai, aj, rfl, cQ⟩ := ro_slice (hm.ow_rep 3 rfl)
    obtain ⟨ak, al, rfl, cR⟩ := ro_slice (hm.ow_rep 4 rfl)
    refine tP rfl (fun w => yG rfl (y_build (vs := [(0, (.slice ag ([] : List Phi_).length ah)), (1, (.slice ai ([] : List Ins_).length aj)), (2, (nV b_.jump)), (3, (nV b_.on)), (4, (.slice ak aN.length al))]) (cs := #[(.slice ag ([] : List Phi_).length ah), (.slice ai ([] : List Ins_).length aj), (nV b_.jump), (nV b_.on), (.slice ak aN.length al)]) rfl rfl (by kernel_rfl))) (tO (tf rfl rfl (fun a hf => e_alloc hm zeroValue59 rfl rfl) ?_))
    rintro _ w ⟨aM, rfl, hm⟩
    exact tAk hm [2, 1] rfl fun hS => tUse hT2_1 fun a hf => ⟨aM, (.slice ag ([] : List Phi_).length ah), (.slice ai ([] : List Ins_).length aj), (.slice ak aN.length al), hf.sb rfl, hm.pk [1, 2, 0, 3, 4, 5] rfl rfl⟩
   refine tSh (od117_9) (fun a w => ∃ (ar : Nat) (au : Value), St 74 [(1, (pV aB)), (2, (pV aC)), (3, (pV ar)), (10, (nV b_.jump)), (12, (nV b_.on)), (16, au)] w0 (hp w0) [blk aB [v1, v2, (nV b_.jump), (nV b_.on), v3] 59, blk aC [(.slice none 0 0), (.slice none 0 0), (nV 0), (nV 0), (.slice none 0 0)] 59, blk ar [(.slice none 0 0), (.slice none 0 0), (nV 0), (nV 0), (.slice none 0 0)] 59, ow [au] aN] a w) ?_ fun hT2_7 => ?_
   ·
    rintro a w ⟨ar, au, hf, hm⟩
    refine tSv hf hm [1, 0] rfl fun hS => tMo ?_ ?_
    ·
     refine tf rfl rfl (fun a hf => e_build0 (α := Phi_) et_55 hm rfl) ?_
     rintro aE w hm
     exact tAk hm [2, 1] rfl fun hS => tUse hT2_4 fun a hf => ⟨ar, aE, au, hf.sb rfl, hm.pk [1, 2, 3, 0, 4] rfl rfl⟩
    refine tO (tf rfl rfl (fun a hf => e_build0 (α := Ins_) et_56 hm rfl) ?_)
    rintro aJ w hm
    exact tAk hm [2, 1] rfl fun hS => tUse hT2_3 fun a hf => ⟨ar, aJ, au, hf.sb rfl, hm.pk [1, 2, 3, 0, 4] rfl rfl⟩
   refine tSh (od117_8) (fun a w => ∃ (av : Nat) (aw bf : Value), St 74 [(1, (pV aB)), (2, (pV aC)), (3, (pV av)), (8, aw), (10, (nV b_.jump)), (12, (nV b_.on)), (13, bf), (15, v3)] w0 (hp w0) [blk aB [v1, v2, (nV b_.jump), (nV b_.on), v3] 59, blk aC [(.slice none 0 0), (.slice none 0 0), (nV 0), (nV 0), (.slice none 0 0)] 59, blk av [(.slice none 0 0), (.slice none 0 0), (nV 0), (nV 0), (.slice none 0 0)] 59, ow [aw] ([] : List Ins_), ow [bf] ([] : List Int)] a w) ?_ fun hT2_8 => ?_
   ·
    rintro a w ⟨av, aw, bf, hf, hm⟩
    refine tSv hf hm [1, 0] rfl fun hS => tMo ?_ ?_
    ·
     refine tf rfl rfl (fun a hf => e_build0 (α := Phi_) et_55 hm rfl) ?_
     rintro aE w hm
     exact tAk hm [2, 1] rfl fun hS => tUse hT2_5 fun a hf => ⟨av, aE, aw, bf, hf.sb rfl, hm.pk [1, 2, 3, 0, 4, 5] rfl rfl⟩
    refine tO ?_
    obtain ⟨aK, aL⟩ := appM_some.1 aY
    refine tf rfl rfl (fun a hf => e_append 4 et_57 hf hm rfl (hm.now h3) rfl rfl rfl aK) ?_
    rintro aJ w hm
    rw [aL] at hm
    exact tAk hm [1, 0] rfl fun hS => tUse hT2_3 fun a hf => ⟨av, aw, aJ, hf.sb rfl, hm.pk [0, 1, 2, 3, 4] rfl rfl⟩
   refine tSh (od117_7) (fun a w => ∃ (ax ay : Value), St 74 [(1, (pV aB)), (2, (pV aC)), (8, ax), (10, (nV b_.jump)), (12, (nV b_.on)), (16, ay)] w0 (hp w0) [blk aB [v1, v2, (nV b_.jump), (nV b_.on), v3] 59, blk aC [(.slice none 0 0), (.slice none 0 0), (nV 0), (nV 0), (.slice none 0 0)] 59, ow [ax] ([] : List Ins_), ow [ay] aN] a w) ?_ fun hT2_9 => ?_
   ·
    rintro a w ⟨ax, ay, hf, hm⟩
    refine tSv hf hm [1, 0] rfl fun hS => tMo ?_ ?_
    ·
     refine tf rfl rfl (fun a hf => e_build0 (α := Phi_) et_55 hm rfl) ?_
     rintro aE w hm
     exact tAk hm [2, 1] rfl fun hS => tUse hT2_6 fun a hf => ⟨aE, ax, ay, hf.sb rfl, hm.pk [1, 2, 0, 3, 4] rfl rfl⟩
    refine tO (tf rfl rfl (fun a hf => e_alloc hm zeroValue59 rfl rfl) ?_)
    rintro _ w ⟨aM, rfl, hm⟩
    exact tAk hm [2, 1] rfl fun hS => tUse hT2_3 fun a hf => ⟨aM, ax, ay, hf.sb rfl, hm.pk [1, 2, 0, 3, 4] rfl rfl⟩
   refine tSh (od117_6) (fun a w => ∃ (az : Nat) (bA bg : Value), St 74 [(1, (pV aB)), (2, (pV aC)), (3, (pV az)), (7, bA), (10, (nV b_.jump)), (12, (nV b_.on)), (13, bg), (15, v3)] w0 (hp w0) [blk aB [v1, v2, (nV b_.jump), (nV b_.on), v3] 59, blk aC [(.slice none 0 0), (.slice none 0 0), (nV 0), (nV 0), (.slice none 0 0)] 59, blk az [(.slice none 0 0), (.slice none 0 0), (nV 0), (nV 0), (.slice none 0 0)] 59, ow [bA] ([] : List Phi_), ow [bg] ([] : List Int)] a w) ?_ fun hT2_10 => ?_
   ·
    rintro a w ⟨az, bA, bg, hf, hm⟩
    refine tSv hf hm [1, 0] rfl fun hS => tMo ?_ ?_
    ·
     refine tf rfl rfl (fun a hf => e_build0 (α := Ins_) et_56 hm rfl) ?_
     rintro aE w hm
     exact tAk hm [2, 1] rfl fun hS => tUse hT2_5 fun a hf => ⟨az, bA, aE, bg, hf.sb rfl, hm.pk [1, 2, 3, 4, 0, 5] rfl rfl⟩
    refine tO ?_
    obtain ⟨aK, aL⟩ := appM_some.1 aY
    refine tf rfl rfl (fun a hf => e_append 4 et_57 hf hm rfl (hm.now h3) rfl rfl rfl aK) ?_
    rintro aJ w hm
    rw [aL] at hm
    exact tAk hm [1, 0] rfl fun hS => tUse hT2_4 fun a hf => ⟨az, bA, aJ, hf.sb rfl, hm.pk [0, 1, 2, 3, 4] rfl rfl⟩
   refine tSh (od117_5) (fun a w => ∃ (bB bC : Value), St 74 [(1, (pV aB)), (2, (pV aC)), (7, bB), (10, (nV b_.jump)), (12, (nV b_.on)), (16, bC)] w0 (hp w0) [blk aB [v1, v2, (nV b_.jump), (nV b_.on), v3] 59, blk aC [(.slice none 0 0), (.slice none 0 0), (nV 0), (nV 0), (.slice none 0 0)] 59, ow [bB] ([] : List Phi_), ow [bC] aN] a w) ?_ fun hT2_11 => ?_
   ·
    rintro a w ⟨bB, bC, hf, hm⟩
    refine tSv hf hm [1, 0] rfl fun hS => tMo ?_ ?_
    ·
     refine tf rfl rfl (fun a hf => e_build0 (α := Ins_) et_56 hm rfl) ?_
     rintro aE w hm
     exact tAk hm [2, 1] rfl fun hS => tUse hT2_6 fun a hf => ⟨bB, aE, bC, hf.sb rfl, hm.pk [1, 2, 3, 0, 4] rfl rfl⟩
    refine tO (tf rfl rfl (fun a hf => e_alloc hm zeroValue59 rfl rfl) ?_)
    rintro _ w ⟨aM, rfl, hm⟩
    exact tAk hm [2, 1] rfl fun hS => tUse hT2_4 fun a hf => ⟨aM, bB, bC, hf.sb rfl, hm.pk [1, 2, 0, 3, 4] rfl rfl⟩
   refine tSh (od117_4) (fun a w => ∃ (bh : Nat) (bj bk : Value), St 74 [(1, (pV aB)), (2, (pV aC)), (3, (pV bh)), (7, bj), (8, bk), (10, (nV b_.jump)), (12, (nV b_.on)), (15, v3)] w0 (hp w0) [blk aB [v1, v2, (nV b_.jump), (nV b_.on), v3] 59, blk aC [(.slice none 0 0), (.slice none 0 0), (nV 0), (nV 0), (.slice none 0 0)] 59, blk bh [(.slice none 0 0), (.slice none 0 0), (nV 0), (nV 0), (.slice none 0 0)] 59, ow [bj] ([] : List Phi_), ow [bk] ([] : List Ins_)] a w) ?_ fun hT2_12 => ?_
   ·
    rintro a w ⟨bh, bj, bk, hf, hm⟩
    refine tSv hf hm [1, 0] rfl fun hS => tO (tf rfl rfl (fun a hf => e_build0 (α := Int) et_57 hm rfl) ?_)
    rintro aE w hm
    exact tAk hm [2, 1] rfl fun hS => tUse hT2_5 fun a hf => ⟨bh, bj, bk, aE, hf.sb rfl, hm.pk [1, 2, 3, 4, 5, 0] rfl rfl⟩
   refine tSh (od117_3) (fun a w => ∃ (bD bE bl : Value), St 74 [(1, (pV aB)), (2, (pV aC)), (7, bD), (8, bE), (10, (nV b_.jump)), (12, (nV b_.on)), (13, bl), (15, v3)] w0 (hp w0) [blk aB [v1, v2, (nV b_.jump), (nV b_.on), v3] 59, blk aC [(.slice none 0 0), (.slice none 0 0), (nV 0), (nV 0), (.slice none 0 0)] 59, ow [bD] ([] : List Phi_), ow [bE] ([] : List Ins_), ow [bl] ([] : List Int)] a w) ?_ fun hT2_13 => ?_
   ·
    rintro a w ⟨bD, bE, bl, hf, hm⟩
    refine tSv hf hm [1, 0] rfl fun hS => tMo ?_ ?_
    ·
     obtain ⟨aK, aL⟩ := appM_some.1 aY
     refine tf rfl rfl (fun a hf => e_append 4 et_57 hf hm rfl (hm.now h3) rfl rfl rfl aK) ?_
     rintro aE w hm
     rw [aL] at hm
     exact tAk hm [1, 0] rfl fun hS => tUse hT2_6 fun a hf => ⟨bD, bE, aE, hf.sb rfl, hm.pk [0, 1, 2, 3, 4] rfl rfl⟩
    refine tO (tf rfl rfl (fun a hf => e_alloc hm zeroValue59 rfl rfl) ?_)
    rintro _ w ⟨aM, rfl, hm⟩
    exact tAk hm [2, 1] rfl fun hS => tUse hT2_5 fun a hf => ⟨aM, bD, bE, bl, hf.sb rfl, hm.pk [1, 2, 0, 3, 4, 5] rfl rfl⟩
   refine tSh (od117_15) (fun a w => ∃ (am : Nat) (bF : Value), St 74 [(1, (pV aB)), (2, (pV aC)), (3, (pV am)), (10, (nV b_.jump)), (12, (nV b_.on)), (13, bF), (15, v3)] w0 (hp w0) [blk aB [v1, v2, (nV b_.jump), (nV b_.on), v3] 59, blk aC [(.slice none 0 0), (.slice none 0 0), (nV 0), (nV 0), (.slice none 0 0)] 59, blk am [(.slice none 0 0), (.slice none 0 0), (nV 0), (nV 0), (.slice none 0 0)] 59, ow [bF] ([] : List Int)] a w) ?_ fun hT2_14 => ?_
   ·
    rintro a w ⟨am, bF, hf, hm⟩
    refine tSv hf hm [1, 0] rfl fun hS => tMo ?_ ?_
    ·
     refine tf rfl rfl (fun a hf => e_build0 (α := Phi_) et_55 hm rfl) ?_
     rintro aE w hm
     exact tAk hm [2, 1] rfl fun hS => tUse hT2_10 fun a hf => ⟨am, aE, bF, hf.sb rfl, hm.pk [1, 2, 3, 0, 4] rfl rfl⟩
    refine tMo ?_ ?_
    ·
     refine tf rfl rfl (fun a hf => e_build0 (α := Ins_) et_56 hm rfl) ?_
     rintro aJ w hm
     exact tAk hm [2, 1] rfl fun hS => tUse hT2_8 fun a hf => ⟨am, aJ, bF, hf.sb rfl, hm.pk [1, 2, 3, 0, 4] rfl rfl⟩
    refine tO ?_
    obtain ⟨aK, aL⟩ := appM_some.1 aY
    refine tf rfl rfl (fun a hf => e_append 3 et_57 hf hm rfl (hm.now h3) rfl rfl rfl aK) ?_
    rintro cE w hm
    rw [aL] at hm
    exact tAk hm [1, 0] rfl fun hS => tUse hT2_7 fun a hf => ⟨am, cE, hf.sb rfl, hm.pk [0, 1, 2, 3] rfl rfl⟩
   refine tSh (od117_14) (fun a w => ∃ (bG : Nat) (bH : Value), St 74 [(1, (pV aB)), (2, (pV aC)), (3, (pV bG)), (8, bH), (10, (nV b_.jump)), (12, (nV b_.on)), (15, v3)] w0 (hp w0) [blk aB [v1, v2, (nV b_.jump), (nV b_.on), v3] 59, blk aC [(.slice none 0 0), (.slice none 0 0), (nV 0), (nV 0), (.slice none 0 0)] 59, blk bG [(.slice none 0 0), (.slice none 0 0), (nV 0), (nV 0), (.slice none 0 0)] 59, ow [bH] ([] : List Ins_)] a w) ?_ fun hT2_15 => ?_
   ·
    rintro a w ⟨bG, bH, hf, hm⟩
    refine tSv hf hm [1, 0] rfl fun hS => tMo ?_ ?_
    ·
     refine tf rfl rfl (fun a hf => e_build0 (α := Phi_) et_55 hm rfl) ?_
     rintro aE w hm
     exact tAk hm [2, 1] rfl fun hS => tUse hT2_12 fun a hf => ⟨bG, aE, bH, hf.sb rfl, hm.pk [1, 2, 3, 0, 4] rfl rfl⟩
    refine tO (tf rfl rfl (fun a hf => e_build0 (α := Int) et_57 hm rfl) ?_)
    rintro aJ w hm
    exact tAk hm [2, 1] rfl fun hS => tUse hT2_8 fun a hf => ⟨bG, bH, aJ, hf.sb rfl, hm.pk [1, 2, 3, 4, 0] rfl rfl⟩
   refine tSh (od117_13) (fun a w => ∃ (an bJ : Value), St 74 [(1, (pV aB)), (2, (pV aC)), (8, an), (10, (nV b_.jump)), (12, (nV b_.on)), (13, bJ), (15, v3)] w0 (hp w0) [blk aB [v1, v2, (nV b_.jump), (nV b_.on), v3] 59, blk aC [(.slice none 0 0), (.slice none 0 0), (nV 0), (nV 0), (.slice none 0 0)] 59, ow [an] ([] : List Ins_), ow [bJ] ([] : List Int)] a w) ?_ fun hT2_16 => ?_
   ·
    rintro a w ⟨an, bJ, hf, hm⟩
    refine tSv hf hm [1, 0] rfl fun hS => tMo ?_ ?_
    ·
     refine tf rfl rfl (fun a hf => e_build0 (α := Phi_) et_55 hm rfl) ?_
     rintro aE w hm
     exact tAk hm [2, 1] rfl fun hS => tUse hT2_13 fun a hf => ⟨aE, an, bJ, hf.sb rfl, hm.pk [1, 2, 0, 3, 4] rfl rfl⟩
    refine tMo ?_ ?_
    ·
     obtain ⟨aK, aL⟩ := appM_some.1 aY
     refine tf rfl rfl (fun a hf => e_append 3 et_57 hf hm rfl (hm.now h3) rfl rfl rfl aK) ?_
     rintro aJ w hm
     rw [aL] at hm
     exact tAk hm [1, 0] rfl fun hS => tUse hT2_9 fun a hf => ⟨an, aJ, hf.sb rfl, hm.pk [0, 1, 2, 3] rfl rfl⟩
    refine tO (tf rfl rfl (fun a hf => e_alloc hm zeroValue59 rfl rfl) ?_)
    rintro _ w ⟨aM, rfl, hm⟩
    exact tAk hm [2, 1] rfl fun hS => tUse hT2_8 fun a hf => ⟨aM, an, bJ, hf.sb rfl, hm.pk [1, 2, 0, 3, 4] rfl rfl⟩
   refine tSh (od117_12) (fun a w => ∃ (bK : Nat) (bL : Value), St 74 [(1, (pV aB)), (2, (pV aC)), (3, (pV bK)), (7, bL), (10, (nV b_.jump)), (12, (nV b_.on)), (15, v3)] w0 (hp w0) [blk aB [v1, v2, (nV b_.jump), (nV b_.on), v3] 59, blk aC [(.slice none 0 0), (.slice none 0 0), (nV 0), (nV 0), (.slice none 0 0)] 59, blk bK [(.slice none 0 0), (.slice none 0 0), (nV 0), (nV 0), (.slice none 0 0)] 59, ow [bL] ([] : List Phi_)] a w) ?_ fun hT2_17 => ?_
   ·
    rintro a w ⟨bK, bL, hf, hm⟩
    refine tSv hf hm [1, 0] rfl fun hS => tMo ?_ ?_
    ·
     refine tf rfl rfl (fun a hf => e_build0 (α := Ins_) et_56 hm rfl) ?_
     rintro aE w hm
     exact tAk hm [2, 1] rfl fun hS => tUse hT2_12 fun a hf => ⟨bK, bL, aE, hf.sb rfl, hm.pk [1, 2, 3, 4, 0] rfl rfl⟩
    refine tO (tf rfl rfl (fun a hf => e_build0 (α := Int) et_57 hm rfl) ?_)
    rintro aJ w hm
    exact tAk hm [2, 1] rfl fun hS => tUse hT2_10 fun a hf => ⟨bK, bL, aJ, hf.sb rfl, hm.pk [1, 2, 3, 4, 0] rfl rfl⟩
   refine tSh (od117_11) (fun a w => ∃ (ao bM : Value), St 74 [(1, (pV aB)), (2, (pV aC)), (7, ao), (10, (nV b_.jump)), (12, (nV b_.on)), (13, bM), (15, v3)] w0 (hp w0) [blk aB [v1, v2, (nV b_.jump), (nV b_.on), v3] 59, blk aC [(.slice none 0 0), (.slice none 0 0), (nV 0), (nV 0), (.slice none 0 0)] 59, ow [ao] ([] : List Phi_), ow [bM] ([] : List Int)] a w) ?_ fun hT2_18 => ?_
   ·
    rintro a w ⟨ao, bM, hf, hm⟩
    refine tSv hf hm [1, 0] rfl fun hS => tMo ?_ ?_
    ·
     refine tf rfl rfl (fun a hf => e_build0 (α := Ins_) et_56 hm rfl) ?_
     rintro aE w hm
     exact tAk hm [2, 1] rfl fun hS => tUse hT2_13 fun a hf => ⟨ao, aE, bM, hf.sb rfl, hm.pk [1, 2, 3, 0, 4] rfl rfl⟩
    refine tMo ?_ ?_
    ·
     obtain ⟨aK, aL⟩ := appM_some.1 aY
     refine tf rfl rfl (fun a hf => e_append 3 et_57 hf hm rfl (hm.now h3) rfl rfl rfl aK) ?_
     rintro aJ w hm
     rw [aL] at hm
     exact tAk hm [1, 0] rfl fun hS => tUse hT2_11 fun a hf => ⟨ao, aJ, hf.sb rfl, hm.pk [0, 1, 2, 3] rfl rfl⟩
    refine tO (tf rfl rfl (fun a hf => e_alloc hm zeroValue59 rfl rfl) ?_)
    rintro _ w ⟨aM, rfl, hm⟩
    exact tAk hm [2, 1] rfl fun hS => tUse hT2_10 fun a hf => ⟨aM, ao, bM, hf.sb rfl, hm.pk [1, 2, 0, 3, 4] rfl rfl⟩
   refine tSh (od117_10) (fun a w => ∃ (bN bO : Value), St 74 [(1, (pV aB)), (2, (pV aC)), (7, bN), (8, bO), (10, (nV b_.jump)), (12, (nV b_.on)), (15, v3)] w0 (hp w0) [blk aB [v1, v2, (nV b_.jump), (nV b_.on), v3] 59, blk aC [(.slice none 0 0), (.slice none 0 0), (nV 0), (nV 0), (.slice none 0 0)] 59, ow [bN] ([] : List Phi_), ow [bO] ([] : List Ins_)] a w) ?_ fun hT2_19 => ?_
   ·
    rintro a w ⟨bN, bO, hf, hm⟩
    refine tSv hf hm [1, 0] rfl fun hS => tMo ?_ ?_
    ·
     refine tf rfl rfl (fun a hf => e_build0 (α := Int) et_57 hm rfl) ?_
     rintro aE w hm
     exact tAk hm [2, 1] rfl fun hS => tUse hT2_13 fun a hf => ⟨bN, bO, aE, hf.sb rfl, hm.pk [1, 2, 3, 4, 0] rfl rfl⟩
    refine tO (tf rfl rfl (fun a hf => e_alloc hm zeroValue59 rfl rfl) ?_)
    rintro _ w ⟨aM, rfl, hm⟩
    exact tAk hm [2, 1] rfl fun hS => tUse hT2_12 fun a hf => ⟨aM, bN, bO, hf.sb rfl, hm.pk [1, 2, 0, 3, 4] rfl rfl⟩
   refine tMo ?_ ?_
   ·
    refine tf rfl rfl (fun a hf => e_build0 (α := Phi_) et_55 hm rfl) ?_
    rintro aE w hm
    refine tAk hm [1, 2] rfl fun hS => tMo ?_ ?_
    ·
     refine tf rfl rfl (fun a hf => e_build0 (α := Ins_) et_56 hm rfl) ?_
     rintro aJ w hm
     exact tAk hm [2, 3] rfl fun hS => tUse hT2_19 fun a hf => ⟨aE, aJ, hf.sb rfl, hm.pk [3, 2, 1, 0] rfl rfl⟩
    refine tMo ?_ ?_
    ·
     refine tf rfl rfl (fun a hf => e_build0 (α := Int) et_57 hm rfl) ?_
     rintro cE w hm
     exact tAk hm [2, 3] rfl fun hS => tUse hT2_18 fun a hf => ⟨aE, cE, hf.sb rfl, hm.pk [3, 2, 1, 0] rfl rfl⟩
    refine tO (tf rfl rfl (fun a hf => e_alloc hm zeroValue59 rfl rfl) ?_)
    rintro _ w ⟨aM, rfl, hm⟩
    exact tAk hm [2, 3] rfl fun hS => tUse hT2_17 fun a hf => ⟨aM, aE, hf.sb rfl, hm.pk [3, 2, 0, 1] rfl rfl⟩
   refine tMo ?_ ?_
   ·
    refine tf rfl rfl (fun a hf => e_build0 (α := Ins_) et_56 hm rfl) ?_
    rintro cF w hm
    refine tAk hm [1, 2] rfl fun hS => tMo ?_ ?_
    ·
     refine tf rfl rfl (fun a hf => e_build0 (α := Phi_) et_55 hm rfl) ?_
     rintro cS w hm
     exact tAk hm [2, 3] rfl fun hS => tUse hT2_19 fun a hf => ⟨cS, cF, hf.sb rfl, hm.pk [3, 2, 0, 1] rfl rfl⟩
    refine tMo ?_ ?_
    ·
     refine tf rfl rfl (fun a hf => e_build0 (α := Int) et_57 hm rfl) ?_
     rintro cT w hm
     exact tAk hm [2, 3] rfl fun hS => tUse hT2_16 fun a hf => ⟨cF, cT, hf.sb rfl, hm.pk [3, 2, 1, 0] rfl rfl⟩
    refine tO (tf rfl rfl (fun a hf => e_alloc hm zeroValue59 rfl rfl) ?_)
    rintro _ w ⟨cU, rfl, hm⟩
    exact tAk hm [2, 3] rfl fun hS => tUse hT2_15 fun a hf => ⟨cU, cF, hf.sb rfl, hm.pk [3, 2, 0, 1] rfl rfl⟩
   refine tMo ?_ ?_
   ·
    refine tf rfl rfl (fun a hf => e_build0 (α := Int) et_57 hm rfl) ?_
    rintro cG w hm
    refine tAk hm [1, 2] rfl fun hS => tMo ?_ ?_
    ·
     refine tf rfl rfl (fun a hf => e_build0 (α := Phi_) et_55 hm rfl) ?_
     rintro cV w hm
     exact tAk hm [2, 3] rfl fun hS => tUse hT2_18 fun a hf => ⟨cV, cG, hf.sb rfl, hm.pk [3, 2, 0, 1] rfl rfl⟩
    refine tMo ?_ ?_
    ·
     refine tf rfl rfl (fun a hf => e_build0 (α := Ins_) et_56 hm rfl) ?_
     rintro cW w hm
     exact tAk hm [2, 3] rfl fun hS => tUse hT2_16 fun a hf => ⟨cW, cG, hf.sb rfl, hm.pk [3, 2, 0, 1] rfl rfl⟩
    refine tMo ?_ ?_
    ·
     obtain ⟨aK, aL⟩ := appM_some.1 aY
     refine tf rfl rfl (fun a hf => e_append 0 et_57 hf hm rfl (hm.now h3) rfl rfl rfl aK) ?_
     rintro cH w hm
     rw [aL] at hm
     refine tAk hm [1, 2] rfl fun hS => tMo ?_ ?_
     ·
      refine tf rfl rfl (fun a hf => e_build0 (α := Phi_) et_55 hm rfl) ?_
      rintro cX w hm
      exact tAk hm [2, 3] rfl fun hS => tUse hT2_11 fun a hf => ⟨cX, cH, hf.sb rfl, hm.pk [3, 2, 0, 1] rfl rfl⟩
     refine tMo ?_ ?_
     ·
      refine tf rfl rfl (fun a hf => e_build0 (α := Ins_) et_56 hm rfl) ?_
      rintro cY w hm
      exact tAk hm [2, 3] rfl fun hS => tUse hT2_9 fun a hf => ⟨cY, cH, hf.sb rfl, hm.pk [3, 2, 0, 1] rfl rfl⟩
     refine tO (tf rfl rfl (fun a hf => e_alloc hm zeroValue59 rfl rfl) ?_)
     rintro _ w ⟨cZ, rfl, hm⟩
     exact tAk hm [2, 3] rfl fun hS => tUse hT2_7 fun a hf => ⟨cZ, cH, hf.sb rfl, hm.pk [3, 2, 0, 1] rfl rfl⟩
    refine tO (tf rfl rfl (fun a hf => e_alloc hm zeroValue59 rfl rfl) ?_)
    rintro _ w ⟨c4, rfl, hm⟩
    exact tAk hm [2, 3] rfl fun hS => tUse hT2_14 fun a hf => ⟨c4, cG, hf.sb rfl, hm.pk [3, 2, 0, 1] rfl rfl⟩
   refine tO (tf rfl rfl (fun a hf => e_alloc hm zeroValue59 rfl rfl) ?_)
   rintro _ w ⟨cI, rfl, hm⟩
   refine tAk hm [1, 2] rfl fun hS => tMo ?_ ?_
   ·
    refine tf rfl rfl (fun a hf => e_build0 (α := Phi_) et_55 hm rfl) ?_
    rintro c5 w hm
    exact tAk hm [2, 3] rfl fun hS => tUse hT2_17 fun a hf => ⟨cI, c5, hf.sb rfl, hm.pk [3, 2, 1, 0] rfl rfl⟩
   refine tMo ?_ ?_
   ·
    refine tf rfl rfl (fun a hf => e_build0 (α := Ins_) et_56 hm rfl) ?_
    rintro c6 w hm
    exact tAk hm [2, 3] rfl fun hS => tUse hT2_15 fun a hf => ⟨cI, c6, hf.sb rfl, hm.pk [3, 2, 1, 0] rfl rfl⟩
   refine tO (tf rfl rfl (fun a hf => e_build0 (α := Int) et_57 hm rfl) ?_)
   rintro c7 w hm
   exact tAk hm [2, 3] rfl fun hS => tUse hT2_14 fun a hf => ⟨cI, c7, hf.sb rfl, hm.pk [3, 2, 1, 0] rfl rfl⟩
  repeat clear hm
  rintro aD a w ⟨aI, bt, bu, bv, hf, hm⟩
  refine gv hf (gS (gS (gR (gA rfl (gE ?_)))))
  obtain ⟨c8, c9, rfl, cx⟩ := ro_slice (hm.ow_rep 3 rfl)
  obtain ⟨aP, aQ, rfl, cy⟩ := ro_slice (hm.ow_rep 4 rfl)
  obtain ⟨aF, aG, rfl, cz⟩ := ro_slice (hm.ow_rep 5 rfl)
  refine gBk (gNg (fun cK aZ a w => ∃ (aR : Value), St 74 [(1, (pV aB)), (2, (pV aC)), (3, (pV aI)), (4, (nV cK))] w0 (hp w0) [blk aB [v1, v2, (nV b_.jump), (nV b_.on), v3] 59, blk aC [(.slice none 0 0), (.slice none 0 0), (nV 0), (nV 0), (.slice none 0 0)] 59, blk aI [aR, (.slice aP ([] : List Ins_).length aQ), (nV b_.jump), (nV b_.on), (.slice aF aD.length aG)] 59, ow [aR] aZ, ow [(.slice aP ([] : List Ins_).length aQ)] ([] : List Ins_), ow [(.slice aF aD.length aG)] aD] a w) (fun a hf => ⟨(.slice c8 ([] : List Phi_).length c9), hf.sb rfl, hm.pk [0, 1, 2, 3, 4, 5] rfl rfl⟩) ?_ ?_)
  ·
   repeat clear hm
   rintro _ _ cK aZ a w ⟨aR, hf, hm⟩ dA dB dC _
   refine gv hf (gS (gS (gR (gM rfl (gF fo_59_0 rfl (gL hm 0 isAgg55 rfl ?_))))))
   obtain ⟨ca, bP, rfl, dD⟩ := ro_slice h1
   refine gY (yV st_55 rfl) (gB rfl (gE (go _ 22 rfl (decide_eq_true (by omega)) (gct rfl (gSk (gS (gBk (gW (.p 0 (.p 2 (.p 4 (.p 9 (.p 11 (.q 1 (.q 3 (.p 5 (.p 6 (.q 7 (.q 10 (.p 12 (.p 13 (.q 14 (.e 8 (.e 15 (.p 16 (.e 17 (.e 18 (.p 19 (.e 20 .fin .nil)) .nil) .nil)) .nil) .nil))))))))))))))) [1, 3, 7, 8, 10, 14, 15, 17] [0, 2, 4, 5, 6, 9, 11, 12, 13, 16, 19] hm [0, 1, 2, 3, 4, 5] [blk aB [(.slice ca b_.phis.length bP), v2, (nV b_.jump), (nV b_.on), v3] 59, blk aC [(.slice none 0 0), (.slice none 0 0), (nV 0), (nV 0), (.slice none 0 0)] 59, blk aI [aR, (.slice aP ([] : List Ins_).length aQ), (nV b_.jump), (nV b_.on), (.slice aF aD.length aG)] 59, ow [aR] aZ, ow [(.slice aP ([] : List Ins_).length aQ)] ([] : List Ins_), ow [(.slice aF aD.length aG)] aD] rfl mxo (by kernel_rfl) (fun _ _ _ h => h.2) fun w hm hS => tP rfl (fun w => yF fo_59_0 rfl) (tP rfl (fun w => yF fo_59_0 rfl) (tP rfl (fun w => yM rfl) (tP rfl (fun w => yF fo_59_0 rfl) (tP rfl (fun w => yM rfl) (tQ rfl hS (fun w hm => yL hm 2 isAgg55 rfl) (tQ rfl hS (fun w hm => yL hm 0 isAgg55 rfl) (gg fun aO cL bm => ?_)))))))))))))))
   obtain ⟨bo, bp, dE, he⟩ := idx_form' h1 bm
   obtain ⟨rfl, _, rfl⟩ := sl3 he
   obtain ⟨dF, cM, cb⟩ := rk_Phi_ h1 bm
   refine tP rfl (fun w => yI st_55 cL (idx_lt bm) rfl) (tP rfl (fun w => yF fo_87_0 rfl) (tQ rfl hS (fun w hm => yl isAgg3 ((cM.mono hm.lez).cell (j := 0) rfl) rfl) (tQ rfl hS (fun w hm => yL hm 0 isAgg55 rfl) (tP rfl (fun w => yI st_55 cL (idx_lt bm) rfl) (tP rfl (fun w => yF fo_87_1 rfl) (tQ rfl hS (fun w hm => yl isAgg57 ((cM.mono hm.lez).cell (j := 1) rfl) rfl) (tO (tf rfl rfl (fun a hf => e_build0 (α := Int) et_57 hm rfl) ?_))))))))
   rintro dG w hm
   refine tAk hm [1, 2, 3, 4, 5, 6] rfl fun hS => tO (gb fun aS cc => ?_)
   obtain ⟨cd, ce⟩ := appM_some.1 cc
   refine tf rfl rfl (fun a hf => e_append 0 et_57 hf hm rfl (hm.now cb) rfl rfl rfl cd) ?_
   rintro dH w hm
   rw [ce] at hm
   refine tAk hm [1, 2, 3, 4, 5, 6] rfl fun hS => ?_
   obtain ⟨aa, ab, rfl, dI⟩ := ro_slice (hm.ow_rep 0 rfl)
   refine tP rfl (fun w => yG rfl (y_build (vs := [(0, (nV aO.to)), (1, (.slice aa aS.length ab))]) (cs := #[(nV aO.to), (.slice aa aS.length ab)]) rfl rfl (by kernel_rfl))) (tO (tf rfl rfl (fun a hf => e_build (vs := #[(0, (.agg #[(nV aO.to), (.slice aa aS.length ab)]))]) (cs := [(nV aO.to), (.slice aa aS.length ab)]) et_55 hf hm rfl rfl (by kernel_rfl) rfl rfl) ?_))
   rintro _ w ⟨bq, rfl, hm⟩
   replace hm := hm.els_nil (α := Phi_)
   replace hm : Mem w0 (hp w0) _ [els [] ([] : List Phi_), blk bq [(nV aO.to), (.slice aa aS.length ab)] 87, ow [(nV aO.to), (.slice aa aS.length ab)] ((⟨aO.to, aS⟩ : Phi_) : Phi_), blk aB [(sV bo bp b_.phis.length bP), v2, (nV b_.jump), (nV b_.on), v3] 59, blk aC [(.slice none 0 0), (.slice none 0 0), (nV 0), (nV 0), (.slice none 0 0)] 59, blk aI [aR, (.slice aP ([] : List Ins_).length aQ), (nV b_.jump), (nV b_.on), (.slice aF aD.length aG)] 59, ow [aR] aZ, ow [(.slice aP ([] : List Ins_).length aQ)] ([] : List Ins_), ow [(.slice aF aD.length aG)] aD] := mk_Phi_ aO.to hm 2 rfl
   replace hm := (hm.els_cons 0 2 (by decide) rfl rfl).pk (L' := [els [(nV aO.to), (.slice aa aS.length ab)] ([(⟨aO.to, aS⟩ : Phi_)] : List Phi_), blk bq [(nV aO.to), (.slice aa aS.length ab)] 87, blk aB [(sV bo bp b_.phis.length bP), v2, (nV b_.jump), (nV b_.on), v3] 59, blk aC [(.slice none 0 0), (.slice none 0 0), (nV 0), (nV 0), (.slice none 0 0)] 59, blk aI [aR, (.slice aP ([] : List Ins_).length aQ), (nV b_.jump), (nV b_.on), (.slice aF aD.length aG)] 59, ow [aR] aZ, ow [(.slice aP ([] : List Ins_).length aQ)] ([] : List Ins_), ow [(.slice aF aD.length aG)] aD]) [0, 1, 3, 4, 5, 6, 7, 8] rfl rfl
   replace hm := (hm.lit_els 1 0 (by decide) rfl rfl rfl rfl).pk (L' := [ow [(sV bq 0 1 1)] ([(⟨aO.to, aS⟩ : Phi_)] : List Phi_), blk aB [(sV bo bp b_.phis.length bP), v2, (nV b_.jump), (nV b_.on), v3] 59, blk aC [(.slice none 0 0), (.slice none 0 0), (nV 0), (nV 0), (.slice none 0 0)] 59, blk aI [aR, (.slice aP ([] : List Ins_).length aQ), (nV b_.jump), (nV b_.on), (.slice aF aD.length aG)] 59, ow [aR] aZ, ow [(.slice aP ([] : List Ins_).length aQ)] ([] : List Ins_), ow [(.slice aF aD.length aG)] aD]) [1, 2, 3, 4, 5, 6, 7] rfl rfl
   refine tAk hm [1, 2, 3, 4, 5, 6] rfl fun hS => tO (gb fun dJ cf => ?_)
   obtain ⟨cg, cj⟩ := appM_some.1 cf
   replace hm := (hm.both 4 0 (by decide) rfl rfl).pk (L' := [blk aB [(sV bo bp b_.phis.length bP), v2, (nV b_.jump), (nV b_.on), v3] 59, blk aC [(.slice none 0 0), (.slice none 0 0), (nV 0), (nV 0), (.slice none 0 0)] 59, blk aI [aR, (.slice aP ([] : List Ins_).length aQ), (nV b_.jump), (nV b_.on), (.slice aF aD.length aG)] 59, both (ow [aR] aZ) (ow [(sV bq 0 1 1)] ([(⟨aO.to, aS⟩ : Phi_)] : List Phi_)), ow [(.slice aP ([] : List Ins_).length aQ)] ([] : List Ins_), ow [(.slice aF aD.length aG)] aD]) [1, 2, 3, 4, 5, 6] rfl rfl
   refine tf rfl rfl (fun a hf => e_appendD (xs := aZ) (ys := ([(⟨aO.to, aS⟩ : Phi_)] : List Phi_)) 3 et_55 hf hm rfl rfl rfl rfl cg) ?_
   rintro ck w hm
   rw [cj] at hm
   refine tAn rfl (tP rfl (fun w => yF fo_59_0 rfl) (tO (tf0 rfl rfl (fun a hf => e_store1 2 hf hm rfl sizeOf55 rfl rfl rfl (rep_one (hm.ow_rep 3 rfl)) rfl) ?_)))
   rintro _ w hm
   exact tAn rfl (tE (gR (gM rfl (gP (by omega) (by omega) rfl (gA rfl (gE (gZe fun a hf => ⟨ck, hf.sb rfl, hm.pk [0, 1, 2, 3, 4, 5] rfl rfl⟩)))))))
  repeat clear hm
  rintro dK aH a w ⟨dL, hf, hm⟩ dM dN
  refine gv hf (gS (gS (gR (gM rfl (gF fo_59_0 rfl (gL hm 0 isAgg55 rfl ?_))))))
  obtain ⟨ap, aq, rfl, dO⟩ := ro_slice h1
  refine gY (yV st_55 rfl) (gB rfl (gE (go _ 22 rfl (decide_eq_false (by omega)) (gcf rfl (gXt (gHh (gS (gS (gR (gA rfl (gE ?_)))))))))))
  obtain ⟨aT, aV, rfl, dP⟩ := ro_slice (hm.ow_rep 3 rfl)
  refine gBk (gNg (fun cN ac a w => ∃ (aW : Value), St 74 [(1, (pV aB)), (2, (pV aC)), (3, (pV aI)), (5, (nV cN))] w0 (hp w0) [blk aB [(.slice ap b_.phis.length aq), v2, (nV b_.jump), (nV b_.on), v3] 59, blk aC [(.slice none 0 0), (.slice none 0 0), (nV 0), (nV 0), (.slice none 0 0)] 59, blk aI [(.slice aT aH.length aV), aW, (nV b_.jump), (nV b_.on), (.slice aF aD.length aG)] 59, ow [(.slice aT aH.length aV)] aH, ow [aW] ac, ow [(.slice aF aD.length aG)] aD] a w) (fun a hf => ⟨(.slice aP ([] : List Ins_).length aQ), hf.sb rfl, hm.pk [0, 1, 2, 3, 4, 5] rfl rfl⟩) ?_ ?_)
  ·
   repeat clear hm
   rintro _ _ cN ac a w ⟨aW, hf, hm⟩ dQ dR dS _
   refine gv hf (gS (gS (gR (gM rfl (gF fo_59_1 rfl (gL hm 0 isAgg56 rfl ?_))))))
   obtain ⟨dT, bQ, rfl, dU⟩ := ro_slice h2
   refine gY (yV st_56 rfl) (gB rfl (gE (go _ 49 rfl (decide_eq_true (by omega)) (gct rfl (gSk (gS (gBk (gS (gR (gF fo_59_1 rfl (gL hm 0 isAgg56 rfl (gM rfl (gg fun aA cl cJ => ?_)))))))))))))
   obtain ⟨bR, bS, dV, he⟩ := idx_form' h2 cJ
   obtain ⟨rfl, _, rfl⟩ := sl3 he
   obtain ⟨bT, cm, cO⟩ := rk_Ins_ h2 cJ
   refine gI st_56 cl (idx_lt cJ) rfl (gY (yn (cm.mono hm.lez) isAgg61 sizeOf61 rfl) (gAl hm zeroValue61 rfl fun bU w hm => gSN hm 0 sizeOf61 (one_cons rfl (one_cons rfl (one_cons (rep_one cO) (one_cons rfl one_nil)))) rfl fun w hm => gE (gW (.p 0 (.p 2 (.p 4 (.p 7 (.p 10 (.q 1 (.q 3 (.q 5 (.q 8 (.q 11 (.e 6 (.e 9 (.p 12 (.e 13 (.e 14 (.p 15 (.e 16 .fin .nil)) .nil) .nil)) .nil) .nil))))))))))) [1, 3, 5, 6, 8, 9, 11, 13] [0, 2, 4, 7, 10, 12, 15] hm [0, 1, 2, 3, 4, 5, 6] [blk bU [(nV aA.op), (nV aA.to), bT, (nV aA.n_)] 61, blk aB [(.slice ap b_.phis.length aq), (sV bR bS b_.ins.length bQ), (nV b_.jump), (nV b_.on), v3] 59, blk aC [(.slice none 0 0), (.slice none 0 0), (nV 0), (nV 0), (.slice none 0 0)] 59, blk aI [(.slice aT aH.length aV), aW, (nV b_.jump), (nV b_.on), (.slice aF aD.length aG)] 59, ow [(.slice aT aH.length aV)] aH, ow [aW] ac, ow [(.slice aF aD.length aG)] aD] rfl mxo (by kernel_rfl) (fun _ _ _ h => h.2) fun w hm hS => tP rfl (fun w => yF fo_59_1 rfl) (tP rfl (fun w => yF fo_61_0 rfl) (tP rfl (fun w => yF fo_61_1 rfl) (tP rfl (fun w => yF fo_61_2 rfl) (tP rfl (fun w => yF fo_61_3 rfl) (tQ rfl hS (fun w hm => yL hm 3 isAgg56 rfl) (tQ rfl hS (fun w hm => yL hm 0 isAgg3 rfl) (tQ rfl hS (fun w hm => yL hm 0 isAgg3 rfl) (tQ rfl hS (fun w hm => yL hm 0 isAgg57 rfl) (tQ rfl hS (fun w hm => yL hm 0 isAgg3 rfl) (tO (tf rfl rfl (fun a hf => e_build0 (α := Int) et_57 hm rfl) ?_))))))))))))))
   rintro dW w hm
   refine tAk hm [1, 2, 3, 4, 5, 6, 7] rfl fun hS => tO (gb fun aX cn => ?_)
   obtain ⟨co, cq⟩ := appM_some.1 cn
   refine tf rfl rfl (fun a hf => e_append 0 et_57 hf hm rfl (hm.now cO) rfl rfl rfl co) ?_
   rintro dX w hm
   rw [cq] at hm
   refine tAk hm [1, 2, 3, 4, 5, 6, 7] rfl fun hS => ?_
   obtain ⟨ae, af, rfl, dY⟩ := ro_slice (hm.ow_rep 0 rfl)
   refine tP rfl (fun w => yG rfl (y_build (vs := [(0, (nV aA.op)), (1, (nV aA.to)), (2, (.slice ae aX.length af)), (3, (nV aA.n_))]) (cs := #[(nV aA.op), (nV aA.to), (.slice ae aX.length af), (nV aA.n_)]) rfl rfl (by kernel_rfl))) (tO (tf rfl rfl (fun a hf => e_build (vs := #[(0, (.agg #[(nV aA.op), (nV aA.to), (.slice ae aX.length af), (nV aA.n_)]))]) (cs := [(nV aA.op), (nV aA.to), (.slice ae aX.length af), (nV aA.n_)]) et_56 hf hm rfl rfl (by kernel_rfl) rfl rfl) ?_))
   rintro _ w ⟨br, rfl, hm⟩
   replace hm := hm.els_nil (α := Ins_)
   replace hm : Mem w0 (hp w0) _ [els [] ([] : List Ins_), blk br [(nV aA.op), (nV aA.to), (.slice ae aX.length af), (nV aA.n_)] 61, ow [(nV aA.op), (nV aA.to), (.slice ae aX.length af), (nV aA.n_)] ((⟨aA.op, aA.to, aX, aA.n_⟩ : Ins_) : Ins_), blk bU [(nV aA.op), (nV aA.to), bT, (nV aA.n_)] 61, blk aB [(.slice ap b_.phis.length aq), (sV bR bS b_.ins.length bQ), (nV b_.jump), (nV b_.on), v3] 59, blk aC [(.slice none 0 0), (.slice none 0 0), (nV 0), (nV 0), (.slice none 0 0)] 59, blk aI [(.slice aT aH.length aV), aW, (nV b_.jump), (nV b_.on), (.slice aF aD.length aG)] 59, ow [(.slice aT aH.length aV)] aH, ow [aW] ac, ow [(.slice aF aD.length aG)] aD] := mk_Ins_ aA.op aA.to aA.n_ hm 2 rfl
   replace hm := (hm.els_cons 0 2 (by decide) rfl rfl).pk (L' := [els [(nV aA.op), (nV aA.to), (.slice ae aX.length af), (nV aA.n_)] ([(⟨aA.op, aA.to, aX, aA.n_⟩ : Ins_)] : List Ins_), blk br [(nV aA.op), (nV aA.to), (.slice ae aX.length af), (nV aA.n_)] 61, blk bU [(nV aA.op), (nV aA.to), bT, (nV aA.n_)] 61, blk aB [(.slice ap b_.phis.length aq), (sV bR bS b_.ins.length bQ), (nV b_.jump), (nV b_.on), v3] 59, blk aC [(.slice none 0 0), (.slice none 0 0), (nV 0), (nV 0), (.slice none 0 0)] 59, blk aI [(.slice aT aH.length aV), aW, (nV b_.jump), (nV b_.on), (.slice aF aD.length aG)] 59, ow [(.slice aT aH.length aV)] aH, ow [aW] ac, ow [(.slice aF aD.length aG)] aD]) [0, 1, 3, 4, 5, 6, 7, 8, 9] rfl rfl
   replace hm := (hm.lit_els 1 0 (by decide) rfl rfl rfl rfl).pk (L' := [ow [(sV br 0 1 1)] ([(⟨aA.op, aA.to, aX, aA.n_⟩ : Ins_)] : List Ins_), blk bU [(nV aA.op), (nV aA.to), bT, (nV aA.n_)] 61, blk aB [(.slice ap b_.phis.length aq), (sV bR bS b_.ins.length bQ), (nV b_.jump), (nV b_.on), v3] 59, blk aC [(.slice none 0 0), (.slice none 0 0), (nV 0), (nV 0), (.slice none 0 0)] 59, blk aI [(.slice aT aH.length aV), aW, (nV b_.jump), (nV b_.on), (.slice aF aD.length aG)] 59, ow [(.slice aT aH.length aV)] aH, ow [aW] ac, ow [(.slice aF aD.length aG)] aD]) [1, 2, 3, 4, 5, 6, 7, 8] rfl rfl
   refine tAk hm [1, 2, 3, 4, 5, 6, 7] rfl fun hS => tO (gb fun dZ cr => ?_)
   obtain ⟨ct, cu⟩ := appM_some.1 cr
   replace hm := (hm.both 6 0 (by decide) rfl rfl).pk (L' := [blk bU [(nV aA.op), (nV aA.to), bT, (nV aA.n_)] 61, blk aB [(.slice ap b_.phis.length aq), (sV bR bS b_.ins.length bQ), (nV b_.jump), (nV b_.on), v3] 59, blk aC [(.slice none 0 0), (.slice none 0 0), (nV 0), (nV 0), (.slice none 0 0)] 59, blk aI [(.slice aT aH.length aV), aW, (nV b_.jump), (nV b_.on), (.slice aF aD.length aG)] 59, ow [(.slice aT aH.length aV)] aH, both (ow [aW] ac) (ow [(sV br 0 1 1)] ([(⟨aA.op, aA.to, aX, aA.n_⟩ : Ins_)] : List Ins_)), ow [(.slice aF aD.length aG)] aD]) [1, 2, 3, 4, 5, 6, 7] rfl rfl
   refine tf rfl rfl (fun a hf => e_appendD (xs := ac) (ys := ([(⟨aA.op, aA.to, aX, aA.n_⟩ : Ins_)] : List Ins_)) 5 et_56 hf hm rfl rfl rfl rfl ct) ?_
   rintro cv w hm
   rw [cu] at hm
   refine tAn rfl (tP rfl (fun w => yF fo_59_1 rfl) (tO (tf0 rfl rfl (fun a hf => e_store1 3 hf hm rfl sizeOf56 rfl rfl rfl (rep_one (hm.ow_rep 5 rfl)) rfl) ?_)))
   rintro _ w hm
   exact tAn rfl (tE (gR (gM rfl (gP (by omega) (by omega) rfl (gA rfl (gE (gZe fun a hf => ⟨cv, hf.sb rfl, hm.pk [1, 2, 3, 4, 5, 6] rfl rfl⟩)))))))
  repeat clear hm
  rintro d1 d2 a w ⟨cw, hf, hm⟩ d3 d4
  refine gv hf (gS (gS (gR (gM rfl (gF fo_59_1 rfl (gL hm 0 isAgg56 rfl ?_))))))
  obtain ⟨d5, d6, rfl, d7⟩ := ro_slice h2
  exact gY (yV st_56 rfl) (gB rfl (gE (go _ 49 rfl (decide_eq_false (by omega)) (gcf rfl (gXt (gHh (gS (gR (gY (yn (hm.blk_at 2 rfl) isAgg59 sizeOf59 rfl) (gSN hm 1 sizeOf59 (one_cons rfl (one_cons (rep_one (hm.ow_rep 4 rfl)) (one_cons rfl (one_cons rfl (one_cons rfl one_nil))))) rfl fun w hm => gE (gRt (grc 1 results117 hm rfl isAgg59 sizeOf59 ⟨(.slice aT aH.length aV), cw, (.slice aF aD.length aG), rfl, hm.pk [3, 4, 5] rfl rfl⟩))))))))))))
theorem spec_l7Copy_ok (w0 : World) (c_ : Code_) (v1 : Value) (h1 : GT.rep (hp w0) [v1] c_.blocks) :
    ConM Tryz.prog 65 [(.agg #[(nV c_.params), (nV c_.regs), v1])] w0 (spec_l7Copy c_) fun r v w' => ∃ (x1 : Value), v = (.agg #[(nV r.params), (nV r.regs), x1]) ∧ Mem w0 (hp w0) w' [ow [x1] r.blocks] := by
  unfold spec_l7Copy
  refine gcon func65 rfl fun r => ?_
  have hm := Mem.start w0
  refine gS (gR (gBx hm rfl fun aD w hm => gAl hm zeroValue44 rfl fun aE w hm => gE (gS (gR (gF fo_44_0 rfl (gL hm 1 isAgg3 rfl (gF fo_44_1 rfl (gL hm 1 isAgg3 rfl (gY (yG rfl (y_build (vs := [(0, (nV c_.params)), (1, (nV c_.regs))]) (cs := #[(nV c_.params), (nV c_.regs), (.slice none 0 0)]) rfl rfl (by kernel_rfl))) (gAl hm zeroValue44 rfl fun aF w hm => gSN hm 0 sizeOf44 (one_cons rfl (one_cons rfl (one_cons rfl one_nil))) rfl fun w hm => gE (gS (gS (gR (gA rfl (gE (gBk ?_))))))))))))))))
  replace hm := hm.nilow (α := Block_)
  refine gNg (fun aO aC a w => ∃ (aB : Value), St 29 [(1, (pV aD)), (2, (pV aE)), (3, (pV aF)), (4, (nV aO))] w0 (hp w0) [blk aD [(nV c_.params), (nV c_.regs), v1] 44, blk aE [(nV 0), (nV 0), (.slice none 0 0)] 44, blk aF [(nV c_.params), (nV c_.regs), aB] 44, ow [aB] aC] a w) (fun a hf => ⟨(.slice none 0 0), hf.sb rfl, hm.pk [3, 2, 1, 0] rfl rfl⟩) ?_ ?_
  ·
   repeat clear hm
   rintro _ _ aO aC a w ⟨aB, hf, hm⟩ ah ai aj _
   refine gv hf (gS (gS (gR (gM rfl (gF fo_44_2 rfl (gL hm 0 isAgg42 rfl ?_))))))
   obtain ⟨aP, aJ, rfl, ak⟩ := ro_slice h1
   refine gY (yV st_42 rfl) (gB rfl (gE (go _ 14 rfl (decide_eq_true (by omega)) (gct rfl (gSk (gS (gBk (gW (.p 0 (.p 2 (.p 4 (.q 1 (.e 3 (.p 5 (.e 6 (.e 7 (.e 8 (.e 9 (.p 10 (.e 11 .fin .nil)) .nil) .nil) .nil) .nil)) .nil))))) [3, 6, 7, 8] [0, 2, 4, 5, 10] hm [0, 1, 2, 3] [blk aD [(nV c_.params), (nV c_.regs), (.slice aP c_.blocks.length aJ)] 44, blk aE [(nV 0), (nV 0), (.slice none 0 0)] 44, blk aF [(nV c_.params), (nV c_.regs), aB] 44, ow [aB] aC] rfl mxo (by kernel_rfl) (fun _ _ _ h => h.2) fun w hm hS => tP rfl (fun w => yF fo_44_2 rfl) (tP rfl (fun w => yF fo_44_2 rfl) (tP rfl (fun w => yM rfl) (tQ rfl hS (fun w hm => yL hm 2 isAgg42 rfl) (tO (tY rfl (yL hm 0 isAgg42 rfl) (tAs hS (gg fun aQ aR aN => ?_)))))))))))))))
   obtain ⟨aK, aL, al, he⟩ := idx_form' h1 aN
   obtain ⟨rfl, _, rfl⟩ := sl3 he
   obtain ⟨aS, aT, aV, aW, aX, aY, aZ⟩ := rk_Block_ h1 aN
   refine tP rfl (fun w => yI st_42 aR (idx_lt aN) rfl) (tO (tY rfl (yn (aW.mono hm.lez) isAgg59 sizeOf59 rfl) (tAs hS (tO (gb fun aA aa => tf rfl rfl (fun a hf => e_call hf rfl call117 rfl (spec_l7CopyBlock_ok _ aQ aS (hm.now aX) aT (hm.now aY) aV (hm.now aZ) _ aa)) ?_)))))
   rintro am w ⟨aG, aH, aI, rfl, hB⟩
   replace hm := hm.give hB; clear hB
   refine tAk hm [3, 4, 5, 6] rfl fun hS => tO (tf rfl rfl (fun a hf => e_build (vs := #[(0, (.agg #[aG, aH, (nV aA.jump), (nV aA.on), aI]))]) (cs := [aG, aH, (nV aA.jump), (nV aA.on), aI]) et_42 hf hm rfl rfl (by kernel_rfl) rfl rfl) ?_)
   rintro _ w ⟨aM, rfl, hm⟩
   replace hm := hm.els_nil (α := Block_)
   replace hm := (mk_Block_ aA.jump aA.on hm 2 3 4 rfl).pk (L' := [els [] ([] : List Block_), blk aM [aG, aH, (nV aA.jump), (nV aA.on), aI] 59, ow [aG, aH, (nV aA.jump), (nV aA.on), aI] (aA : Block_), blk aD [(nV c_.params), (nV c_.regs), (sV aK aL c_.blocks.length aJ)] 44, blk aE [(nV 0), (nV 0), (.slice none 0 0)] 44, blk aF [(nV c_.params), (nV c_.regs), aB] 44, ow [aB] aC]) [0, 1, 2, 5, 6, 7, 8] rfl rfl
   replace hm := (hm.els_cons 0 2 (by decide) rfl rfl).pk (L' := [els [aG, aH, (nV aA.jump), (nV aA.on), aI] ([aA] : List Block_), blk aM [aG, aH, (nV aA.jump), (nV aA.on), aI] 59, blk aD [(nV c_.params), (nV c_.regs), (sV aK aL c_.blocks.length aJ)] 44, blk aE [(nV 0), (nV 0), (.slice none 0 0)] 44, blk aF [(nV c_.params), (nV c_.regs), aB] 44, ow [aB] aC]) [0, 1, 3, 4, 5, 6] rfl rfl
   replace hm := (hm.lit_els 1 0 (by decide) rfl rfl rfl rfl).pk (L' := [ow [(sV aM 0 1 1)] ([aA] : List Block_), blk aD [(nV c_.params), (nV c_.regs), (sV aK aL c_.blocks.length aJ)] 44, blk aE [(nV 0), (nV 0), (.slice none 0 0)] 44, blk aF [(nV c_.params), (nV c_.regs), aB] 44, ow [aB] aC]) [1, 2, 3, 4, 5] rfl rfl
   refine tAk hm [1, 2, 3, 4] rfl fun hS => tO (gb fun an ab => ?_)
   obtain ⟨ac, ae⟩ := appM_some.1 ab
   replace hm := (hm.both 4 0 (by decide) rfl rfl).pk (L' := [blk aD [(nV c_.params), (nV c_.regs), (sV aK aL c_.blocks.length aJ)] 44, blk aE [(nV 0), (nV 0), (.slice none 0 0)] 44, blk aF [(nV c_.params), (nV c_.regs), aB] 44, both (ow [aB] aC) (ow [(sV aM 0 1 1)] ([aA] : List Block_))]) [1, 2, 3, 4] rfl rfl
   refine tf rfl rfl (fun a hf => e_appendD (xs := aC) (ys := ([aA] : List Block_)) 3 et_42 hf hm rfl rfl rfl rfl ac) ?_
   rintro af w hm
   rw [ae] at hm
   refine tAn rfl (tP rfl (fun w => yF fo_44_2 rfl) (tO (tf0 rfl rfl (fun a hf => e_store1 2 hf hm rfl sizeOf42 rfl rfl rfl (rep_one (hm.ow_rep 3 rfl)) rfl) ?_)))
   rintro _ w hm
   exact tAn rfl (tE (gR (gM rfl (gP (by omega) (by omega) rfl (gA rfl (gE (gZe fun a hf => ⟨af, hf.sb rfl, hm.pk [0, 1, 2, 3] rfl rfl⟩)))))))
  repeat clear hm
  rintro ao ap a w ⟨ag, hf, hm⟩ aq ar
  refine gv hf (gS (gS (gR (gM rfl (gF fo_44_2 rfl (gL hm 0 isAgg42 rfl ?_))))))
  obtain ⟨au, av, rfl, aw⟩ := ro_slice h1
  exact gY (yV st_42 rfl) (gB rfl (gE (go _ 14 rfl (decide_eq_false (by omega)) (gcf rfl (gXt (gHh (gS (gR (gY (yn (hm.blk_at 2 rfl) isAgg44 sizeOf44 rfl) (gSN hm 1 sizeOf44 (one_cons rfl (one_cons rfl (one_cons (rep_one (hm.ow_rep 3 rfl)) one_nil))) rfl fun w hm => gE (gRt (grc 1 results65 hm rfl isAgg44 sizeOf44 ⟨ag, rfl, hm.pk [3] rfl rfl⟩))))))))))))
theorem spec_l10Sharp_ok (w0 : World) (c_ : Code_) (v1 : Value) (h1 : GT.rep (hp w0) [v1] c_.blocks) (b_ : Int) (i_ : Int) :
    ConM Tryz.prog 115 [(.agg #[(nV c_.params), (nV c_.regs), v1]), (nV b_), (nV i_)] w0 (spec_l10Sharp c_ b_ i_) fun r v w' => v = (.bool (r)) ∧ Below w0.heap.size w0 w' := by
  unfold spec_l10Sharp
  refine gcon func115 rfl fun r => ?_
  have hm := Mem.start w0
  refine gS (gR (gBx hm rfl fun aB w hm => gA rfl (gE (gS (gR (gF fo_44_2 rfl (gL hm 0 isAgg42 rfl (gM rfl (gg fun aO aP aI => ?_)))))))))
  obtain ⟨aC, aD, aE, he⟩ := idx_form' h1 aI
  subst he
  obtain ⟨ae, af, aQ, aR, ag, ah, aA⟩ := rk_Block_ h1 aI
  refine gI st_42 aP (idx_lt aI) rfl (gF fo_59_4 rfl (gY (yl isAgg57 ((aR.mono hm.lez).cell (j := 4) rfl) rfl) (gA rfl (gE (gS (gR (gA rfl (gE (gS (gS (gR (gA rfl (gE (gBk (gNf hm (fun aF aJ => [(2, (nV i_)), (3, (pV aB)), (7, aQ), (8, (.bool (aJ))), (9, (nV aF))]) (fun aF aJ => [blk aB [(nV c_.params), (nV c_.regs), (sV aC aD c_.blocks.length aE)] 44]) [0] rfl ?_ ?_)))))))))))))))
  ·
   repeat clear hm
   intro _ _ aF aJ w hm ai aj ak _
   refine gS (gS (gR (gM rfl (gM rfl ?_))))
   obtain ⟨aS, aT, rfl, al⟩ := ro_slice aA
   refine gY (yV st_57 rfl) (gB rfl (gE (go _ 19 rfl (decide_eq_true (by omega)) (gct rfl (gSk (gS (gBk (gJ hm (fun aG => [(2, (nV i_)), (3, (pV aB)), (7, (.slice aS aO.next_.length aT)), (8, (.bool (aG))), (9, (nV aF))]) (fun aG => [blk aB [(nV c_.params), (nV c_.regs), (sV aC aD c_.blocks.length aE)] 44]) (fun aG => ?_) ?_))))))))
   ·
    refine gW (.p 0 (.p 1 (.p 2 (.p 3 (.p 4 (.p 6 (.p 7 (.q 5 (.e 8 (.p 9 (.p 10 (.p 11 .fin))) .nil))))))))) [8] [0, 1, 2, 3, 4, 6, 7, 9, 10, 11] hm [0] [blk aB [(nV c_.params), (nV c_.regs), (sV aC aD c_.blocks.length aE)] 44] rfl mxo (by kernel_rfl) (fun _ _ _ h => h.2) fun w hm hS => tP rfl (fun w => yM rfl) (tP rfl (fun w => yM rfl) (gs 23 rfl (fun aV => ?_) fun aV => ?_))
    ·
     exact tPo rfl rfl (tPo rfl rfl (tPo rfl rfl (tPo rfl rfl (tPo rfl rfl (tQo rfl hS rfl (tO (tEo rfl rfl (tAs hS (tPo rfl rfl (tP rfl (fun w => yKt rfl) (tP rfl (fun w => yA rfl) (tE (gz hm [0] rfl)))))))))))))
    refine tP rfl (fun w => yM rfl) (tP rfl (fun w => yM rfl) (gg fun aW aX aK => ?_))
    obtain ⟨am, an, ao, he⟩ := idx_form aA aK
    obtain ⟨rfl, _, rfl⟩ := sl3 he
    exact tP rfl (fun w => yI st_57 aX (idx_lt aK) rfl) (tP rfl (fun w => yM rfl) (gg fun aY aZ aM => tP rfl (fun w => yI st_57 aZ (idx_lt aM) rfl) (tQ rfl hS (fun w hm => yl isAgg3 ((flat_cells (cs := [(nV aW)]) (hm.now aA) aK rfl).cell (j := 0) rfl) rfl) (tO (tY rfl (yl isAgg3 ((flat_cells (cs := [(nV aY)]) (hm.now aA) aM rfl).cell (j := 0) rfl) rfl) (tAs hS (tP rfl (fun w => yB rfl) (tP rfl (fun w => yKf rfl) (tP rfl (fun w => yA rfl) (tE (gz hm [0] rfl)))))))))))
   repeat clear hm
   intro aG w hm
   exact gR (gM rfl (gP (by omega) (by omega) rfl (gA rfl (gE (gze hm [0] rfl)))))
  repeat clear hm
  intro ap aq w hm ar au
  refine gS (gS (gR (gM rfl (gM rfl ?_))))
  obtain ⟨av, aw, rfl, ax⟩ := ro_slice aA
  refine gY (yV st_57 rfl) (gB rfl (gE (go _ 19 rfl (decide_eq_false (by omega)) (gcf rfl (gXt (gHh (gS (gJ hm (fun aH => [(6, (.bool (aH)))]) (fun aH => []) (fun aH => ?_) ?_))))))))
  ·
   refine gW (.p 0 (.p 1 (.p 3 (.p 4 (.p 5 (.q 2 (.e 6 (.e 7 (.p 8 (.p 9 (.p 10 (.p 11 .fin)))) .nil) .nil))))))) [6] [0, 1, 3, 4, 5, 8, 9, 10, 11] hm [0] [blk aB [(nV c_.params), (nV c_.regs), (sV aC aD c_.blocks.length aE)] 44] rfl mxo (by kernel_rfl) (fun _ _ _ h => h.2) fun w hm hS => tP rfl (fun w => yM rfl) (tP rfl (fun w => yM rfl) (gs 34 rfl (fun aa => ?_) fun aa => ?_))
   ·
    refine tP rfl (fun w => yM rfl) (tP rfl (fun w => yM rfl) (gg fun aN ab aL => ?_))
    obtain ⟨ay, az, bA, he⟩ := idx_form aA aL
    obtain ⟨rfl, _, rfl⟩ := sl3 he
    refine tP rfl (fun w => yI st_57 ab (idx_lt aL) rfl) (tQ rfl hS (fun w hm => yn (hm.blk_at 0 rfl) isAgg44 sizeOf44 rfl) (tO (tY rfl (yl isAgg3 ((flat_cells (cs := [(nV aN)]) (hm.now aA) aL rfl).cell (j := 0) rfl) rfl) (tAs hS (tO (gb fun bB ac => tf rfl rfl (fun a hf => e_call hf rfl call66 rfl (spec_l7Preds_ok _ c_ (sV aC aD c_.blocks.length aE) (hm.now h1) aN _ ac)) ?_))))))
    rintro bC w ⟨_, rfl, hB⟩
    replace hm := hm.give hB; clear hB
    refine tAn rfl ?_
    obtain ⟨bD, bE, rfl, bF⟩ := ro_slice (hm.ow_rep 0 rfl)
    exact tP rfl (fun w => yV st_57 rfl) (tP rfl (fun w => yB rfl) (tP rfl (fun w => yKt rfl) (tP rfl (fun w => yA rfl) (tE (gz hm [] rfl)))))
   exact tPo rfl rfl (tPo rfl rfl (tPo rfl rfl (tQo rfl hS rfl (tO (tEo rfl rfl (tAs hS (tO (tEo rfl rfl (tAn rfl (tPo rfl rfl (tPo rfl rfl (tP rfl (fun w => yKf rfl) (tP rfl (fun w => yA rfl) (tE (gz hm [] rfl)))))))))))))))
  repeat clear hm
  intro aH w hm
  exact gRt (gr1 results115 rfl ⟨rfl, hm.below⟩)
theorem spec_l10At_ok (w0 : World) (list : List Int) (v1 : Value) (h1 : GT.rep (hp w0) [v1] list) (n_ : Int) :
    ConM Tryz.prog 116 [v1, (nV n_)] w0 (spec_l10At list n_) fun r v w' => v = (nV r) ∧ Below w0.heap.size w0 w' := by
  unfold spec_l10At
  refine gcon func116 rfl fun r => ?_
  have hm := Mem.start w0
  refine gS (gR (gA rfl (gE (gS (gS (gR (gA rfl (gE (gBk (gNf hm (fun aA aC => [(0, v1), (1, (nV n_)), (5, (nV aA))]) (fun aA aC => []) [] rfl ?_ ?_))))))))))
  ·
   repeat clear hm
   intro aI aD aA aC w hm aJ aK aL aE
   refine gS (gS (gR (gM rfl (gM rfl ?_))))
   obtain ⟨aM, aN, rfl, aO⟩ := ro_slice h1
   refine gY (yV st_57 rfl) (gB rfl (gE (go _ 9 rfl (decide_eq_true (by omega)) (gct rfl (gSk (gS (gBk (gS (gR (gM rfl (gM rfl (gg fun aF aG aB => ?_))))))))))))
   obtain ⟨aP, aQ, aR, he⟩ := idx_form h1 aB
   obtain ⟨rfl, _, rfl⟩ := sl3 he
   refine gI st_57 aG (idx_lt aB) rfl (gY (yl isAgg3 ((flat_cells (cs := [(nV aF)]) (hm.now h1) aB rfl).cell (j := 0) rfl) rfl) (gM rfl (gB rfl (gE (gsd 17 rfl (fun aH => ?_) fun aH => ?_)))))
   ·
    exact gct rfl (gS (gR (gM rfl (gA rfl (gE (gRt (gLr aE aD (gr1 results116 rfl ⟨rfl, hm.below⟩))))))))
   exact gcf rfl (gSk (gR (gM rfl (gP (by omega) (by omega) rfl (gA rfl (gE (gze hm [] rfl)))))))
  repeat clear hm
  intro aS aT w hm aV aW
  refine gS (gS (gR (gM rfl (gM rfl ?_))))
  obtain ⟨aX, aY, rfl, aZ⟩ := ro_slice h1
  exact gY (yV st_57 rfl) (gB rfl (gE (go _ 9 rfl (decide_eq_false (by omega)) (gcf rfl (gXt (gHh (gS (gR (gA rfl (gE (gRt (gr1 results116 rfl ⟨rfl, hm.below⟩))))))))))))
theorem spec_l10Split_ok (w0 : World) (c_ : Code_) (v1 : Value) (h1 : GT.rep (hp w0) [v1] c_.blocks) :
    ConM Tryz.prog 64 [(.agg #[(nV c_.params), (nV c_.regs), v1])] w0 (spec_l10Split c_) fun r v w' => ∃ (x1 : Value), v = (.agg #[(nV r.params), (nV r.regs), x1]) ∧ Mem w0 (hp w0) w' [ow [x1] r.blocks] := by
  unfold spec_l10Split
  refine gcon func64 rfl fun r => ?_
  have hm := Mem.start w0
  refine gS (gR (gBx hm rfl fun aE w hm => gAl hm zeroValue44 rfl fun aF w hm => gE (gS (gR (gY (yn (hm.blk_at 1 rfl) isAgg44 sizeOf44 rfl) (gCg rfl call65 (spec_l7Copy_ok _ c_ v1 (hm.now h1)) ?_))))))
  rintro aA cv cw w ⟨cx, rfl, hB⟩
  replace hm := hm.give hB; clear hB
  refine gAl hm zeroValue44 rfl fun aG w hm => gSN hm 0 sizeOf44 (one_cons rfl (one_cons rfl (one_cons (rep_one (hm.ow_rep 1 rfl)) one_nil))) rfl fun w hm => gE (gS (gS (gR (gA rfl (gE ?_)))))
  obtain ⟨cG, cH, rfl, cy⟩ := ro_slice (hm.ow_rep 1 rfl)
  refine gBk (gNg (fun aX bZ a w => ∃ (b6 : Value), St 142 [(1, (pV aE)), (2, (pV aF)), (3, (pV aG)), (4, (nV aX))] w0 (hp w0) [blk aE [(nV c_.params), (nV c_.regs), v1] 44, blk aF [(nV 0), (nV 0), (.slice none 0 0)] 44, blk aG [(nV aA.params), (nV aA.regs), b6] 44, ow [b6] bZ] a w) (fun a hf => ⟨(.slice cG aA.blocks.length cH), hf.sb rfl, hm.pk [3, 2, 0, 1] rfl rfl⟩) ?_ ?_)
  ·
   repeat clear hm
   rintro _ _ aX bZ a w ⟨b6, hf, hm⟩ cz dA dB _
   refine gv hf (gS (gS (gR (gM rfl (gF fo_44_2 rfl (gL hm 0 isAgg42 rfl ?_))))))
   obtain ⟨bq, aZ, rfl, dC⟩ := ro_slice h1
   refine gY (yV st_42 rfl) (gB rfl (gE (go _ 20 rfl (decide_eq_true (by omega)) (gct rfl (gSk (gS (gBk (gS (gR (gA rfl (gE ?_)))))))))))
   obtain ⟨cI, cJ, rfl, dD⟩ := ro_slice (hm.ow_rep 3 rfl)
   refine gJg (fun b7 a w => ∃ (bG : Value), St 142 [(1, (pV aE)), (2, (pV aF)), (3, (pV aG)), (4, (nV aX))] w0 (hp w0) [blk aE [(nV c_.params), (nV c_.regs), (.slice bq c_.blocks.length aZ)] 44, blk aF [(nV 0), (nV 0), (.slice none 0 0)] 44, blk aG [(nV aA.params), (nV aA.regs), bG] 44, ow [bG] b7] a w) (fun b7 => ?_) ?_
   ·
    refine gBk (gMg (fun aD a w => ∃ (ax : Value), St 142 [(1, (pV aE)), (2, (pV aF)), (3, (pV aG)), (4, (nV aX)), (5, (nV aD.2))] w0 (hp w0) [blk aE [(nV c_.params), (nV c_.regs), (.slice bq c_.blocks.length aZ)] 44, blk aF [(nV 0), (nV 0), (.slice none 0 0)] 44, blk aG [(nV aA.params), (nV aA.regs), ax] 44, ow [ax] aD.1] a w) (fun a hf => ⟨(.slice cI bZ.length cJ), hf.sb rfl, hm.pk [0, 1, 2, 3] rfl rfl⟩) ?_)
    repeat clear hm
    rintro dE cK aD a w ⟨ax, hf, hm⟩ dF cL
    refine gv hf (gS (gS (gR (gM rfl (gF fo_44_2 rfl (gL hm 0 isAgg42 rfl (gM rfl (gg fun dG br bH => ?_))))))))
    obtain ⟨af, ag, dH, he⟩ := idx_form' h1 bH
    obtain ⟨rfl, _, rfl⟩ := sl3 he
    obtain ⟨dI, dJ, dK, bt, dL, dM, b8⟩ := rk_Block_ h1 bH
    refine gI st_42 br (idx_lt bH) rfl (gF fo_59_4 rfl (gY (yl isAgg57 ((bt.mono hm.lez).cell (j := 4) rfl) rfl) ?_))
    obtain ⟨dN, dO, rfl, dP⟩ := ro_slice b8
    refine gY (yV st_57 rfl) (gB rfl (gE (gsd 31 rfl (fun cM => ?_) fun cM => ?_)))
    ·
     refine gct rfl (gSk (gS (gJg (fun b9 a w => ∃ (bJ : Value), St 142 [(1, (pV aE)), (2, (pV aF)), (3, (pV aG)), (4, (nV aX)), (5, (nV aD.2))] w0 (hp w0) [blk aE [(nV c_.params), (nV c_.regs), (sV af ag c_.blocks.length aZ)] 44, blk aF [(nV 0), (nV 0), (.slice none 0 0)] 44, blk aG [(nV aA.params), (nV aA.regs), bJ] 44, ow [bJ] b9] a w) (fun b9 => ?_) ?_)))
     ·
      refine gBk (gS (gR (gY (yn (hm.blk_at 0 rfl) isAgg44 sizeOf44 rfl) (gM rfl (gM rfl (gC hm rfl call115 (spec_l10Sharp_ok _ c_ (sV af ag c_.blocks.length aZ) (hm.now h1) aX aD.2) fun dQ dR w hm => gE (gJg (fun ba a w => ∃ (bK : Value), St 142 [(1, (pV aE)), (2, (pV aF)), (3, (pV aG)), (4, (nV aX)), (5, (nV aD.2))] w0 (hp w0) [blk aE [(nV c_.params), (nV c_.regs), (sV af ag c_.blocks.length aZ)] 44, blk aF [(nV 0), (nV 0), (.slice none 0 0)] 44, blk aG [(nV aA.params), (nV aA.regs), bK] 44, ow [bK] ba] a w) (fun ba => ?_) ?_)))))))
      ·
       refine gs 37 rfl (fun cN => ?_) fun cN => ?_
       ·
        refine gct rfl (gS (gR (gF fo_44_2 rfl (gL hm 0 isAgg42 rfl (gM rfl (gI st_42 br (idx_lt bH) rfl (gF fo_59_4 rfl (gY (yl isAgg57 ((bt.mono hm.lez).cell (j := 4) rfl) rfl) (gM rfl (gg fun ah cO bb => ?_))))))))))
        obtain ⟨dS, dT, dU, he⟩ := idx_form b8 bb
        obtain ⟨rfl, _, rfl⟩ := sl3 he
        refine gI st_57 cO (idx_lt bb) rfl (gY (yl isAgg3 ((flat_cells (cs := [(nV ah)]) (hm.now b8) bb rfl).cell (j := 0) rfl) rfl) (gA rfl (gE (gS (gW (.p 0 (.p 2 (.p 6 (.p 7 (.q 1 (.p 3 (.p 4 (.q 8 (.p 9 (.e 5 (.p 10 (.e 11 .fin .nil)) .nil)))))))))) [1, 5, 8] [0, 2, 3, 4, 6, 7, 9, 10] hm [0, 1, 2] [blk aE [(nV c_.params), (nV c_.regs), (sV af ag c_.blocks.length aZ)] 44, blk aF [(nV 0), (nV 0), (.slice none 0 0)] 44, blk aG [(nV aA.params), (nV aA.regs), ax] 44] rfl mxo (by kernel_rfl) (fun _ _ _ h => h.2) fun w hm hS => tP rfl (fun w => yF fo_44_2 rfl) (tP rfl (fun w => yM rfl) (tP rfl (fun w => yM rfl) (tP rfl (fun w => yF fo_44_2 rfl) (tQ rfl hS (fun w hm => yL hm 2 isAgg42 rfl) (gg fun aB cP bB => ?_))))))))))
        obtain ⟨aa, ab, ac, he⟩ := idx_form' (hm.ow_rep 3 rfl) bB
        subst he
        obtain ⟨dV, dW, dX, dY, dZ, d1, d2⟩ := rk_Block_ (hm.ow_rep 3 rfl) bB
        refine tP rfl (fun w => yI st_42 cP (idx_lt bB) rfl) (tP rfl (fun w => yF fo_59_4 rfl) (tQ rfl hS (fun w hm => yL hm 2 isAgg42 rfl) ?_))
        have d3 := rep_len (hm.ow_rep 3 rfl)
        refine tP rfl (fun w => yV st_42 rfl) (tO ?_)
        obtain ⟨bu, bv, d4, hm⟩ := pin_Block_ hm 3 rfl bB
        refine tY rfl (yl isAgg57 ((hm.holeE_at 6 rfl).cell (j := 4) rfl) rfl) (tAk hm [3, 4, 5] rfl fun hS => gg fun d5 cQ bL => ?_)
        obtain ⟨bw, bx, bz, he⟩ := idx_form (hm.ow_rep 0 rfl) bL
        subst he
        refine tP rfl (fun w => yI st_57 cQ (idx_lt bL) rfl) (tO (tf0 rfl rfl (fun a hf => e_setElem (x1 := (aD.1.length : Int)) (j := 0) (vs := [(nV ((aD.1.length : Int)))]) 0 hf hm rfl bL rfl sizeOf3 rfl rfl rfl (one_cons rfl one_nil) rfl rfl) ?_))
        rintro _ w hm
        have d6 := List.getElem?_set_self (a := (aD.1.length : Int)) (idx_lt bL)
        refine tAn rfl (tE ?_)
        replace hm := (mk_Block_ aB.jump aB.on hm 2 1 0 rfl).pk (L' := [ow [bu, bv, (nV aB.jump), (nV aB.on), (sV bw bx aB.next_.length bz)] ((⟨aB.phis, aB.ins, aB.jump, aB.on, (aB.next_.set (aD.2).toNat (aD.1.length : Int))⟩ : Block_) : Block_), blk aE [(nV c_.params), (nV c_.regs), (sV af ag c_.blocks.length aZ)] 44, blk aF [(nV 0), (nV 0), (.slice none 0 0)] 44, blk aG [(nV aA.params), (nV aA.regs), (sV aa ab aD.1.length ac)] 44, holeE aa ab aD.1.length ac (aD.1 : List Block_) (aX).toNat [bu, bv, (nV aB.jump), (nV aB.on), (sV bw bx aB.next_.length bz)]]) [2, 3, 4, 5, 6] rfl rfl
        replace hm := (hm.shutE (y := ((⟨aB.phis, aB.ins, aB.jump, aB.on, (aB.next_.set (aD.2).toNat (aD.1.length : Int))⟩ : Block_) : Block_)) 4 0 (by decide) rfl rfl).pk (L' := [blk aE [(nV c_.params), (nV c_.regs), (sV af ag c_.blocks.length aZ)] 44, blk aF [(nV 0), (nV 0), (.slice none 0 0)] 44, blk aG [(nV aA.params), (nV aA.regs), (sV aa ab aD.1.length ac)] 44, ow [(sV aa ab aD.1.length ac)] (aD.1.set (aX).toNat (⟨aB.phis, aB.ins, aB.jump, aB.on, (aB.next_.set (aD.2).toNat (aD.1.length : Int))⟩ : Block_))]) [1, 2, 3, 4] rfl rfl
        have d7 := List.getElem?_set_self (a := ((⟨aB.phis, aB.ins, aB.jump, aB.on, (aB.next_.set (aD.2).toNat (aD.1.length : Int))⟩ : Block_) : Block_)) (idx_lt bB)
        refine gR (gF fo_44_2 rfl (gL hm 2 isAgg42 rfl (gf rfl (fun a hf => e_build0 (α := Phi_) et_55 hm rfl) ?_)))
        rintro d8 w hm
        refine gf rfl (fun a hf => e_build0 (α := Ins_) et_56 hm rfl) ?_
        rintro d9 w hm
        refine gM rfl (gf rfl (fun a hf => e_build (vs := #[(0, (nV ah))]) (cs := [(nV ah)]) et_57 hf hm rfl rfl (by kernel_rfl) rfl rfl) ?_)
        rintro _ w ⟨aj, rfl, hm⟩
        replace hm := hm.lit (xs := ([ah] : List Int)) 0 rfl rfl rfl rfl
        obtain ⟨ak, al, rfl, da⟩ := ro_slice (hm.ow_rep 2 rfl)
        obtain ⟨am, an, rfl, db⟩ := ro_slice (hm.ow_rep 1 rfl)
        refine gY (yG rfl (y_build (vs := [(0, (.slice ak ([] : List Phi_).length al)), (1, (.slice am ([] : List Ins_).length an)), (2, (nV 1)), (4, (sV aj 0 1 1))]) (cs := #[(.slice ak ([] : List Phi_).length al), (.slice am ([] : List Ins_).length an), (nV 1), (nV 0), (sV aj 0 1 1)]) rfl rfl (by kernel_rfl))) (gf rfl (fun a hf => e_build (vs := #[(0, (.agg #[(.slice ak ([] : List Phi_).length al), (.slice am ([] : List Ins_).length an), (nV 1), (nV 0), (sV aj 0 1 1)]))]) (cs := [(.slice ak ([] : List Phi_).length al), (.slice am ([] : List Ins_).length an), (nV 1), (nV 0), (sV aj 0 1 1)]) et_42 hf hm rfl rfl (by kernel_rfl) rfl rfl) ?_)
        rintro _ w ⟨bM, rfl, hm⟩
        replace hm := hm.els_nil (α := Block_)
        replace hm := (mk_Block_ 1 0 hm 4 3 2 rfl).pk (L' := [els [] ([] : List Block_), blk bM [(.slice ak ([] : List Phi_).length al), (.slice am ([] : List Ins_).length an), (nV 1), (nV 0), (sV aj 0 1 1)] 59, ow [(.slice ak ([] : List Phi_).length al), (.slice am ([] : List Ins_).length an), (nV 1), (nV 0), (sV aj 0 1 1)] ((⟨([] : List Phi_), ([] : List Ins_), 1, 0, ([ah] : List Int)⟩ : Block_) : Block_), blk aE [(nV c_.params), (nV c_.regs), (sV af ag c_.blocks.length aZ)] 44, blk aF [(nV 0), (nV 0), (.slice none 0 0)] 44, blk aG [(nV aA.params), (nV aA.regs), (sV aa ab aD.1.length ac)] 44, ow [(sV aa ab aD.1.length ac)] (aD.1.set (aX).toNat (⟨aB.phis, aB.ins, aB.jump, aB.on, (aB.next_.set (aD.2).toNat (aD.1.length : Int))⟩ : Block_))]) [0, 1, 4, 5, 6, 7, 8] rfl rfl
        replace hm := (hm.els_cons 0 2 (by decide) rfl rfl).pk (L' := [els [(.slice ak ([] : List Phi_).length al), (.slice am ([] : List Ins_).length an), (nV 1), (nV 0), (sV aj 0 1 1)] ([(⟨([] : List Phi_), ([] : List Ins_), 1, 0, ([ah] : List Int)⟩ : Block_)] : List Block_), blk bM [(.slice ak ([] : List Phi_).length al), (.slice am ([] : List Ins_).length an), (nV 1), (nV 0), (sV aj 0 1 1)] 59, blk aE [(nV c_.params), (nV c_.regs), (sV af ag c_.blocks.length aZ)] 44, blk aF [(nV 0), (nV 0), (.slice none 0 0)] 44, blk aG [(nV aA.params), (nV aA.regs), (sV aa ab aD.1.length ac)] 44, ow [(sV aa ab aD.1.length ac)] (aD.1.set (aX).toNat (⟨aB.phis, aB.ins, aB.jump, aB.on, (aB.next_.set (aD.2).toNat (aD.1.length : Int))⟩ : Block_))]) [0, 1, 3, 4, 5, 6] rfl rfl
        replace hm := (hm.lit_els 1 0 (by decide) rfl rfl rfl rfl).pk (L' := [ow [(sV bM 0 1 1)] ([(⟨([] : List Phi_), ([] : List Ins_), 1, 0, ([ah] : List Int)⟩ : Block_)] : List Block_), blk aE [(nV c_.params), (nV c_.regs), (sV af ag c_.blocks.length aZ)] 44, blk aF [(nV 0), (nV 0), (.slice none 0 0)] 44, blk aG [(nV aA.params), (nV aA.regs), (sV aa ab aD.1.length ac)] 44, ow [(sV aa ab aD.1.length ac)] (aD.1.set (aX).toNat (⟨aB.phis, aB.ins, aB.jump, aB.on, (aB.next_.set (aD.2).toNat (aD.1.length : Int))⟩ : Block_))]) [1, 2, 3, 4, 5] rfl rfl
        refine gb fun dc cR => ?_
        obtain ⟨cS, cT⟩ := appM_some.1 cR
        replace hm := (hm.both 4 0 (by decide) rfl rfl).pk (L' := [blk aE [(nV c_.params), (nV c_.regs), (sV af ag c_.blocks.length aZ)] 44, blk aF [(nV 0), (nV 0), (.slice none 0 0)] 44, blk aG [(nV aA.params), (nV aA.regs), (sV aa ab aD.1.length ac)] 44, both (ow [(sV aa ab aD.1.length ac)] (aD.1.set (aX).toNat (⟨aB.phis, aB.ins, aB.jump, aB.on, (aB.next_.set (aD.2).toNat (aD.1.length : Int))⟩ : Block_))) (ow [(sV bM 0 1 1)] ([(⟨([] : List Phi_), ([] : List Ins_), 1, 0, ([ah] : List Int)⟩ : Block_)] : List Block_))]) [1, 2, 3, 4] rfl rfl
        refine gf rfl (fun a hf => e_appendD (xs := (aD.1.set (aX).toNat (⟨aB.phis, aB.ins, aB.jump, aB.on, (aB.next_.set (aD.2).toNat (aD.1.length : Int))⟩ : Block_))) (ys := ([(⟨([] : List Phi_), ([] : List Ins_), 1, 0, ([ah] : List Int)⟩ : Block_)] : List Block_)) 3 et_42 hf hm rfl rfl rfl rfl cS) ?_
        rintro cU w hm
        rw [cT] at hm
        exact gF fo_44_2 rfl (gS1 hm 2 sizeOf42 (rep_one (hm.ow_rep 3 rfl)) rfl fun w hm => gE (gZ fun a hf => ⟨cU, hf.sb rfl, hm.pk [0, 1, 2, 3] rfl rfl⟩))
       exact gcf rfl (gSk (gZ fun a hf => ⟨ax, hf.sb rfl, hm.pk [0, 1, 2, 3] rfl rfl⟩))
      repeat clear hm
      rintro ba a w ⟨bK, hf, hm⟩
      exact gv hf (gZ fun a hf => ⟨bK, hf.sb rfl, hm.pk [0, 1, 2, 3] rfl rfl⟩)
     repeat clear hm
     rintro b9 a w ⟨bJ, hf, hm⟩
     exact gv hf (gR (gM rfl (gB rfl (gA rfl (gE (gZe fun a hf => ⟨bJ, hf.sb rfl, hm.pk [0, 1, 2, 3] rfl rfl⟩))))))
    exact gcf rfl (gXt (gHh (gLp cL cK (gZ fun a hf => ⟨ax, hf.sb rfl, hm.pk [0, 1, 2, 3] rfl rfl⟩))))
   repeat clear hm
   rintro b7 a w ⟨bG, hf, hm⟩
   exact gv hf (gR (gM rfl (gP (by omega) (by omega) rfl (gA rfl (gE (gZe fun a hf => ⟨bG, hf.sb rfl, hm.pk [0, 1, 2, 3] rfl rfl⟩))))))
  repeat clear hm
  rintro dd aI a w ⟨de, hf, hm⟩ df dg
  refine gv hf (gS (gS (gR (gM rfl (gF fo_44_2 rfl (gL hm 0 isAgg42 rfl ?_))))))
  obtain ⟨aT, aV, rfl, dh⟩ := ro_slice h1
  refine gY (yV st_42 rfl) (gB rfl (gE (go _ 20 rfl (decide_eq_false (by omega)) (gcf rfl (gXt (gHh (gS (gS (gR (gA rfl (gE ?_)))))))))))
  obtain ⟨ao, aJ, rfl, di⟩ := ro_slice (hm.ow_rep 3 rfl)
  refine gBk (gNf hm (fun aR bN => [(1, (pV aE)), (2, (pV aF)), (3, (pV aG)), (7, (nV aR))]) (fun aR bN => [blk aE [(nV c_.params), (nV c_.regs), (.slice aT c_.blocks.length aV)] 44, blk aF [(nV 0), (nV 0), (.slice none 0 0)] 44, blk aG [(nV aA.params), (nV aA.regs), (.slice ao aI.length aJ)] 44, ow [(.slice ao aI.length aJ)] bN]) [0, 1, 2, 3] rfl ?_ ?_)
  ·
   repeat clear hm
   intro _ _ aR bN w hm dk dl dm _
   refine gS (gS (gR (gM rfl (gF fo_44_2 rfl (gL hm 0 isAgg42 rfl (gY (yV st_42 rfl) (gB rfl (gE (go _ 72 rfl (decide_eq_true (by omega)) (gct rfl (gSk (gS (gBk (gS (gR (gY (yn (hm.blk_at 0 rfl) isAgg44 sizeOf44 rfl) (gM rfl (gCg rfl call66 (spec_l7Preds_ok _ c_ (.slice aT c_.blocks.length aV) (hm.now h1) aR) ?_))))))))))))))))))
   rintro aH dp dq w ⟨_, rfl, hB⟩
   replace hm := hm.give hB; clear hB
   refine gA rfl (gE (gS (gR (gY (yn (hm.blk_at 3 rfl) isAgg44 sizeOf44 rfl) (gM rfl (gCg rfl call66 (spec_l7Preds_ok _ (⟨aA.params, aA.regs, bN⟩ : Code_) (.slice ao aI.length aJ) (hm.ow_rep 4 rfl) aR) ?_))))))
   rintro aK dr dt w ⟨_, rfl, hB⟩
   replace hm := hm.give hB; clear hB
   refine gA rfl (gE (gS (gR (gA rfl (gE ?_)))))
   obtain ⟨aP, aQ, rfl, du⟩ := ro_slice (hm.ow_rep 1 rfl)
   obtain ⟨aY, aS, rfl, dv⟩ := ro_slice (hm.ow_rep 0 rfl)
   refine gJ hm (fun bO => [(1, (pV aE)), (2, (pV aF)), (3, (pV aG)), (7, (nV aR))]) (fun bO => [blk aE [(nV c_.params), (nV c_.regs), (.slice aT c_.blocks.length aV)] 44, blk aF [(nV 0), (nV 0), (.slice none 0 0)] 44, blk aG [(nV aA.params), (nV aA.regs), (.slice ao aI.length aJ)] 44, ow [(.slice ao aI.length aJ)] bO]) (fun bO => ?_) ?_
   ·
    refine gBk (gMf hm (fun aL => [(1, (pV aE)), (2, (pV aF)), (3, (pV aG)), (7, (nV aR)), (8, (.slice aP aH.length aQ)), (9, (.slice aY aK.length aS)), (10, (nV aL.2))]) (fun aL => [blk aE [(nV c_.params), (nV c_.regs), (.slice aT c_.blocks.length aV)] 44, blk aF [(nV 0), (nV 0), (.slice none 0 0)] 44, blk aG [(nV aA.params), (nV aA.regs), (.slice ao aI.length aJ)] 44, ow [(.slice ao aI.length aJ)] aL.1, ow [(.slice aP aH.length aQ)] aH, ow [(.slice aY aK.length aS)] aK]) [2, 3, 4, 5, 1, 0] rfl ?_)
    repeat clear hm
    intro dw cV aL w hm dx cW
    refine gS (gS (gR (gM rfl (gF fo_44_2 rfl (gL hm 2 isAgg42 rfl (gM rfl (gg fun aO cX ay => ?_)))))))
    obtain ⟨aM, aN, dy, he⟩ := idx_form' (hm.ow_rep 3 rfl) ay
    obtain ⟨rfl, _, rfl⟩ := sl3 he
    obtain ⟨dz, eA, eB, eC, eD, eE, eF⟩ := rk_Block_ (hm.ow_rep 3 rfl) ay
    have hL3_1 := rep_slice_len (hm.ow_rep 3 rfl)
    refine gI st_42 cX (idx_lt2 ay hL3_1) rfl (gF fo_59_0 rfl ?_)
    obtain ⟨eG, bP, bQ, hm⟩ := pin_Block_ hm 3 rfl ay
    refine gY (yl isAgg55 ((hm.holeE_at 6 rfl).cell (j := 0) rfl) rfl) ?_
    obtain ⟨bR, bS, rfl, eH⟩ := ro_slice (hm.ow_rep 2 rfl)
    refine gY (yV st_55 rfl) (gB rfl (gE (gsd 89 rfl (fun cY => ?_) fun cY => ?_)))
    ·
     refine gct rfl (gSk (gS (gBk (gS ?_))))
     replace hm := (mk_Block_ aO.jump aO.on hm 2 1 0 rfl).pk (L' := [ow [(.slice bR aO.phis.length bS), bP, (nV aO.jump), (nV aO.on), bQ] (aO : Block_), blk aE [(nV c_.params), (nV c_.regs), (.slice aT c_.blocks.length aV)] 44, blk aF [(nV 0), (nV 0), (.slice none 0 0)] 44, blk aG [(nV aA.params), (nV aA.regs), (sV aM aN aI.length aJ)] 44, holeE aM aN aI.length aJ (aL.1 : List Block_) (aR).toNat [(.slice bR aO.phis.length bS), bP, (nV aO.jump), (nV aO.on), bQ], ow [(.slice aP aH.length aQ)] aH, ow [(.slice aY aK.length aS)] aK]) [2, 3, 4, 5, 6, 7, 8] rfl rfl
     replace hm := (hm.shutE (y := (aO : Block_)) 4 0 (by decide) rfl rfl).pk (L' := [blk aE [(nV c_.params), (nV c_.regs), (.slice aT c_.blocks.length aV)] 44, blk aF [(nV 0), (nV 0), (.slice none 0 0)] 44, blk aG [(nV aA.params), (nV aA.regs), (sV aM aN aI.length aJ)] 44, ow [(sV aM aN aI.length aJ)] (aL.1.set (aR).toNat aO), ow [(.slice aP aH.length aQ)] aH, ow [(.slice aY aK.length aS)] aK]) [1, 2, 3, 4, 5, 6] rfl rfl
     rw [set_same ay] at hm
     refine gR (gf rfl (fun a hf => e_build0 (α := Int) et_57 hm rfl) ?_)
     rintro eI w hm
     refine gA rfl (gE (gS (gS (gR (gA rfl (gE ?_))))))
     obtain ⟨cZ, c4, rfl, eJ⟩ := ro_slice (hm.ow_rep 0 rfl)
     refine gBk (gNg (fun bT bU a w => ∃ (az : Value), St 142 [(1, (pV aE)), (2, (pV aF)), (3, (pV aG)), (7, (nV aR)), (8, (.slice aP aH.length aQ)), (9, (.slice aY aK.length aS)), (10, (nV aL.2)), (11, az), (12, (nV bT))] w0 (hp w0) [blk aE [(nV c_.params), (nV c_.regs), (.slice aT c_.blocks.length aV)] 44, blk aF [(nV 0), (nV 0), (.slice none 0 0)] 44, blk aG [(nV aA.params), (nV aA.regs), (sV aM aN aI.length aJ)] 44, ow [(sV aM aN aI.length aJ)] aL.1, ow [(.slice aP aH.length aQ)] aH, ow [(.slice aY aK.length aS)] aK, ow [az] bU] a w) (fun a hf => ⟨(.slice cZ ([] : List Int).length c4), hf.sb rfl, hm.pk [1, 2, 3, 4, 5, 6, 0] rfl rfl⟩) ?_ ?_)
     ·
      repeat clear hm
      rintro _ _ bT bU a w ⟨az, hf, hm⟩ eK eL eM _
      refine gv hf (gS (gS (gR (gM rfl (gM rfl (gY (yV st_57 rfl) (gB rfl (gE (go _ 96 rfl (decide_eq_true (by omega)) (gct rfl (gSk (gS (gBk (gS (gR (gM rfl (gM rfl (gg fun cA c5 bc => ?_))))))))))))))))))
      obtain ⟨bC, bD, eN, he⟩ := idx_form (hm.ow_rep 5 rfl) bc
      obtain ⟨rfl, _, rfl⟩ := sl3 he
      refine gI st_57 c5 (idx_lt bc) rfl (gY (yl isAgg3 ((flat_cells (cs := [(nV cA)]) (hm.ow_rep 5 rfl) bc rfl).cell (j := 0) rfl) rfl) (gA rfl (gE (gS (gS (gR (gM rfl (gF fo_44_2 rfl (gL hm 0 isAgg42 rfl (gY (yV st_42 rfl) (gB rfl (gE (gJ hm (fun aw => [(1, (pV aE)), (2, (pV aF)), (3, (pV aG)), (7, (nV aR)), (8, (.slice aP aH.length aQ)), (9, (sV bC bD aK.length aS)), (10, (nV aL.2)), (11, az), (12, (nV bT)), (13, (nV aw))]) (fun aw => [blk aE [(nV c_.params), (nV c_.regs), (.slice aT c_.blocks.length aV)] 44, blk aF [(nV 0), (nV 0), (.slice none 0 0)] 44, blk aG [(nV aA.params), (nV aA.regs), (sV aM aN aI.length aJ)] 44, ow [(sV aM aN aI.length aJ)] aL.1, ow [(.slice aP aH.length aQ)] aH, ow [(sV bC bD aK.length aS)] aK, ow [az] bU]) (fun aw => ?_) ?_)))))))))))))
      ·
       refine gsd 107 rfl (fun c6 => ?_) fun c6 => ?_
       ·
        refine gct rfl (gR (gY (yn (hm.blk_at 2 rfl) isAgg44 sizeOf44 rfl) (gM rfl (gCg rfl call66 (spec_l7Preds_ok _ (⟨aA.params, aA.regs, aL.1⟩ : Code_) (sV aM aN aI.length aJ) (hm.ow_rep 3 rfl) cA) ?_))))
        rintro eO eP eQ w ⟨_, rfl, hB⟩
        replace hm := hm.give hB; clear hB
        refine gg fun c7 c8 bd => ?_
        obtain ⟨eR, eS, eT, he⟩ := idx_form (hm.ow_rep 0 rfl) bd
        subst he
        exact gI st_57 c8 (idx_lt bd) rfl (gY (yl isAgg3 ((flat_cells (cs := [(nV c7)]) (hm.ow_rep 0 rfl) bd rfl).cell (j := 0) rfl) rfl) (gA rfl (gE (gz hm [1, 2, 3, 4, 5, 6, 7] rfl))))
       exact gcf rfl (gSk (gz hm [0, 1, 2, 3, 4, 5, 6] rfl))
      repeat clear hm
      intro aw w hm
      refine gJg (fun be a w => ∃ (bV : Value), St 142 [(1, (pV aE)), (2, (pV aF)), (3, (pV aG)), (7, (nV aR)), (8, (.slice aP aH.length aQ)), (9, (sV bC bD aK.length aS)), (10, (nV aL.2)), (11, bV), (12, (nV bT))] w0 (hp w0) [blk aE [(nV c_.params), (nV c_.regs), (.slice aT c_.blocks.length aV)] 44, blk aF [(nV 0), (nV 0), (.slice none 0 0)] 44, blk aG [(nV aA.params), (nV aA.regs), (sV aM aN aI.length aJ)] 44, ow [(sV aM aN aI.length aJ)] aL.1, ow [(.slice aP aH.length aQ)] aH, ow [(sV bC bD aK.length aS)] aK, ow [bV] be] a w) (fun be => ?_) ?_
      ·
       refine gW (.p 0 (.p 1 (.p 3 (.p 7 (.p 11 (.p 12 (.q 2 (.p 4 (.p 5 (.e 6 (.p 8 (.p 9 (.e 10 (.e 13 (.p 14 (.e 15 (.e 16 (.e 17 (.p 18 .fin) .nil) .nil) .nil)) .nil) (.e 13 (.e 10 (.p 14 (.e 15 (.e 16 (.e 17 (.p 18 .fin) .nil) .nil) .nil)) .nil) .nil)))) (.e 13 (.e 6 (.p 8 (.p 9 (.e 10 (.p 14 (.e 15 (.e 16 (.e 17 (.p 18 .fin) .nil) .nil) .nil)) .nil))) .nil) .nil))))))))))) [13] [0, 1, 3, 4, 5, 7, 8, 9, 11, 12, 14, 18] hm [0, 1, 2, 3, 4, 5, 6] [blk aE [(nV c_.params), (nV c_.regs), (.slice aT c_.blocks.length aV)] 44, blk aF [(nV 0), (nV 0), (.slice none 0 0)] 44, blk aG [(nV aA.params), (nV aA.regs), (sV aM aN aI.length aJ)] 44, ow [(sV aM aN aI.length aJ)] aL.1, ow [(.slice aP aH.length aQ)] aH, ow [(sV bC bD aK.length aS)] aK, ow [az] bU] rfl mxo (by kernel_rfl) (fun _ _ _ h => h.2) fun w hm hS => tP rfl (fun w => yM rfl) (tP rfl (fun w => yF fo_44_2 rfl) (tP rfl (fun w => yM rfl) (tP rfl (fun w => yM rfl) (tP rfl (fun w => yM rfl) (tP rfl (fun w => yM rfl) (tQ rfl hS (fun w hm => yL hm 0 isAgg42 rfl) (gg fun eU c9 bf => ?_)))))))
       obtain ⟨eV, eW, eX, he⟩ := idx_form' h1 bf
       obtain ⟨rfl, _, rfl⟩ := sl3 he
       obtain ⟨eY, eZ, ea, cB, bW, eb, ec⟩ := rk_Block_ h1 bf
       refine tP rfl (fun w => yI st_42 c9 (idx_lt bf) rfl) (tP rfl (fun w => yF fo_59_0 rfl) (gb fun ed cC => gb fun ee bg => gb fun ae bh => gb fun ef bj => tMo ?_ ?_))
       ·
        refine tY rfl (yl isAgg55 ((cB.mono hm.lez).cell (j := 0) rfl) rfl) (tAn rfl ?_)
        obtain ⟨ca, bk⟩ := getI_some.1 cC
        obtain ⟨eg, eh, el, he⟩ := idx_form' bW bk
        subst he
        obtain ⟨em, cD, bX⟩ := rk_Phi_ bW bk
        refine tP rfl (fun w => yI st_55 ca (idx_lt bk) rfl) (tP rfl (fun w => yF fo_87_1 rfl) (tMo ?_ ?_))
        ·
         refine tY rfl (yl isAgg57 ((cD.mono hm.lez).cell (j := 1) rfl) rfl) (tAn rfl (tO (tf rfl rfl (fun a hf => e_call hf rfl call116 rfl (spec_l10At_ok _ aH (.slice aP aH.length aQ) (hm.ow_rep 4 rfl) aw _ bg)) ?_)))
         rintro eo w ⟨rfl, hB⟩
         replace hm := hm.below' hB; clear hB
         refine tAk hm [0, 1, 2, 3, 4, 5, 6] rfl fun hS => ?_
         obtain ⟨cb, bl⟩ := getI_some.1 bh
         obtain ⟨eu, ew, ex, he⟩ := idx_form bX bl
         subst he
         refine tP rfl (fun w => yI st_57 cb (idx_lt bl) rfl) (tO (tY rfl (yl isAgg3 ((flat_cells (cs := [(nV ae)]) (hm.now bX) bl rfl).cell (j := 0) rfl) rfl) (tAn rfl (tO (tf rfl rfl (fun a hf => e_build (vs := #[(0, (nV ae))]) (cs := [(nV ae)]) et_57 hf hm rfl rfl (by kernel_rfl) rfl rfl) ?_)))))
         rintro _ w ⟨ey, rfl, hm⟩
         replace hm := hm.lit (xs := ([ae] : List Int)) 0 rfl rfl rfl rfl
         refine tAn rfl (tO ?_)
         obtain ⟨cc, cd⟩ := appM_some.1 bj
         refine tf rfl rfl (fun a hf => e_append 7 et_57 hf hm rfl (hm.ow_rep 0 rfl) rfl rfl rfl cc) ?_
         rintro ce w hm
         rw [cd] at hm
         exact tAn rfl (tP rfl (fun w => yA rfl) (tE (gZ fun a hf => ⟨ce, hf.sb rfl, hm.pk [1, 2, 3, 4, 5, 6, 7] rfl rfl⟩)))
        refine tO (tf rfl rfl (fun a hf => e_call hf rfl call116 rfl (spec_l10At_ok _ aH (.slice aP aH.length aQ) (hm.ow_rep 4 rfl) aw _ bg)) ?_)
        rintro fA w ⟨rfl, hB⟩
        replace hm := hm.below' hB; clear hB
        refine tAk hm [0, 1, 2, 3, 4, 5, 6] rfl fun hS => tO (tY rfl (yl isAgg57 ((cD.mono hm.lez).cell (j := 1) rfl) rfl) (tAn rfl ?_))
        obtain ⟨cf, bm⟩ := getI_some.1 bh
        obtain ⟨fB, fC, fD, he⟩ := idx_form bX bm
        subst he
        refine tP rfl (fun w => yI st_57 cf (idx_lt bm) rfl) (tO (tY rfl (yl isAgg3 ((flat_cells (cs := [(nV ae)]) (hm.now bX) bm rfl).cell (j := 0) rfl) rfl) (tAn rfl (tO (tf rfl rfl (fun a hf => e_build (vs := #[(0, (nV ae))]) (cs := [(nV ae)]) et_57 hf hm rfl rfl (by kernel_rfl) rfl rfl) ?_)))))
        rintro _ w ⟨fE, rfl, hm⟩
        replace hm := hm.lit (xs := ([ae] : List Int)) 0 rfl rfl rfl rfl
        refine tAn rfl (tO ?_)
        obtain ⟨cg, cj⟩ := appM_some.1 bj
        refine tf rfl rfl (fun a hf => e_append 7 et_57 hf hm rfl (hm.ow_rep 0 rfl) rfl rfl rfl cg) ?_
        rintro ck w hm
        rw [cj] at hm
        exact tAn rfl (tP rfl (fun w => yA rfl) (tE (gZ fun a hf => ⟨ck, hf.sb rfl, hm.pk [1, 2, 3, 4, 5, 6, 7] rfl rfl⟩)))
       refine tO (tf rfl rfl (fun a hf => e_call hf rfl call116 rfl (spec_l10At_ok _ aH (.slice aP aH.length aQ) (hm.ow_rep 4 rfl) aw _ bg)) ?_)
       rintro fF w ⟨rfl, hB⟩
       replace hm := hm.below' hB; clear hB
       refine tAk hm [0, 1, 2, 3, 4, 5, 6] rfl fun hS => tO (tY rfl (yl isAgg55 ((cB.mono hm.lez).cell (j := 0) rfl) rfl) (tAn rfl ?_))
       obtain ⟨cl, bo⟩ := getI_some.1 cC
       obtain ⟨fG, fH, fI, he⟩ := idx_form' bW bo
       subst he
       obtain ⟨fJ, cm, cE⟩ := rk_Phi_ bW bo
       refine tP rfl (fun w => yI st_55 cl (idx_lt bo) rfl) (tP rfl (fun w => yF fo_87_1 rfl) (tO (tY rfl (yl isAgg57 ((cm.mono hm.lez).cell (j := 1) rfl) rfl) (tAn rfl ?_))))
       obtain ⟨cn, bp⟩ := getI_some.1 bh
       obtain ⟨fK, fL, fM, he⟩ := idx_form cE bp
       subst he
       refine tP rfl (fun w => yI st_57 cn (idx_lt bp) rfl) (tO (tY rfl (yl isAgg3 ((flat_cells (cs := [(nV ae)]) (hm.now cE) bp rfl).cell (j := 0) rfl) rfl) (tAn rfl (tO (tf rfl rfl (fun a hf => e_build (vs := #[(0, (nV ae))]) (cs := [(nV ae)]) et_57 hf hm rfl rfl (by kernel_rfl) rfl rfl) ?_)))))
       rintro _ w ⟨fN, rfl, hm⟩
       replace hm := hm.lit (xs := ([ae] : List Int)) 0 rfl rfl rfl rfl
       refine tAn rfl (tO ?_)
       obtain ⟨co, cq⟩ := appM_some.1 bj
       refine tf rfl rfl (fun a hf => e_append 7 et_57 hf hm rfl (hm.ow_rep 0 rfl) rfl rfl rfl co) ?_
       rintro cr w hm
       rw [cq] at hm
       exact tAn rfl (tP rfl (fun w => yA rfl) (tE (gZ fun a hf => ⟨cr, hf.sb rfl, hm.pk [1, 2, 3, 4, 5, 6, 7] rfl rfl⟩)))
      repeat clear hm
      rintro be a w ⟨bV, hf, hm⟩
      exact gv hf (gR (gM rfl (gP (by omega) (by omega) rfl (gA rfl (gE (gZe fun a hf => ⟨bV, hf.sb rfl, hm.pk [0, 1, 2, 3, 4, 5, 6] rfl rfl⟩))))))
     repeat clear hm
     rintro fO ai a w ⟨bA, hf, hm⟩ fP fQ
     refine gv hf (gS (gS (gR (gM rfl (gM rfl (gY (yV st_57 rfl) (gB rfl (gE (go _ 96 rfl (decide_eq_false (by omega)) (gcf rfl (gXt (gHh (gR (gF fo_44_2 rfl (gL hm 2 isAgg42 rfl (gM rfl (gg fun aC ct bY => ?_)))))))))))))))))
     obtain ⟨fR, fS, fT, fU, fV, fW, fX⟩ := rk_Block_ (hm.ow_rep 3 rfl) bY
     have hL3_2 := rep_slice_len (hm.ow_rep 3 rfl)
     refine gI st_42 ct (idx_lt2 bY hL3_2) rfl (gF fo_59_0 rfl ?_)
     obtain ⟨fY, ap, aq, hm⟩ := pin_Block_ hm 3 rfl bY
     refine gY (yl isAgg55 ((hm.holeE_at 6 rfl).cell (j := 0) rfl) rfl) (gM rfl (gM rfl (gg fun aW cu bE => ?_)))
     obtain ⟨ar, au, av, he⟩ := idx_form' (hm.ow_rep 2 rfl) bE
     subst he
     obtain ⟨fZ, f7, f8⟩ := rk_Phi_ (hm.ow_rep 2 rfl) bE
     refine gI st_55 cu (idx_lt bE) rfl (gF fo_87_1 rfl ?_)
     obtain ⟨bF, hm⟩ := pin_Phi_ hm 2 rfl bE
     have cF : ∀ u ∈ ([bA] : List Value), u.oneCell' = true := (one_cons (rep_one (hm.ow_rep 10 rfl)) one_nil)
     refine gf0 rfl (fun a hf => e_storeH (j := 1) (vs := [bA]) 3 hf hm rfl rfl rfl sizeOf57 rfl rfl (cells_one (cF _ (List.mem_singleton.2 rfl))) cF rfl) ?_
     rintro _ w hm
     replace hm : Mem w0 (hp w0) _ [ow [bF] aW.args, ow [aq] aC.next_, ow [ap] aC.ins, holeE ar au aC.phis.length av (aC.phis : List Phi_) (aL.2).toNat [(nV aW.to), bA], blk aE [(nV c_.params), (nV c_.regs), (.slice aT c_.blocks.length aV)] 44, blk aF [(nV 0), (nV 0), (.slice none 0 0)] 44, blk aG [(nV aA.params), (nV aA.regs), (sV aM aN aI.length aJ)] 44, holeE aM aN aI.length aJ (aL.1 : List Block_) (aR).toNat [(sV ar au aC.phis.length av), ap, (nV aC.jump), (nV aC.on), aq], ow [(.slice aP aH.length aQ)] aH, ow [(.slice aY aK.length aS)] aK, ow [bA] ai] := hm
     refine gE ?_
     replace hm : Mem w0 (hp w0) _ [ow [bF] aW.args, ow [aq] aC.next_, ow [ap] aC.ins, holeE ar au aC.phis.length av (aC.phis : List Phi_) (aL.2).toNat [(nV aW.to), bA], blk aE [(nV c_.params), (nV c_.regs), (.slice aT c_.blocks.length aV)] 44, blk aF [(nV 0), (nV 0), (.slice none 0 0)] 44, blk aG [(nV aA.params), (nV aA.regs), (sV aM aN aI.length aJ)] 44, holeE aM aN aI.length aJ (aL.1 : List Block_) (aR).toNat [(sV ar au aC.phis.length av), ap, (nV aC.jump), (nV aC.on), aq], ow [(.slice aP aH.length aQ)] aH, ow [(.slice aY aK.length aS)] aK, ow [(nV aW.to), bA] ((⟨aW.to, ai⟩ : Phi_) : Phi_)] := mk_Phi_ aW.to hm 10 rfl
     replace hm := (hm.shutE (y := ((⟨aW.to, ai⟩ : Phi_) : Phi_)) 3 10 (by decide) rfl rfl).pk (L' := [ow [bF] aW.args, ow [aq] aC.next_, ow [ap] aC.ins, ow [(sV ar au aC.phis.length av)] (aC.phis.set (aL.2).toNat (⟨aW.to, ai⟩ : Phi_)), blk aE [(nV c_.params), (nV c_.regs), (.slice aT c_.blocks.length aV)] 44, blk aF [(nV 0), (nV 0), (.slice none 0 0)] 44, blk aG [(nV aA.params), (nV aA.regs), (sV aM aN aI.length aJ)] 44, holeE aM aN aI.length aJ (aL.1 : List Block_) (aR).toNat [(sV ar au aC.phis.length av), ap, (nV aC.jump), (nV aC.on), aq], ow [(.slice aP aH.length aQ)] aH, ow [(.slice aY aK.length aS)] aK]) [0, 1, 2, 3, 4, 5, 6, 7, 8, 9] rfl rfl
     have f9 := List.getElem?_set_self (a := ((⟨aW.to, ai⟩ : Phi_) : Phi_)) (idx_lt bE)
     replace hm := (mk_Block_ aC.jump aC.on hm 3 2 1 rfl).pk (L' := [ow [bF] aW.args, ow [(sV ar au aC.phis.length av), ap, (nV aC.jump), (nV aC.on), aq] ((⟨(aC.phis.set (aL.2).toNat (⟨aW.to, ai⟩ : Phi_)), aC.ins, aC.jump, aC.on, aC.next_⟩ : Block_) : Block_), blk aE [(nV c_.params), (nV c_.regs), (.slice aT c_.blocks.length aV)] 44, blk aF [(nV 0), (nV 0), (.slice none 0 0)] 44, blk aG [(nV aA.params), (nV aA.regs), (sV aM aN aI.length aJ)] 44, holeE aM aN aI.length aJ (aL.1 : List Block_) (aR).toNat [(sV ar au aC.phis.length av), ap, (nV aC.jump), (nV aC.on), aq], ow [(.slice aP aH.length aQ)] aH, ow [(.slice aY aK.length aS)] aK]) [0, 3, 4, 5, 6, 7, 8, 9] rfl rfl
     replace hm := (hm.shutE (y := ((⟨(aC.phis.set (aL.2).toNat (⟨aW.to, ai⟩ : Phi_)), aC.ins, aC.jump, aC.on, aC.next_⟩ : Block_) : Block_)) 5 1 (by decide) rfl rfl).pk (L' := [ow [bF] aW.args, blk aE [(nV c_.params), (nV c_.regs), (.slice aT c_.blocks.length aV)] 44, blk aF [(nV 0), (nV 0), (.slice none 0 0)] 44, blk aG [(nV aA.params), (nV aA.regs), (sV aM aN aI.length aJ)] 44, ow [(sV aM aN aI.length aJ)] (aL.1.set (aR).toNat (⟨(aC.phis.set (aL.2).toNat (⟨aW.to, ai⟩ : Phi_)), aC.ins, aC.jump, aC.on, aC.next_⟩ : Block_)), ow [(.slice aP aH.length aQ)] aH, ow [(.slice aY aK.length aS)] aK]) [0, 2, 3, 4, 5, 6, 7] rfl rfl
     have fa := List.getElem?_set_self (a := ((⟨(aC.phis.set (aL.2).toNat (⟨aW.to, ai⟩ : Phi_)), aC.ins, aC.jump, aC.on, aC.next_⟩ : Block_) : Block_)) (idx_lt bY)
     exact gR (gM rfl (gB rfl (gA rfl (gE (gze hm [1, 2, 3, 4, 5, 6] rfl)))))
    refine gcf rfl (gXt (gHh ?_))
    replace hm := (mk_Block_ aO.jump aO.on hm 2 1 0 rfl).pk (L' := [ow [(.slice bR aO.phis.length bS), bP, (nV aO.jump), (nV aO.on), bQ] (aO : Block_), blk aE [(nV c_.params), (nV c_.regs), (.slice aT c_.blocks.length aV)] 44, blk aF [(nV 0), (nV 0), (.slice none 0 0)] 44, blk aG [(nV aA.params), (nV aA.regs), (sV aM aN aI.length aJ)] 44, holeE aM aN aI.length aJ (aL.1 : List Block_) (aR).toNat [(.slice bR aO.phis.length bS), bP, (nV aO.jump), (nV aO.on), bQ], ow [(.slice aP aH.length aQ)] aH, ow [(.slice aY aK.length aS)] aK]) [2, 3, 4, 5, 6, 7, 8] rfl rfl
    replace hm := (hm.shutE (y := (aO : Block_)) 4 0 (by decide) rfl rfl).pk (L' := [blk aE [(nV c_.params), (nV c_.regs), (.slice aT c_.blocks.length aV)] 44, blk aF [(nV 0), (nV 0), (.slice none 0 0)] 44, blk aG [(nV aA.params), (nV aA.regs), (sV aM aN aI.length aJ)] 44, ow [(sV aM aN aI.length aJ)] (aL.1.set (aR).toNat aO), ow [(.slice aP aH.length aQ)] aH, ow [(.slice aY aK.length aS)] aK]) [1, 2, 3, 4, 5, 6] rfl rfl
    rw [set_same ay] at hm
    exact gLp cW cV (gz hm [0, 1, 2, 3] rfl)
   repeat clear hm
   intro bO w hm
   exact gR (gM rfl (gP (by omega) (by omega) rfl (gA rfl (gE (gze hm [0, 1, 2, 3] rfl)))))
  repeat clear hm
  intro fb fc w hm fd fe
  exact gS (gS (gR (gM rfl (gF fo_44_2 rfl (gL hm 0 isAgg42 rfl (gY (yV st_42 rfl) (gB rfl (gE (go _ 72 rfl (decide_eq_false (by omega)) (gcf rfl (gXt (gHh (gS (gR (gY (yn (hm.blk_at 2 rfl) isAgg44 sizeOf44 rfl) (gSN hm 1 sizeOf44 (one_cons rfl (one_cons rfl (one_cons rfl one_nil))) rfl fun w hm => gE (gRt (grc 1 results64 hm rfl isAgg44 sizeOf44 ⟨(.slice ao aI.length aJ), rfl, hm.pk [3] rfl rfl⟩))))))))))))))))))
theorem spec_l14Apart_ok (w0 : World) (phis : List Phi_) (v1 : Value) (h1 : GT.rep (hp w0) [v1] phis) :
    ConM Tryz.prog 67 [v1] w0 (spec_l14Apart phis) fun r v w' => v = (.bool (r)) ∧ Below w0.heap.size w0 w' := by
  unfold spec_l14Apart
  refine gcon func67 rfl fun r => ?_
  have hm := Mem.start w0
  refine gS (gR (gA rfl (gE (gS (gS (gR (gA rfl (gE (gBk (gNf hm (fun aA aD => [(0, v1), (3, (nV aA))]) (fun aA aD => []) [] rfl ?_ ?_))))))))))
  ·
   repeat clear hm
   intro aR aG aA aD w hm aS aT aV aH
   refine gS (gS (gR (gM rfl (gM rfl ?_))))
   obtain ⟨aI, aJ, rfl, aW⟩ := ro_slice h1
   refine gY (yV st_55 rfl) (gB rfl (gE (go _ 8 rfl (decide_eq_true (by omega)) (gct rfl (gSk (gS (gBk (gS (gR (gA rfl (gE (gBk (gNf hm (fun aB aE => [(0, (.slice aI phis.length aJ)), (3, (nV aA)), (4, (nV aB))]) (fun aB aE => []) [] rfl ?_ ?_)))))))))))))
   ·
    repeat clear hm
    intro aX aK aB aE w hm aY aZ aa aL
    refine gS (gS (gR (gM rfl (gM rfl (gB rfl (gE (go _ 13 rfl (decide_eq_true (by omega)) (gct rfl (gSk (gS (gBk (gS (gW (.p 0 (.p 1 (.p 2 (.p 3 (.p 5 (.p 6 (.p 7 (.p 8 (.q 4 (.e 9 (.p 10 .fin) .nil)))))))))) [9] [0, 1, 2, 3, 5, 6, 7, 8, 10] hm [] [] rfl mxo (by kernel_rfl) (fun _ _ _ h => h.2) fun w hm hS => tP rfl (fun w => yM rfl) (tP rfl (fun w => yM rfl) (gg fun ab aM aC => ?_)))))))))))))))
    obtain ⟨ac, ae, af, he⟩ := idx_form' h1 aC
    obtain ⟨rfl, _, rfl⟩ := sl3 he
    obtain ⟨ag, aN, ah⟩ := rk_Phi_ h1 aC
    refine tP rfl (fun w => yI st_55 aM (idx_lt aC) rfl) (tP rfl (fun w => yF fo_87_0 rfl) (tP rfl (fun w => yM rfl) (tP rfl (fun w => yM rfl) (gg fun ai aO aF => ?_))))
    obtain ⟨aj, aP, ak⟩ := rk_Phi_ h1 aF
    refine tP rfl (fun w => yI st_55 aO (idx_lt aF) rfl) (tP rfl (fun w => yF fo_87_0 rfl) (tQ rfl hS (fun w hm => yl isAgg3 ((aN.mono hm.lez).cell (j := 0) rfl) rfl) (tO (tY rfl (yl isAgg3 ((aP.mono hm.lez).cell (j := 0) rfl) rfl) (tAs hS (tP rfl (fun w => yB rfl) (tE (gsd 26 rfl (fun aQ => ?_) fun aQ => ?_))))))))
    ·
     exact gct rfl (gS (gR (gA rfl (gE (gRt (gLr aL aK (gLr aH aG (gr1 results67 rfl ⟨rfl, hm.below⟩))))))))
    exact gcf rfl (gSk (gR (gM rfl (gP (by omega) (by omega) rfl (gA rfl (gE (gze hm [] rfl)))))))
   repeat clear hm
   intro al am w hm an ao
   exact gS (gS (gR (gM rfl (gM rfl (gB rfl (gE (go _ 13 rfl (decide_eq_false (by omega)) (gcf rfl (gXt (gHh (gR (gM rfl (gP (by omega) (by omega) rfl (gA rfl (gE (gze hm [] rfl))))))))))))))))
  repeat clear hm
  intro ap aq w hm ar au
  refine gS (gS (gR (gM rfl (gM rfl ?_))))
  obtain ⟨av, aw, rfl, ax⟩ := ro_slice h1
  exact gY (yV st_55 rfl) (gB rfl (gE (go _ 8 rfl (decide_eq_false (by omega)) (gcf rfl (gXt (gHh (gS (gR (gA rfl (gE (gRt (gr1 results67 rfl ⟨rfl, hm.below⟩))))))))))))
theorem spec_l14Ok_ok (w0 : World) (list : List (List Int)) (v1 : Value) (h1 : GT.rep (hp w0) [v1] list) :
    ConM Tryz.prog 118 [v1] w0 (spec_l14Ok list) fun r v w' => v = (.bool (r)) ∧ Below w0.heap.size w0 w' := by
  unfold spec_l14Ok
  refine gcon func118 rfl fun r => ?_
  have hm := Mem.start w0
  refine gS (gR (gA rfl (gE (gS (gS (gR (gA rfl (gE (gBk (gNf hm (fun aB aH => [(0, v1), (3, (nV aB))]) (fun aB aH => []) [] rfl ?_ ?_))))))))))
  ·
   repeat clear hm
   intro aa aM aB aH w hm ab ac ae aN
   refine gS (gS (gR (gM rfl (gM rfl ?_))))
   obtain ⟨aO, aP, rfl, af⟩ := ro_slice h1
   refine gY (yV st_64 rfl) (gB rfl (gE (go _ 7 rfl (decide_eq_true (by omega)) (gct rfl (gSk (gS (gBk (gS (gJ hm (fun aE => [(0, (.slice aO list.length aP)), (3, (nV aB)), (35, (.bool (aE)))]) (fun aE => []) (fun aE => ?_) ?_)))))))))
   ·
    refine gR (gM rfl (gM rfl (gg fun aQ aF aC => ?_)))
    obtain ⟨aR, aS, ag, he⟩ := idx_form' h1 aC
    obtain ⟨rfl, _, rfl⟩ := sl3 he
    obtain ⟨_, _, aD, aT⟩ := ro_get' h1 aC
    have aA := aT
    obtain ⟨aI, rfl, -⟩ := id aA
    replace aA : GT.rep (hp w0) [aI] aQ := aA
    replace aD : CellsAt (hp w0) aR (aS + (aB).toNat * 1) [aI] := aD
    refine gI st_64 aF (idx_lt aC) rfl (gY (yl isAgg57 ((aD.mono hm.lez).cell (j := 0) rfl) rfl) ?_)
    obtain ⟨ah, ai, rfl, aj⟩ := ro_slice aA
    refine gY (yV st_57 rfl) (gB rfl (gM rfl (gsd 16 rfl (fun aV => ?_) fun aV => ?_)))
    ·
     exact gO rfl (gO rfl (gO rfl (gO rfl (gO rfl (gO rfl (gO rfl (gO rfl (gKt rfl (gM rfl (gO rfl (gO rfl (gO rfl (gO rfl (gO rfl (gO rfl (gO rfl (gO rfl (gKt rfl (gE (gz hm [] rfl))))))))))))))))))))
    refine gM rfl (gM rfl (gI st_64 aF (idx_lt aC) rfl (gY (yl isAgg57 ((aD.mono hm.lez).cell (j := 0) rfl) rfl) (gg fun aJ aW aG => ?_))))
    obtain ⟨ak, al, am, he⟩ := idx_form aA aG
    obtain ⟨rfl, _, rfl⟩ := sl3 he
    refine gI st_57 aW (idx_lt aG) rfl (gY (yl isAgg3 ((flat_cells (cs := [(nV aJ)]) (hm.now aA) aG rfl).cell (j := 0) rfl) rfl) (gC hm rfl call39 (spec_l1In_ok _ aJ 0 299) fun an ao w hm => gN rfl (gKf rfl (gM rfl (gsn 26 rfl (fun aX => ?_) fun aX => ?_)))))
    ·
     exact gO rfl (gO rfl (gO rfl (gO rfl (gO rfl (gO rfl (gO rfl (gO rfl (gKt rfl (gE (gz hm [] rfl))))))))))
    exact gM rfl (gM rfl (gI st_64 aF (idx_lt aC) rfl (gY (yl isAgg57 ((aD.mono hm.lez).cell (j := 0) rfl) rfl) (gg fun aK aY aL => gI st_57 aY (idx_lt aL) rfl (gY (yl isAgg3 ((flat_cells (cs := [(nV aK)]) (hm.now aA) aL rfl).cell (j := 0) rfl) rfl) (gC hm rfl call39 (spec_l1In_ok _ aK 0 299) fun ap aq w hm => gN rfl (gKf rfl (gE (gz hm [] rfl)))))))))
   repeat clear hm
   intro aE w hm
   refine gs 35 rfl (fun aZ => ?_) fun aZ => ?_
   ·
    exact gct rfl (gS (gR (gA rfl (gE (gRt (gLr aN aM (gr1 results118 rfl ⟨rfl, hm.below⟩)))))))
   exact gcf rfl (gSk (gR (gM rfl (gP (by omega) (by omega) rfl (gA rfl (gE (gze hm [] rfl)))))))
  repeat clear hm
  intro ar au w hm av aw
  refine gS (gS (gR (gM rfl (gM rfl ?_))))
  obtain ⟨ax, ay, rfl, az⟩ := ro_slice h1
  exact gY (yV st_64 rfl) (gB rfl (gE (go _ 7 rfl (decide_eq_false (by omega)) (gcf rfl (gXt (gHh (gS (gR (gM rfl (gY (yV st_64 rfl) (gB rfl (gA rfl (gE (gRt (gr1 results118 rfl ⟨rfl, hm.below⟩)))))))))))))))
theorem spec_l14Once_ok (w0 : World) (list : List (List Int)) (v1 : Value) (h1 : GT.rep (hp w0) [v1] list) :
    ConM Tryz.prog 68 [v1] w0 (spec_l14Once list) fun r v w' => v = (.bool (r)) ∧ Below w0.heap.size w0 w' := by
  unfold spec_l14Once
  refine gcon func68 rfl fun r => ?_
  have hm := Mem.start w0
  refine gS (gR (gA rfl (gE (gS (gS (gR (gA rfl (gE (gJe hm (fun aK => [(0, v1)]) (fun aK => []) (fun ao aV => ?_) ?_)))))))))
  ·
   refine gBk (gMf hm (fun aA => [(0, v1), (3, (nV aA))]) (fun aA => []) [] rfl ?_)
   repeat clear hm
   intro ap aL aA w hm aq aM
   refine gS (gS (gJ hm (fun aD => [(0, v1), (3, (nV aA)), (12, (.bool (aD)))]) (fun aD => []) (fun aD => ?_) ?_))
   ·
    refine gR (gM rfl (gM rfl ?_))
    obtain ⟨aW, aX, rfl, ar⟩ := ro_slice h1
    refine gY (yV st_64 rfl) (gB rfl (gM rfl (gsd 9 rfl (fun aY => ?_) fun aY => ?_)))
    ·
     exact gM rfl (gC hm rfl call118 (spec_l14Ok_ok _ list (.slice aW list.length aX) (hm.now h1)) fun au av w hm => gKt rfl (gE (gz hm [] rfl)))
    exact gO rfl (gO rfl (gKf rfl (gE (gz hm [] rfl))))
   repeat clear hm
   intro aD w hm
   refine gs 12 rfl (fun aZ => ?_) fun aZ => ?_
   ·
    refine gct rfl (gSk (gS (gBk (gS (gR (gA rfl (gE (gBk (gb fun _ aN => ?_)))))))))
    replace aN := fitI_some.1 aN
    refine gNf hm (fun aE aO => [(0, v1), (3, (nV aA)), (4, (nV aE))]) (fun aE aO => []) [] rfl ?_ ?_
    ·
     repeat clear hm
     intro aw aa aE aO w hm ax ay az ab
     refine gS (gS (gR (gM rfl (gM rfl (gB rfl (gE (go _ 17 rfl (decide_eq_true (by omega)) (gct rfl (gSk (gS (gBk (gS (gW (.p 0 (.p 1 (.p 2 (.p 6 (.p 7 (.p 8 (.q 3 (.p 4 (.q 5 (.e 9 (.p 10 (.e 11 (.p 12 .fin) .nil)) .nil)))))))))) [9, 11] [0, 1, 2, 4, 6, 7, 8, 10, 12] hm [] [] rfl mxo (by kernel_rfl) (fun _ _ _ h => h.2) fun w hm hS => tP rfl (fun w => yM rfl) (tP rfl (fun w => yM rfl) (gg fun ac ae aF => ?_)))))))))))))))
     obtain ⟨aP, aQ, bA, he⟩ := idx_form' h1 aF
     subst he
     obtain ⟨_, _, aG, af⟩ := ro_get' h1 aF
     have aB := af
     obtain ⟨aR, rfl, -⟩ := id aB
     replace aB : GT.rep (hp w0) [aR] ac := aB
     replace aG : CellsAt (hp w0) aP (aQ + (aA).toNat * 1) [aR] := aG
     refine tP rfl (fun w => yI st_64 ae (idx_lt aF) rfl) (tP rfl (fun w => yM rfl) (tP rfl (fun w => yM rfl) (gg fun ag ah aS => ?_)))
     obtain ⟨_, _, aH, ai⟩ := ro_get' h1 aS
     have aC := ai
     obtain ⟨aT, rfl, -⟩ := id aC
     replace aC : GT.rep (hp w0) [aT] ag := aC
     replace aH : CellsAt (hp w0) aP (aQ + (aE).toNat * 1) [aT] := aH
     refine tP rfl (fun w => yI st_64 ah (idx_lt aS) rfl) (tQ rfl hS (fun w hm => yl isAgg57 ((aG.mono hm.lez).cell (j := 0) rfl) rfl) (gg fun aj ak aI => ?_))
     obtain ⟨bB, bC, bD, he⟩ := idx_form aB aI
     subst he
     refine tP rfl (fun w => yI st_57 ak (idx_lt aI) rfl) (tQ rfl hS (fun w hm => yl isAgg3 ((flat_cells (cs := [(nV aj)]) (hm.now aB) aI rfl).cell (j := 0) rfl) rfl) (tO (tY rfl (yl isAgg57 ((aH.mono hm.lez).cell (j := 0) rfl) rfl) (tAs hS (gg fun al am aJ => ?_)))))
     obtain ⟨bE, bF, bG, he⟩ := idx_form aC aJ
     subst he
     refine tP rfl (fun w => yI st_57 am (idx_lt aJ) rfl) (tO (tY rfl (yl isAgg3 ((flat_cells (cs := [(nV al)]) (hm.now aC) aJ rfl).cell (j := 0) rfl) rfl) (tAs hS (tP rfl (fun w => yB rfl) (tE (gsd 32 rfl (fun an => ?_) fun an => ?_))))))
     ·
      exact gct rfl (gS (gR (gA rfl (gE (gRt (gLr ab aa (gLp aM aL (gl (gEr aV (gr1 results68 rfl ⟨rfl, hm.below⟩))))))))))
     exact gcf rfl (gSk (gR (gM rfl (gP (by omega) (by omega) rfl (gA rfl (gE (gze hm [] rfl)))))))
    repeat clear hm
    intro bH bJ w hm bK bL
    exact gS (gS (gR (gM rfl (gM rfl (gB rfl (gE (go _ 17 rfl (decide_eq_false (by omega)) (gcf rfl (gXt (gHh (gR (gM rfl (gB rfl (gA rfl (gE (gze hm [] rfl))))))))))))))))
   exact gcf rfl (gXt (gHh (gLp aM aL (gr (gze hm [] rfl)))))
  repeat clear hm
  intro aK w hm
  exact gS (gR (gM rfl (gC hm rfl call118 (spec_l14Ok_ok _ list v1 (hm.now h1)) fun bM bN w hm => gA rfl (gE (gRt (gr1 results68 rfl ⟨rfl, hm.below⟩))))))
theorem spec_l14From_ok (w0 : World) (list : List (List Int)) (v1 : Value) (h1 : GT.rep (hp w0) [v1] list) (r_ : Int) (but : Int) :
    ConM Tryz.prog 119 [v1, (nV r_), (nV but)] w0 (spec_l14From list r_ but) fun r v w' => v = (.bool (r)) ∧ Below w0.heap.size w0 w' := by
  unfold spec_l14From
  refine gcon func119 rfl fun r => ?_
  have hm := Mem.start w0
  refine gS (gR (gA rfl (gE (gS (gS (gR (gA rfl (gE (gBk (gNf hm (fun aA aG => [(0, v1), (1, (nV r_)), (2, (nV but)), (7, (nV aA))]) (fun aA aG => []) [] rfl ?_ ?_))))))))))
  ·
   repeat clear hm
   intro aW aI aA aG w hm aX aY aZ aJ
   refine gS (gS (gR (gM rfl (gM rfl ?_))))
   obtain ⟨aK, aL, rfl, aa⟩ := ro_slice h1
   refine gY (yV st_64 rfl) (gB rfl (gE (go _ 11 rfl (decide_eq_true (by omega)) (gct rfl (gSk (gS (gBk (gS (gJ hm (fun aC => [(0, (.slice aK list.length aL)), (1, (nV r_)), (2, (nV but)), (7, (nV aA)), (26, (.bool (aC)))]) (fun aC => []) (fun aC => ?_) ?_)))))))))
   ·
    refine gR (gM rfl (gM rfl (gB rfl (gM rfl (gsd 17 rfl (fun aM => ?_) fun aM => ?_)))))
    ·
     refine gM rfl (gM rfl (gg fun aN aO aD => ?_))
     obtain ⟨aP, aQ, ab, he⟩ := idx_form' h1 aD
     obtain ⟨rfl, _, rfl⟩ := sl3 he
     obtain ⟨_, _, aE, aR⟩ := ro_get' h1 aD
     have aB := aR
     obtain ⟨aH, rfl, -⟩ := id aB
     replace aB : GT.rep (hp w0) [aH] aN := aB
     replace aE : CellsAt (hp w0) aP (aQ + (aA).toNat * 1) [aH] := aE
     refine gI st_64 aO (idx_lt aD) rfl (gY (yl isAgg57 ((aE.mono hm.lez).cell (j := 0) rfl) rfl) (gg fun aS aT aF => ?_))
     obtain ⟨ac, ae, af, he⟩ := idx_form aB aF
     subst he
     exact gI st_57 aT (idx_lt aF) rfl (gY (yl isAgg3 ((flat_cells (cs := [(nV aS)]) (hm.now aB) aF rfl).cell (j := 0) rfl) rfl) (gM rfl (gB rfl (gKt rfl (gE (gz hm [] rfl))))))
    exact gO rfl (gO rfl (gO rfl (gO rfl (gO rfl (gO rfl (gO rfl (gO rfl (gKf rfl (gE (gz hm [] rfl))))))))))
   repeat clear hm
   intro aC w hm
   refine gs 26 rfl (fun aV => ?_) fun aV => ?_
   ·
    exact gct rfl (gS (gR (gA rfl (gE (gRt (gLr aJ aI (gr1 results119 rfl ⟨rfl, hm.below⟩)))))))
   exact gcf rfl (gSk (gR (gM rfl (gP (by omega) (by omega) rfl (gA rfl (gE (gze hm [] rfl)))))))
  repeat clear hm
  intro ag ah w hm ai aj
  refine gS (gS (gR (gM rfl (gM rfl ?_))))
  obtain ⟨ak, al, rfl, am⟩ := ro_slice h1
  exact gY (yV st_64 rfl) (gB rfl (gE (go _ 11 rfl (decide_eq_false (by omega)) (gcf rfl (gXt (gHh (gS (gR (gA rfl (gE (gRt (gr1 results119 rfl ⟨rfl, hm.below⟩))))))))))))
theorem spec_l14Order_ok (w0 : World) (list : List (List Int)) (v1 : Value) (h1 : GT.rep (hp w0) [v1] list) (spare : Int) :
    ConM Tryz.prog 69 [v1, (nV spare)] w0 (spec_l14Order list spare) fun r v w' => ∃ (x1 : Value), v = x1 ∧ Mem w0 (hp w0) w' [ow [x1] r] := by
  unfold spec_l14Order
  refine gcon func69 rfl fun r => ?_
  have hm := Mem.start w0
  refine gS (gR (gA rfl (gE (gS (gR (gf rfl (fun a hf => e_build0 (α := List Int) et_64 hm rfl) ?_))))))
  rintro d4 w hm
  refine gA rfl (gE (gS (gS (gR (gA rfl (gE ?_))))))
  obtain ⟨cO, cP, rfl, d5⟩ := ro_slice (hm.ow_rep 0 rfl)
  refine gBk (gNg (fun ai aY a w => ∃ (aW : Value), St 121 [(0, v1), (1, (nV spare)), (5, aW), (6, (nV ai))] w0 (hp w0) [ow [aW] aY] a w) (fun a hf => ⟨(.slice cO ([] : List (List Int)).length cP), hf.sb rfl, hm.pk [0] rfl rfl⟩) ?_ ?_)
  ·
   repeat clear hm
   rintro _ _ ai aY a w ⟨aW, hf, hm⟩ d6 d7 d8 _
   refine gv hf (gS (gS (gR (gM rfl (gM rfl ?_)))))
   obtain ⟨cQ, bk, rfl, d9⟩ := ro_slice h1
   refine gY (yV st_64 rfl) (gB rfl (gE (go _ 15 rfl (decide_eq_true (by omega)) (gct rfl (gSk (gS (gJg (fun bU a w => ∃ (ay : Value), St 121 [(0, (.slice cQ list.length bk)), (1, (nV spare)), (5, ay), (6, (nV ai))] w0 (hp w0) [ow [ay] bU] a w) (fun bU => ?_) ?_)))))))
   ·
    refine gBk (gS (gW (.p 0 (.p 1 (.p 2 (.p 6 (.p 7 (.p 8 (.q 3 (.p 4 (.q 5 (.e 9 (.p 10 (.e 11 (.p 12 .fin) .nil)) .nil)))))))))) [9, 11] [0, 1, 2, 4, 6, 7, 8, 10, 12] hm [0] [ow [aW] aY] rfl mxo (by kernel_rfl) (fun _ _ _ h => h.2) fun w hm hS => tP rfl (fun w => yM rfl) (tP rfl (fun w => yM rfl) (gg fun cR az ab => ?_))))
    obtain ⟨bl, bm, da, he⟩ := idx_form' h1 ab
    obtain ⟨rfl, _, rfl⟩ := sl3 he
    obtain ⟨_, _, ac, cS⟩ := ro_get' h1 ab
    have aZ := cS
    obtain ⟨bo, rfl, -⟩ := id aZ
    replace aZ : GT.rep (hp w0) [bo] cR := aZ
    replace ac : CellsAt (hp w0) bl (bm + (ai).toNat * 1) [bo] := ac
    refine tP rfl (fun w => yI st_64 az (idx_lt ab) rfl) (tP rfl (fun w => yM rfl) (tP rfl (fun w => yM rfl) (tP rfl (fun w => yI st_64 az (idx_lt ab) rfl) (tQ rfl hS (fun w hm => yl isAgg57 ((ac.mono hm.lez).cell (j := 0) rfl) rfl) (gg fun aR bp aj => ?_)))))
    obtain ⟨db, dc, dd, he⟩ := idx_form aZ aj
    subst he
    refine tP rfl (fun w => yI st_57 bp (idx_lt aj) rfl) (tQ rfl hS (fun w hm => yl isAgg3 ((flat_cells (cs := [(nV aR)]) (hm.now aZ) aj rfl).cell (j := 0) rfl) rfl) (tO (tY rfl (yl isAgg57 ((ac.mono hm.lez).cell (j := 0) rfl) rfl) (tAs hS (gg fun aS bq bA => tP rfl (fun w => yI st_57 bq (idx_lt bA) rfl) (tO (tY rfl (yl isAgg3 ((flat_cells (cs := [(nV aS)]) (hm.now aZ) bA rfl).cell (j := 0) rfl) rfl) (tAs hS (tP rfl (fun w => yB rfl) (tE (gJg (fun bV a w => ∃ (bB : Value), St 121 [(0, (sV bl bm list.length bk)), (1, (nV spare)), (5, bB), (6, (nV ai))] w0 (hp w0) [ow [bB] bV] a w) (fun bV => ?_) ?_)))))))))))
    ·
     refine gsd 30 rfl (fun cT => ?_) fun cT => ?_
     ·
      refine gct rfl (gW (.p 0 (.p 1 (.p 2 (.p 3 (.p 7 (.p 8 (.p 9 (.q 4 (.p 5 (.q 6 (.e 10 (.p 11 (.e 12 (.e 13 (.e 14 (.e 15 (.p 16 .fin) .nil) .nil) .nil) .nil)) .nil))))))))))) [10, 12] [0, 1, 2, 3, 5, 7, 8, 9, 11, 16] hm [0] [ow [aW] aY] rfl mxo (by kernel_rfl) (fun _ _ _ h => h.2) fun w hm hS => tP rfl (fun w => yM rfl) (tP rfl (fun w => yM rfl) (tP rfl (fun w => yM rfl) (tP rfl (fun w => yI st_64 az (idx_lt ab) rfl) (tP rfl (fun w => yM rfl) (tP rfl (fun w => yM rfl) (tP rfl (fun w => yI st_64 az (idx_lt ab) rfl) (tQ rfl hS (fun w hm => yl isAgg57 ((ac.mono hm.lez).cell (j := 0) rfl) rfl) (tP rfl (fun w => yI st_57 bp (idx_lt aj) rfl) (tQ rfl hS (fun w hm => yl isAgg3 ((flat_cells (cs := [(nV aR)]) (hm.now aZ) aj rfl).cell (j := 0) rfl) rfl) (tO (tY rfl (yl isAgg57 ((ac.mono hm.lez).cell (j := 0) rfl) rfl) (tAs hS (tP rfl (fun w => yI st_57 bq (idx_lt bA) rfl) (tO (tY rfl (yl isAgg3 ((flat_cells (cs := [(nV aS)]) (hm.now aZ) bA rfl).cell (j := 0) rfl) rfl) (tAs hS (tO (tf rfl rfl (fun a hf => e_build (vs := #[(0, (nV aR)), (1, (nV aS))]) (cs := [(nV aR), (nV aS)]) et_57 hf hm rfl rfl (by kernel_rfl) rfl rfl) ?_)))))))))))))))))))
      rintro _ w ⟨ak, rfl, hm⟩
      replace hm := hm.lit (xs := ([aR, aS] : List Int)) 0 rfl rfl rfl rfl
      refine tAn rfl (tO (tf rfl rfl (fun a hf => e_build (vs := #[(0, (sV ak 0 2 2))]) (cs := [(sV ak 0 2 2)]) et_64 hf hm rfl rfl (by kernel_rfl) rfl rfl) ?_))
      rintro _ w ⟨bW, rfl, hm⟩
      replace hm := hm.els_nil (α := List Int)
      replace hm := hm.imp (c' := ow [(sV ak 0 2 2)] (([aR, aS] : List Int) : List Int)) 2 rfl (fun F h0 => h0)
      replace hm := (hm.els_cons 0 2 (by decide) rfl rfl).pk (L' := [els [(sV ak 0 2 2)] ([([aR, aS] : List Int)] : List (List Int)), blk bW [(sV ak 0 2 2)] 57, ow [aW] aY]) [0, 1, 3] rfl rfl
      replace hm := (hm.lit_els 1 0 (by decide) rfl rfl rfl rfl).pk (L' := [ow [(sV bW 0 1 1)] ([([aR, aS] : List Int)] : List (List Int)), ow [aW] aY]) [1, 2] rfl rfl
      refine tAn rfl (tO (gb fun de cU => ?_))
      obtain ⟨cV, cW⟩ := appM_some.1 cU
      replace hm := (hm.both 1 0 (by decide) rfl rfl).pk (L' := [both (ow [aW] aY) (ow [(sV bW 0 1 1)] ([([aR, aS] : List Int)] : List (List Int)))]) [1] rfl rfl
      refine tf rfl rfl (fun a hf => e_appendD (xs := aY) (ys := ([([aR, aS] : List Int)] : List (List Int))) 0 et_64 hf hm rfl rfl rfl rfl cV) ?_
      rintro cX w hm
      rw [cW] at hm
      exact tAn rfl (tP rfl (fun w => yA rfl) (tE (gZ fun a hf => ⟨cX, hf.sb rfl, hm.pk [0] rfl rfl⟩)))
     exact gcf rfl (gSk (gZ fun a hf => ⟨aW, hf.sb rfl, hm.pk [0] rfl rfl⟩))
    repeat clear hm
    rintro bV a w ⟨bB, hf, hm⟩
    exact gv hf (gZ fun a hf => ⟨bB, hf.sb rfl, hm.pk [0] rfl rfl⟩)
   repeat clear hm
   rintro bU a w ⟨ay, hf, hm⟩
   exact gv hf (gR (gM rfl (gP (by omega) (by omega) rfl (gA rfl (gE (gZe fun a hf => ⟨ay, hf.sb rfl, hm.pk [0] rfl rfl⟩))))))
  repeat clear hm
  rintro df cY a w ⟨dg, hf, hm⟩ dh di
  refine gv hf (gS (gS (gR (gM rfl (gM rfl ?_)))))
  obtain ⟨dk, dl, rfl, dm⟩ := ro_slice h1
  refine gY (yV st_64 rfl) (gB rfl (gE (go _ 15 rfl (decide_eq_false (by omega)) (gcf rfl (gXt (gHh (gS (gR (gf rfl (fun a hf => e_build0 (α := List Int) et_64 hm rfl) ?_)))))))))
  rintro dp w hm
  refine gA rfl (gE (gS ?_))
  obtain ⟨cZ, c4, rfl, dq⟩ := ro_slice (hm.ow_rep 1 rfl)
  obtain ⟨c5, c6, rfl, dr⟩ := ro_slice (hm.ow_rep 0 rfl)
  refine gJg (fun bX a w => ∃ (bC : Value), St 121 [(7, bC)] w0 (hp w0) [ow [bC] bX] a w) (fun bX => ?_) ?_
  ·
   refine gBk (gMg (fun aA a w => ∃ (bY bD : Value), St 121 [(1, (nV spare)), (5, bY), (7, bD)] w0 (hp w0) [ow [bY] aA.1, ow [bD] aA.2] a w) (fun a hf => ⟨(.slice cZ cY.length c4), (.slice c5 ([] : List (List Int)).length c6), hf.sb rfl, hm.pk [1, 0] rfl rfl⟩) ?_)
   repeat clear hm
   rintro dt c7 aA a w ⟨bY, bD, hf, hm⟩ du c8
   refine gv hf (gS (gS (gR (gM rfl ?_))))
   obtain ⟨ae, aB, rfl, dv⟩ := ro_slice (hm.ow_rep 0 rfl)
   refine gY (yV st_64 rfl) (gB rfl (gE (gsd 50 rfl (fun c9 => ?_) fun c9 => ?_)))
   ·
    refine gct rfl (gSk (gJg (fun bE a w => ∃ (bF bG : Value), St 121 [(1, (nV spare)), (5, bF), (7, bG)] w0 (hp w0) [ow [bF] bE.1, ow [bG] bE.2] a w) (fun bE => ?_) ?_))
    ·
     refine gBk (gS (gR (gA rfl (gE (gS ?_)))))
     obtain ⟨aG, aH, rfl, dw⟩ := ro_slice (hm.ow_rep 1 rfl)
     refine gJ hm (fun aI => [(1, (nV spare)), (5, (.slice ae aA.1.length aB)), (7, (.slice aG aA.2.length aH)), (8, (nV aI))]) (fun aI => [ow [(.slice ae aA.1.length aB)] aA.1, ow [(.slice aG aA.2.length aH)] aA.2]) (fun aI => ?_) ?_
     ·
      refine gBk (gMf hm (fun aT => [(1, (nV spare)), (5, (.slice ae aA.1.length aB)), (7, (.slice aG aA.2.length aH)), (8, (nV aT))]) (fun aT => [ow [(.slice ae aA.1.length aB)] aA.1, ow [(.slice aG aA.2.length aH)] aA.2]) [0, 1] rfl ?_)
      repeat clear hm
      intro dx ca aT w hm dy cb
      refine gS (gS (gJ hm (fun bH => [(1, (nV spare)), (5, (.slice ae aA.1.length aB)), (7, (.slice aG aA.2.length aH)), (8, (nV aT)), (65, (.bool (bH)))]) (fun bH => [ow [(.slice ae aA.1.length aB)] aA.1, ow [(.slice aG aA.2.length aH)] aA.2]) (fun bH => ?_) ?_))
      ·
       refine gR (gM rfl (gM rfl (gY (yV st_64 rfl) (gB rfl (gM rfl (gsd 55 rfl (fun cc => ?_) fun cc => ?_))))))
       ·
        refine gM rfl (gM rfl (gM rfl (gg fun aM cd af => ?_)))
        obtain ⟨ag, ah, dz, he⟩ := idx_form' (hm.ow_rep 0 rfl) af
        obtain ⟨rfl, _, rfl⟩ := sl3 he
        obtain ⟨_, _, br, ce⟩ := ro_get' (hm.ow_rep 0 rfl) af
        have bZ := ce
        obtain ⟨bt, rfl, -⟩ := id bZ
        replace bZ : GT.rep (hp _) [bt] aM := bZ
        replace br : CellsAt (hp _) ag (ah + (aT).toNat * 1) [bt] := br
        refine gI st_64 cd (idx_lt af) rfl ?_
        obtain ⟨_, cf, hm⟩ := hm.openE 0 rfl af
        have cg := hm.ow_rep 0 rfl
        have bJ := cg
        obtain ⟨al, rfl, -⟩ := id bJ
        replace bJ : GT.rep (hp _) [al] aM := bJ
        clear cf bJ
        replace hm : Mem w0 (hp w0) _ [ow [al] (aM : List Int), holeE ag ah aA.1.length aB (aA.1 : List (List Int)) (aT).toNat [al], ow [(.slice aG aA.2.length aH)] aA.2] := hm
        replace hm := hm.pk (L' := [ow [al] aM, holeE ag ah aA.1.length aB (aA.1 : List (List Int)) (aT).toNat [al], ow [(.slice aG aA.2.length aH)] aA.2]) [0, 1, 2] rfl rfl
        refine gY (yl isAgg57 ((hm.holeE_at 1 rfl).cell (j := 0) rfl) rfl) (gg fun bu cj b6 => ?_)
        obtain ⟨bv, bw, bx, he⟩ := idx_form (hm.ow_rep 0 rfl) b6
        subst he
        refine gI st_57 cj (idx_lt b6) rfl (gY (yl isAgg3 ((flat_cells (cs := [(nV bu)]) (hm.ow_rep 0 rfl) b6 rfl).cell (j := 0) rfl) rfl) (gM rfl ?_))
        have hmS := hm
        replace hm := hm.imp (c' := ow [(sV bv bw aM.length bx)] (aM : List Int)) 0 rfl (fun F h0 => h0)
        replace hm := (hm.shutE (y := (aM : List Int)) 1 0 (by decide) rfl rfl).pk (L' := [ow [(sV ag ah aA.1.length aB)] (aA.1.set (aT).toNat aM), ow [(.slice aG aA.2.length aH)] aA.2]) [1, 2] rfl rfl
        rw [set_same af] at hm
        have ck := hm.ow_rep 0 rfl
        replace hm := hmS
        refine gC hm rfl call119 (spec_l14From_ok _ aA.1 (sV ag ah aA.1.length aB) ck bu aT) fun eA eB w hm => gKt rfl (gE ?_)
        replace hm := hm.imp (c' := ow [(sV bv bw aM.length bx)] (aM : List Int)) 0 rfl (fun F h0 => h0)
        replace hm := (hm.shutE (y := (aM : List Int)) 1 0 (by decide) rfl rfl).pk (L' := [ow [(sV ag ah aA.1.length aB)] (aA.1.set (aT).toNat aM), ow [(.slice aG aA.2.length aH)] aA.2]) [1, 2] rfl rfl
        rw [set_same af] at hm
        exact gz hm [0, 1] rfl
       exact gO rfl (gO rfl (gO rfl (gO rfl (gO rfl (gO rfl (gO rfl (gO rfl (gO rfl (gKf rfl (gE (gz hm [0, 1] rfl)))))))))))
      repeat clear hm
      intro bH w hm
      refine gs 65 rfl (fun cl => ?_) fun cl => ?_
      ·
       exact gct rfl (gSk (gBk (gR (gM rfl (gB rfl (gA rfl (gE (gze hm [0, 1] rfl))))))))
      exact gcf rfl (gXt (gHh (gLp cb ca (gz hm [0, 1] rfl))))
     repeat clear hm
     intro aI w hm
     refine gS (gS (gR (gM rfl (gM rfl (gY (yV st_64 rfl) (gB rfl (gE (gsd 71 rfl (fun cm => ?_) fun cm => ?_))))))))
     ·
      refine gct rfl (gS (gR (gM rfl (gM rfl (gM rfl (gg fun aN bz am => ?_))))))
      obtain ⟨aP, aQ, eC, he⟩ := idx_form' (hm.ow_rep 0 rfl) am
      obtain ⟨rfl, _, rfl⟩ := sl3 he
      obtain ⟨_, _, bK, cn⟩ := ro_get' (hm.ow_rep 0 rfl) am
      have b7 := cn
      obtain ⟨b8, rfl, -⟩ := id b7
      replace b7 : GT.rep (hp _) [b8] aN := b7
      replace bK : CellsAt (hp _) aP (aQ + (aI).toNat * 1) [b8] := bK
      refine gI st_64 bz (idx_lt am) rfl (gY (yl isAgg57 (bK.cell (j := 0) rfl) rfl) ?_)
      have co := (List.getElem?_eq_some_iff.1 am).1
      replace hm : Mem w0 (hp w0) _ [ow [b8] aN, gap aP aQ aA.1.length aB (List.take (aI).toNat aA.1 : List (List Int)) (List.drop (aI + 1).toNat aA.1 : List (List Int)), ow [(.slice aG aA.2.length aH)] aA.2] := hm.gap_at (j := (aI + 1).toNat) 0 rfl am (by omega) bK rfl
      obtain ⟨b9, hgl3_1m⟩ := hm.gap_max 1 rfl
      obtain ⟨an, ao, rfl, eD⟩ := ro_slice (hm.ow_rep 0 rfl)
      refine gf rfl (fun a hf => e_build (vs := #[(0, (.slice an aN.length ao))]) (cs := [(.slice an aN.length ao)]) et_64 hf hm rfl rfl (by kernel_rfl) rfl rfl) ?_
      rintro _ w ⟨ba, rfl, hm⟩
      replace hm := hm.els_nil (α := List Int)
      replace hm := hm.imp (c' := ow [(.slice an aN.length ao)] (aN : List Int)) 2 rfl (fun F h0 => h0)
      replace hm := (hm.els_cons 0 2 (by decide) rfl rfl).pk (L' := [els [(.slice an aN.length ao)] ([aN] : List (List Int)), blk ba [(.slice an aN.length ao)] 57, gap aP aQ aA.1.length aB (List.take (aI).toNat aA.1 : List (List Int)) (List.drop (aI + 1).toNat aA.1 : List (List Int)), ow [(.slice aG aA.2.length aH)] aA.2]) [0, 1, 3, 4] rfl rfl
      replace hm := (hm.lit_els 1 0 (by decide) rfl rfl rfl rfl).pk (L' := [ow [(sV ba 0 1 1)] ([aN] : List (List Int)), gap aP aQ aA.1.length aB (List.take (aI).toNat aA.1 : List (List Int)) (List.drop (aI + 1).toNat aA.1 : List (List Int)), ow [(.slice aG aA.2.length aH)] aA.2]) [1, 2, 3] rfl rfl
      refine gb fun bL cq => ?_
      obtain ⟨cr, ct⟩ := appM_some.1 cq
      replace hm := (hm.both 2 0 (by decide) rfl rfl).pk (L' := [gap aP aQ aA.1.length aB (List.take (aI).toNat aA.1 : List (List Int)) (List.drop (aI + 1).toNat aA.1 : List (List Int)), both (ow [(.slice aG aA.2.length aH)] aA.2) (ow [(sV ba 0 1 1)] ([aN] : List (List Int)))]) [1, 2] rfl rfl
      refine gf rfl (fun a hf => e_appendD (xs := aA.2) (ys := ([aN] : List (List Int))) 1 et_64 hf hm rfl rfl rfl rfl cr) ?_
      rintro ap w hm
      rw [ct] at hm
      refine gA rfl (gE (gS (gW (.p 1 (.p 2 (.p 3 (.p 5 (.p 6 (.p 7 (.p 8 (.e 0 (.e 4 (.e 9 (.p 10 .fin) .nil) .nil) .nil)))))))) [] [1, 2, 3, 5, 6, 7, 8, 10] hm [0, 1] [gap aP aQ aA.1.length aB (List.take (aI).toNat aA.1 : List (List Int)) (List.drop (aI + 1).toNat aA.1 : List (List Int)), ow [ap] bL] rfl mxo (by kernel_rfl) (fun _ _ _ h => h.2) fun w hm hS => tP rfl (fun w => yM rfl) (tP rfl (fun w => yM rfl) (gb fun bM cu => ?_)))))
      obtain ⟨eE, cA⟩ := subM_some.1 cu
      refine tP rfl (fun w => yG rfl (y_subHI (α := List Int) (n := bM.length) st_64 rfl rfl rfl bz co b9.2 (by rw [← cA]; simp only [List.length_drop, List.length_take]; omega))) (tP rfl (fun w => yM rfl) (tP rfl (fun w => yM rfl) (tP rfl (fun w => yB rfl) (gb fun aq cv => ?_))))
      obtain ⟨eF, bb⟩ := subM_some.1 cv
      have bN : w64 (aI + 1) = aI + 1 := w64_id (by omega) (by omega)
      obtain ⟨eG, cB⟩ : ∃ nv, nv = subV (GT.sz (List Int)) (sV aP aQ aA.1.length aB) (aA.1.length - aq.length) aA.1.length := ⟨_, rfl⟩
      refine tP rfl (fun w => yG rfl (yl_eq cB (y_subLI (α := List Int) st_64 rfl rfl rfl (by rw [bN]; omega) (by rw [bN]; omega) b9.2 (by rw [← bb, bN]; simp only [List.length_drop, List.length_take]; omega)))) (tO (tf rfl rfl (fun a hf => e_build0 (α := List Int) et_64 hm rfl) ?_))
      rintro cw w hm
      refine tAn rfl (tO (gb fun bc cx => ?_))
      obtain ⟨cy, cz⟩ := appM_some.1 cx
      replace hm := hm.imp (c' := gap aP aQ aA.1.length aB (bM : List (List Int)) (List.drop (aI + 1).toNat aA.1 : List (List Int))) 1 rfl (fun F h0 => by rw [← cA]; exact h0)
      obtain ⟨dA, hS3_1, hm⟩ := hm.gap_ys 1 rfl
      replace hm := (hm.both 1 0 (by decide) rfl rfl).pk (L' := [both (ow [cw] ([] : List (List Int))) (els dA (bM : List (List Int))), gap aP aQ aA.1.length aB ([] : List (List Int)) (List.drop (aI + 1).toNat aA.1 : List (List Int)), ow [ap] bL]) [1, 2, 3] rfl rfl
      refine tf rfl rfl (fun a hf => e_appendE (xs := ([] : List (List Int))) (ys := bM) 0 et_64 hf hm rfl (hS3_1 _) rfl rfl rfl cy) ?_
      rintro cC w hm
      rw [cz] at hm
      refine tAn rfl (tO (gb fun eH dB => ?_))
      obtain ⟨dC, dD⟩ := appM_some.1 dB
      replace hm := hm.imp (c' := gap aP aQ aA.1.length aB ([] : List (List Int)) (aq : List (List Int))) 1 rfl (fun F h0 => by rw [← bb, bN, show (List.take (aA.1.length : Int).toNat aA.1) = aA.1 from List.take_length]; exact h0)
      obtain ⟨cD, hS3_2, hm⟩ := hm.gap_zsG 1 rfl
      replace hS3_2 := src_sub hS3_2 rfl (by rw [← bb]; simp only [List.length_drop, List.length_take]; omega) b9.2
      rw [← cB] at hS3_2
      replace hm := (hm.both 1 0 (by decide) rfl rfl).pk (L' := [both (ow [cC] bc) (els cD (aq : List (List Int))), gap aP aQ aA.1.length aB ([] : List (List Int)) ([] : List (List Int)), ow [ap] bL]) [1, 2, 3] rfl rfl
      replace hm := hm.pk (L' := [both (ow [cC] bc) (els cD (aq : List (List Int))), ow [ap] bL]) [0, 2] rfl rfl
      refine tf rfl rfl (fun a hf => e_appendE (xs := bc) (ys := aq) 0 et_64 hf hm rfl hS3_2 rfl rfl rfl dC) ?_
      rintro dE w hm
      rw [dD] at hm
      exact tAn rfl (tP rfl (fun w => yA rfl) (tE (gXt (gHh (gZ fun a hf => ⟨dE, ap, hf.sb rfl, hm.pk [0, 1] rfl rfl⟩)))))
     refine gcf rfl (gSk (gS (gR (gM rfl (gg fun aa dF ar => ?_)))))
     obtain ⟨aD, aE, eI, he⟩ := idx_form' (hm.ow_rep 0 rfl) ar
     obtain ⟨rfl, _, rfl⟩ := sl3 he
     obtain ⟨_, _, cE, dG⟩ := ro_get' (hm.ow_rep 0 rfl) ar
     have bd := dG
     obtain ⟨cF, rfl, -⟩ := id bd
     replace bd : GT.rep (hp _) [cF] aa := bd
     replace cE : CellsAt (hp _) aD (aE + (0 : Int).toNat * 1) [cF] := cE
     refine gI st_64 dF (idx_lt ar) rfl ?_
     obtain ⟨_, dH, hm⟩ := hm.openE 0 rfl ar
     have dI := hm.ow_rep 0 rfl
     have bO := dI
     obtain ⟨au, rfl, -⟩ := id bO
     replace bO : GT.rep (hp _) [au] aa := bO
     clear dH bO
     replace hm : Mem w0 (hp w0) _ [ow [au] (aa : List Int), holeE aD aE aA.1.length aB (aA.1 : List (List Int)) (0 : Int).toNat [au], ow [(.slice aG aA.2.length aH)] aA.2] := hm
     replace hm := hm.pk (L' := [ow [au] aa, holeE aD aE aA.1.length aB (aA.1 : List (List Int)) (0 : Int).toNat [au], ow [(.slice aG aA.2.length aH)] aA.2]) [0, 1, 2] rfl rfl
     refine gY (yl isAgg57 ((hm.holeE_at 1 rfl).cell (j := 0) rfl) rfl) (gg fun aO dJ be => ?_)
     obtain ⟨dK, dL, dM, he⟩ := idx_form (hm.ow_rep 0 rfl) be
     subst he
     refine gI st_57 dJ (idx_lt be) rfl (gY (yl isAgg3 ((flat_cells (cs := [(nV aO)]) (hm.ow_rep 0 rfl) be rfl).cell (j := 0) rfl) rfl) (gA rfl (gE (gS ?_))))
     replace hm := hm.imp (c' := ow [(sV dK dL aa.length dM)] (aa : List Int)) 0 rfl (fun F h0 => h0)
     replace hm := (hm.shutE (y := (aa : List Int)) 1 0 (by decide) rfl rfl).pk (L' := [ow [(sV aD aE aA.1.length aB)] (aA.1.set (0 : Int).toNat aa), ow [(.slice aG aA.2.length aH)] aA.2]) [1, 2] rfl rfl
     rw [set_same ar] at hm
     refine gR (gM rfl (gM rfl (gM rfl (gf rfl (fun a hf => e_build (vs := #[(0, (nV spare)), (1, (nV aO))]) (cs := [(nV spare), (nV aO)]) et_57 hf hm rfl rfl (by kernel_rfl) rfl rfl) ?_))))
     rintro _ w ⟨av, rfl, hm⟩
     replace hm := hm.lit (xs := ([spare, aO] : List Int)) 0 rfl rfl rfl rfl
     refine gf rfl (fun a hf => e_build (vs := #[(0, (sV av 0 2 2))]) (cs := [(sV av 0 2 2)]) et_64 hf hm rfl rfl (by kernel_rfl) rfl rfl) ?_
     rintro _ w ⟨bf, rfl, hm⟩
     replace hm := hm.els_nil (α := List Int)
     replace hm := hm.imp (c' := ow [(sV av 0 2 2)] (([spare, aO] : List Int) : List Int)) 2 rfl (fun F h0 => h0)
     replace hm := (hm.els_cons 0 2 (by decide) rfl rfl).pk (L' := [els [(sV av 0 2 2)] ([([spare, aO] : List Int)] : List (List Int)), blk bf [(sV av 0 2 2)] 57, ow [(sV aD aE aA.1.length aB)] aA.1, ow [(.slice aG aA.2.length aH)] aA.2]) [0, 1, 3, 4] rfl rfl
     replace hm := (hm.lit_els 1 0 (by decide) rfl rfl rfl rfl).pk (L' := [ow [(sV bf 0 1 1)] ([([spare, aO] : List Int)] : List (List Int)), ow [(sV aD aE aA.1.length aB)] aA.1, ow [(.slice aG aA.2.length aH)] aA.2]) [1, 2, 3] rfl rfl
     refine gb fun aC dN => ?_
     obtain ⟨dO, dP⟩ := appM_some.1 dN
     replace hm := (hm.both 2 0 (by decide) rfl rfl).pk (L' := [ow [(sV aD aE aA.1.length aB)] aA.1, both (ow [(.slice aG aA.2.length aH)] aA.2) (ow [(sV bf 0 1 1)] ([([spare, aO] : List Int)] : List (List Int)))]) [1, 2] rfl rfl
     refine gf rfl (fun a hf => e_appendD (xs := aA.2) (ys := ([([spare, aO] : List Int)] : List (List Int))) 1 et_64 hf hm rfl rfl rfl rfl dO) ?_
     rintro eJ w hm
     rw [dP] at hm
     refine gA rfl (gE (gS (gR (gA rfl (gE ?_)))))
     obtain ⟨aJ, aK, rfl, eK⟩ := ro_slice (hm.ow_rep 1 rfl)
     refine gBk (gNf hm (fun aL aV => [(1, (nV spare)), (5, (sV aD aE aA.1.length aB)), (7, (.slice aJ aC.length aK)), (9, (nV aO)), (10, (nV aL))]) (fun aL aV => [ow [(sV aD aE aA.1.length aB)] aV, ow [(.slice aJ aC.length aK)] aC]) [0, 1] rfl ?_ ?_)
     ·
      repeat clear hm
      intro _ _ aL aV w hm eL eM eN _
      refine gS (gS (gR (gM rfl (gM rfl ?_))))
      have eO := rep_len (hm.ow_rep 0 rfl)
      refine gY (yV st_64 rfl) (gB rfl (gE (go _ 103 rfl (decide_eq_true (by omega)) (gct rfl (gSk (gS (gJ hm (fun bP => [(1, (nV spare)), (5, (sV aD aE aA.1.length aB)), (7, (.slice aJ aC.length aK)), (9, (nV aO)), (10, (nV aL))]) (fun bP => [ow [(sV aD aE aA.1.length aB)] bP, ow [(.slice aJ aC.length aK)] aC]) (fun bP => ?_) ?_)))))))
      ·
       refine gBk (gS (gR (gM rfl (gM rfl (gg fun aF cG aX => ?_)))))
       obtain ⟨_, _, cH, dQ⟩ := ro_get' (hm.ow_rep 0 rfl) aX
       have bg := dQ
       obtain ⟨cI, rfl, -⟩ := id bg
       replace bg : GT.rep (hp _) [cI] aF := bg
       replace cH : CellsAt (hp _) aD (aE + (aL).toNat * 1) [cI] := cH
       have hL5_1 := rep_slice_len (hm.ow_rep 0 rfl)
       refine gI st_64 cG (idx_lt2 aX hL5_1) rfl ?_
       obtain ⟨_, dR, hm⟩ := hm.openE 0 rfl aX
       have dS := hm.ow_rep 0 rfl
       have bQ := dS
       obtain ⟨aw, rfl, -⟩ := id bQ
       replace bQ : GT.rep (hp _) [aw] aF := bQ
       clear dR bQ
       replace hm : Mem w0 (hp w0) _ [ow [aw] (aF : List Int), holeE aD aE aA.1.length aB (aV : List (List Int)) (aL).toNat [aw], ow [(.slice aJ aC.length aK)] aC] := hm
       replace hm := hm.pk (L' := [ow [aw] aF, holeE aD aE aA.1.length aB (aV : List (List Int)) (aL).toNat [aw], ow [(.slice aJ aC.length aK)] aC]) [0, 1, 2] rfl rfl
       refine gY (yl isAgg57 ((hm.holeE_at 1 rfl).cell (j := 0) rfl) rfl) (gg fun dT dU bh => ?_)
       obtain ⟨cJ, cK, cL, he⟩ := idx_form (hm.ow_rep 0 rfl) bh
       subst he
       refine gI st_57 dU (idx_lt bh) rfl (gY (yl isAgg3 ((flat_cells (cs := [(nV dT)]) (hm.ow_rep 0 rfl) bh rfl).cell (j := 0) rfl) rfl) (gM rfl (gB rfl (gE (gJ hm (fun bR => [(1, (nV spare)), (5, (sV aD aE aA.1.length aB)), (7, (.slice aJ aC.length aK)), (9, (nV aO)), (10, (nV aL))]) (fun bR => [ow [(sV aD aE aA.1.length aB)] bR, ow [(.slice aJ aC.length aK)] aC]) (fun bR => ?_) ?_)))))
       ·
        refine gsd 113 rfl (fun dV => ?_) fun dV => ?_
        ·
         refine gct rfl ?_
         replace hm := hm.imp (c' := ow [(sV cJ cK aF.length cL)] (aF : List Int)) 0 rfl (fun F h0 => h0)
         replace hm := (hm.shutE (y := (aF : List Int)) 1 0 (by decide) rfl rfl).pk (L' := [ow [(sV aD aE aA.1.length aB)] (aV.set (aL).toNat aF), ow [(.slice aJ aC.length aK)] aC]) [1, 2] rfl rfl
         rw [set_same aX] at hm
         refine gR (gM rfl (gM rfl ?_))
         obtain ⟨_, _, cM, dW⟩ := ro_get' (hm.ow_rep 0 rfl) aX
         have bj := dW
         obtain ⟨cN, rfl, -⟩ := id bj
         replace bj : GT.rep (hp _) [cN] aF := bj
         replace cM : CellsAt (hp _) aD (aE + (aL).toNat * 1) [cN] := cM
         have hL6_1 := rep_slice_len (hm.ow_rep 0 rfl)
         refine gI st_64 cG (idx_lt2 aX hL6_1) rfl ?_
         obtain ⟨_, dX, hm⟩ := hm.openE 0 rfl aX
         have dY := hm.ow_rep 0 rfl
         have bS := dY
         obtain ⟨ax, rfl, -⟩ := id bS
         replace bS : GT.rep (hp _) [ax] aF := bS
         clear dX bS
         replace hm : Mem w0 (hp w0) _ [ow [ax] (aF : List Int), holeE aD aE aA.1.length aB (aV : List (List Int)) (aL).toNat [ax], ow [(.slice aJ aC.length aK)] aC] := hm
         replace hm := hm.pk (L' := [ow [ax] aF, holeE aD aE aA.1.length aB (aV : List (List Int)) (aL).toNat [ax], ow [(.slice aJ aC.length aK)] aC]) [0, 1, 2] rfl rfl
         refine gY (yl isAgg57 ((hm.holeE_at 1 rfl).cell (j := 0) rfl) rfl) (gM rfl (gg fun eP dZ bT => ?_))
         obtain ⟨d1, d2, d3, he⟩ := idx_form (hm.ow_rep 0 rfl) bT
         subst he
         refine gI st_57 dZ (idx_lt bT) rfl (gf0 rfl (fun a hf => e_setElem (x1 := spare) (j := 0) (vs := [(nV spare)]) 0 hf hm rfl bT rfl sizeOf3 rfl rfl rfl (one_cons rfl one_nil) rfl rfl) ?_)
         rintro _ w hm
         have eQ := List.getElem?_set_self (a := spare) (idx_lt bT)
         refine gE ?_
         replace hm := hm.imp (c' := ow [(sV d1 d2 aF.length d3)] ((aF.set (1 : Int).toNat spare) : List Int)) 0 rfl (fun F h0 => h0)
         replace hm := (hm.shutE (y := ((aF.set (1 : Int).toNat spare) : List Int)) 1 0 (by decide) rfl rfl).pk (L' := [ow [(sV aD aE aA.1.length aB)] (aV.set (aL).toNat (aF.set (1 : Int).toNat spare)), ow [(.slice aJ aC.length aK)] aC]) [1, 2] rfl rfl
         have eR := List.getElem?_set_self (a := ((aF.set (1 : Int).toNat spare) : List Int)) (idx_lt aX)
         exact gz hm [0, 1] rfl
        refine gcf rfl (gSk ?_)
        replace hm := hm.imp (c' := ow [(sV cJ cK aF.length cL)] (aF : List Int)) 0 rfl (fun F h0 => h0)
        replace hm := (hm.shutE (y := (aF : List Int)) 1 0 (by decide) rfl rfl).pk (L' := [ow [(sV aD aE aA.1.length aB)] (aV.set (aL).toNat aF), ow [(.slice aJ aC.length aK)] aC]) [1, 2] rfl rfl
        rw [set_same aX] at hm
        exact gz hm [0, 1] rfl
       repeat clear hm
       intro bR w hm
       exact gz hm [0, 1] rfl
      repeat clear hm
      intro bP w hm
      exact gR (gM rfl (gP (by omega) (by omega) rfl (gA rfl (gE (gze hm [0, 1] rfl)))))
     repeat clear hm
     intro eS eT w hm eU eV
     refine gS (gS (gR (gM rfl (gM rfl ?_))))
     have eW := rep_len (hm.ow_rep 0 rfl)
     exact gY (yV st_64 rfl) (gB rfl (gE (go _ 103 rfl (decide_eq_false (by omega)) (gcf rfl (gXt (gHh (gZ fun a hf => ⟨(sV aD aE aA.1.length aB), (.slice aJ aC.length aK), hf.sb rfl, hm.pk [0, 1] rfl rfl⟩)))))))
    repeat clear hm
    rintro bE a w ⟨bF, bG, hf, hm⟩
    exact gv hf (gZe fun a hf => ⟨bF, bG, hf.sb rfl, hm.pk [0, 1] rfl rfl⟩)
   exact gcf rfl (gXt (gHh (gLp c8 c7 (gZ fun a hf => ⟨bD, hf.sb rfl, hm.pk [1] rfl rfl⟩))))
  repeat clear hm
  rintro bX a w ⟨bC, hf, hm⟩
  exact gv hf (gS (gR (gM rfl (gA rfl (gE (gRt (gr1 results69 rfl ⟨bC, rfl, hm.pk [0] rfl rfl⟩)))))))
end Go.Proofs.YtcfdnpmajkhokaaGreat
