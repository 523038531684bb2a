/- A part of the proof of FnExactHoistCountSaid. -/
import Derived.Test.YtcfdnpmajkhokaaGreatHcModels
import Derived.Test.YtcfdnpmajkhokaaGreatChecked
import Derived.Test.YtcfdnpmajkhokaaGreatHcLays
import Derived.Test.YtcfdnpmajkhokaaGreatWkAd
namespace Go.Proofs.YtcfdnpmajkhokaaGreat
open Go Go.Wk Go.RowKit
set_option maxRecDepth 4000
set_option maxHeartbeats 4000000
open Tryz
theorem mxo : Tryz.prog.follows .mixedOrders = true := by kernel_rfl
theorem fo_24_0 : FieldOff Tryz.prog 24 0 0 := by have h := FieldOff.mk (k := 0) underlying24 rfl sizeOf22; exact h
theorem fo_28_0 : FieldOff Tryz.prog 28 0 0 := by have h := FieldOff.mk (k := 0) underlying28 rfl sizeOf26; exact h
theorem fo_44_0 : FieldOff Tryz.prog 44 0 0 := by have h := FieldOff.mk (k := 0) underlying44 rfl sizeOf3; exact h
theorem fo_44_1 : FieldOff Tryz.prog 44 1 1 := by have h := FieldOff.mk (k := 1) underlying44 rfl sizeOf3; exact h
theorem fo_44_2 : FieldOff Tryz.prog 44 2 2 := by have h := FieldOff.mk (k := 2) underlying44 rfl sizeOf42; exact h
theorem fo_59_0 : FieldOff Tryz.prog 59 0 0 := by have h := FieldOff.mk (k := 0) underlying59 rfl sizeOf55; exact h
theorem fo_59_1 : FieldOff Tryz.prog 59 1 1 := by have h := FieldOff.mk (k := 1) underlying59 rfl sizeOf56; exact h
theorem fo_59_2 : FieldOff Tryz.prog 59 2 2 := by have h := FieldOff.mk (k := 2) underlying59 rfl sizeOf3; exact h
theorem fo_59_3 : FieldOff Tryz.prog 59 3 3 := by have h := FieldOff.mk (k := 3) underlying59 rfl sizeOf3; exact h
theorem fo_59_4 : FieldOff Tryz.prog 59 4 4 := by have h := FieldOff.mk (k := 4) underlying59 rfl sizeOf57; exact h
theorem fo_61_0 : FieldOff Tryz.prog 61 0 0 := by have h := FieldOff.mk (k := 0) underlying61 rfl sizeOf3; exact h
theorem fo_61_1 : FieldOff Tryz.prog 61 1 1 := by have h := FieldOff.mk (k := 1) underlying61 rfl sizeOf3; exact h
theorem fo_61_2 : FieldOff Tryz.prog 61 2 2 := by have h := FieldOff.mk (k := 2) underlying61 rfl sizeOf57; exact h
theorem fo_61_3 : FieldOff Tryz.prog 61 3 3 := by have h := FieldOff.mk (k := 3) underlying61 rfl sizeOf3; exact h
theorem fo_77_0 : FieldOff Tryz.prog 77 0 0 := by have h := FieldOff.mk (k := 0) underlying77 rfl sizeOf3; exact h
theorem fo_77_1 : FieldOff Tryz.prog 77 1 1 := by have h := FieldOff.mk (k := 1) underlying77 rfl sizeOf3; exact h
theorem fo_82_0 : FieldOff Tryz.prog 82 0 0 := by have h := FieldOff.mk (k := 0) underlying82 rfl sizeOf3; exact h
theorem fo_82_1 : FieldOff Tryz.prog 82 1 1 := by have h := FieldOff.mk (k := 1) underlying82 rfl sizeOf3; exact h
theorem fo_82_2 : FieldOff Tryz.prog 82 2 2 := by have h := FieldOff.mk (k := 2) underlying82 rfl sizeOf80; exact h
theorem fo_87_0 : FieldOff Tryz.prog 87 0 0 := by have h := FieldOff.mk (k := 0) underlying87 rfl sizeOf3; exact h
theorem fo_87_1 : FieldOff Tryz.prog 87 1 1 := by have h := FieldOff.mk (k := 1) underlying87 rfl sizeOf57; exact h
theorem fo_166_0 : FieldOff Tryz.prog 166 0 0 := by have h := FieldOff.mk (k := 0) underlying166 rfl sizeOf44; exact h
theorem fo_166_1 : FieldOff Tryz.prog 166 1 3 := by have h := FieldOff.mk (k := 1) underlying166 rfl sizeOf99; exact h
theorem fo_166_2 : FieldOff Tryz.prog 166 2 4 := by have h := FieldOff.mk (k := 2) underlying166 rfl sizeOf98; exact h
theorem fo_178_0 : FieldOff Tryz.prog 178 0 0 := by have h := FieldOff.mk (k := 0) underlying178 rfl sizeOf175; exact h
theorem fo_178_1 : FieldOff Tryz.prog 178 1 1 := by have h := FieldOff.mk (k := 1) underlying178 rfl sizeOf176; exact h
theorem fo_178_2 : FieldOff Tryz.prog 178 2 2 := by have h := FieldOff.mk (k := 2) underlying178 rfl sizeOf3; exact h
theorem fo_178_3 : FieldOff Tryz.prog 178 3 3 := by have h := FieldOff.mk (k := 3) underlying178 rfl sizeOf3; exact h
theorem fo_178_4 : FieldOff Tryz.prog 178 4 4 := by have h := FieldOff.mk (k := 4) underlying178 rfl sizeOf57; exact h
theorem fo_258_0 : FieldOff Tryz.prog 258 0 0 := by have h := FieldOff.mk (k := 0) underlying258 rfl sizeOf3; exact h
theorem fo_258_1 : FieldOff Tryz.prog 258 1 1 := by have h := FieldOff.mk (k := 1) underlying258 rfl sizeOf57; exact h
theorem fo_260_0 : FieldOff Tryz.prog 260 0 0 := by have h := FieldOff.mk (k := 0) underlying260 rfl sizeOf3; exact h
theorem fo_260_1 : FieldOff Tryz.prog 260 1 1 := by have h := FieldOff.mk (k := 1) underlying260 rfl sizeOf3; exact h
theorem fo_260_2 : FieldOff Tryz.prog 260 2 2 := by have h := FieldOff.mk (k := 2) underlying260 rfl sizeOf57; exact h
theorem fo_260_3 : FieldOff Tryz.prog 260 3 3 := by have h := FieldOff.mk (k := 3) underlying260 rfl sizeOf3; exact h
theorem st_22 : SliceTy Tryz.prog 22 82 3 := ⟨underlying22, sizeOf82⟩
theorem st_26 : SliceTy Tryz.prog 26 44 3 := ⟨underlying26, sizeOf44⟩
theorem st_42 : SliceTy Tryz.prog 42 59 5 := ⟨underlying42, sizeOf59⟩
theorem st_55 : SliceTy Tryz.prog 55 87 2 := ⟨underlying55, sizeOf87⟩
theorem st_56 : SliceTy Tryz.prog 56 61 4 := ⟨underlying56, sizeOf61⟩
theorem st_57 : SliceTy Tryz.prog 57 3 1 := ⟨underlying57, sizeOf3⟩
theorem st_64 : SliceTy Tryz.prog 64 57 1 := ⟨underlying64, sizeOf57⟩
theorem st_70 : SliceTy Tryz.prog 70 64 1 := ⟨underlying70, sizeOf64⟩
theorem st_73 : SliceTy Tryz.prog 73 75 1 := ⟨underlying73, sizeOf75⟩
theorem st_75 : SliceTy Tryz.prog 75 77 2 := ⟨underlying75, sizeOf77⟩
theorem st_80 : SliceTy Tryz.prog 80 178 5 := ⟨underlying80, sizeOf178⟩
theorem st_98 : SliceTy Tryz.prog 98 4 1 := ⟨underlying98, sizeOf4⟩
theorem st_99 : SliceTy Tryz.prog 99 98 1 := ⟨underlying99, sizeOf98⟩
theorem st_175 : SliceTy Tryz.prog 175 258 2 := ⟨underlying175, sizeOf258⟩
theorem st_176 : SliceTy Tryz.prog 176 260 4 := ⟨underlying176, sizeOf260⟩
theorem et_26 : ElemTy Tryz.prog 26 44 3 (.agg #[(.int .i64 (0)), (.int .i64 (0)), (.slice none 0 0)]) := ⟨underlying26, ⟨_, (by kernel_rfl : Tryz.prog.info? 44 = some t44), rfl, by decide, rfl⟩, rfl, by decide⟩
theorem et_42 : ElemTy Tryz.prog 42 59 5 (.agg #[(.slice none 0 0), (.slice none 0 0), (.int .i64 (0)), (.int .i64 (0)), (.slice none 0 0)]) := ⟨underlying42, ⟨_, (by kernel_rfl : Tryz.prog.info? 59 = some t59), rfl, by decide, rfl⟩, rfl, by decide⟩
theorem et_55 : ElemTy Tryz.prog 55 87 2 (.agg #[(.int .i64 (0)), (.slice none 0 0)]) := ⟨underlying55, ⟨_, (by kernel_rfl : Tryz.prog.info? 87 = some t87), rfl, by decide, rfl⟩, rfl, by decide⟩
theorem et_56 : ElemTy Tryz.prog 56 61 4 (.agg #[(.int .i64 (0)), (.int .i64 (0)), (.slice none 0 0), (.int .i64 (0))]) := ⟨underlying56, ⟨_, (by kernel_rfl : Tryz.prog.info? 61 = some t61), rfl, by decide, rfl⟩, rfl, by decide⟩
theorem et_57 : ElemTy Tryz.prog 57 3 1 (.int .i64 (0)) := ⟨underlying57, ⟨_, (by kernel_rfl : Tryz.prog.info? 3 = some t3), rfl, by decide, rfl⟩, rfl, by decide⟩
theorem et_64 : ElemTy Tryz.prog 64 57 1 (.slice none 0 0) := ⟨underlying64, ⟨_, (by kernel_rfl : Tryz.prog.info? 57 = some t57), rfl, by decide, rfl⟩, rfl, by decide⟩
theorem et_70 : ElemTy Tryz.prog 70 64 1 (.slice none 0 0) := ⟨underlying70, ⟨_, (by kernel_rfl : Tryz.prog.info? 64 = some t64), rfl, by decide, rfl⟩, rfl, by decide⟩
theorem et_73 : ElemTy Tryz.prog 73 75 1 (.slice none 0 0) := ⟨underlying73, ⟨_, (by kernel_rfl : Tryz.prog.info? 75 = some t75), rfl, by decide, rfl⟩, rfl, by decide⟩
theorem et_75 : ElemTy Tryz.prog 75 77 2 (.agg #[(.int .i64 (0)), (.int .i64 (0))]) := ⟨underlying75, ⟨_, (by kernel_rfl : Tryz.prog.info? 77 = some t77), rfl, by decide, rfl⟩, rfl, by decide⟩
theorem et_98 : ElemTy Tryz.prog 98 4 1 (.bool (false)) := ⟨underlying98, ⟨_, (by kernel_rfl : Tryz.prog.info? 4 = some t4), rfl, by decide, rfl⟩, rfl, by decide⟩
theorem et_99 : ElemTy Tryz.prog 99 98 1 (.slice none 0 0) := ⟨underlying99, ⟨_, (by kernel_rfl : Tryz.prog.info? 98 = some t98), rfl, by decide, rfl⟩, rfl, by decide⟩
theorem laws_szIntS_ok (w0 : World) (a_ : List Int) (v1 : Value) (h1 : GT.rep (hp w0) [v1] a_) (left : Int) :
    ConM Tryz.prog 247 [v1, (nV left)] w0 (laws_szIntS a_ left) fun r v w' => v = (nV r) ∧ Below w0.heap.size w0 w' := by
  unfold laws_szIntS
  refine gcon func247 rfl fun r => ?_
  have hm := Mem.start w0
  refine gS (gR (gA rfl (gE (gS (gR (gM rfl (gM rfl ?_)))))))
  obtain ⟨aB, aC, rfl, aD⟩ := ro_slice h1
  refine gY (yV st_57 rfl) (gB rfl (gA rfl (gE (gS (gS (gR (gM rfl (gB rfl (gE (gsd 10 rfl (fun aA => ?_) fun aA => ?_))))))))))
  ·
   exact gct rfl (gS (gR (gA rfl (gE (gRt (gr1 results247 rfl ⟨rfl, hm.below⟩))))))
  exact gcf rfl (gSk (gS (gR (gM rfl (gA rfl (gE (gRt (gr1 results247 rfl ⟨rfl, hm.below⟩))))))))
theorem laws_szPhi_ok (w0 : World) (a_ : Phi_) (v1 : Value) (h1 : GT.rep (hp w0) [v1] a_.args) (left : Int) :
    ConM Tryz.prog 283 [(.agg #[(nV a_.to), v1]), (nV left)] w0 (laws_szPhi a_ left) fun r v w' => v = (nV r) ∧ Below w0.heap.size w0 w' := by
  unfold laws_szPhi
  refine gcon func283 rfl fun r => ?_
  have hm := Mem.start w0
  refine gS (gR (gBx hm rfl fun aB w hm => gA rfl (gE (gS (gR (gF fo_258_1 rfl (gL hm 0 isAgg57 rfl (gM rfl (gC hm rfl call247 (laws_szIntS_ok _ a_.args v1 (hm.now h1) left) fun aC aD w hm => gA rfl (gE (gS (gS (gR (gM rfl (gB rfl (gE (gsd 10 rfl (fun aA => ?_) fun aA => ?_)))))))))))))))))
  ·
   exact gct rfl (gS (gR (gA rfl (gE (gRt (gr1 results283 rfl ⟨rfl, hm.below⟩))))))
  exact gcf rfl (gSk (gS (gR (gM rfl (gA rfl (gE (gRt (gr1 results283 rfl ⟨rfl, hm.below⟩))))))))
theorem laws_szPhiS_ok (w0 : World) (a_ : List Phi_) (v1 : Value) (h1 : GT.rep (hp w0) [v1] a_) (left : Int) :
    ConM Tryz.prog 245 [v1, (nV left)] w0 (laws_szPhiS a_ left) fun r v w' => v = (nV r) ∧ Below w0.heap.size w0 w' := by
  unfold laws_szPhiS
  refine gcon func245 rfl fun r => ?_
  have hm := Mem.start w0
  refine gS (gR (gA rfl (gE (gS (gR (gM rfl (gM rfl ?_)))))))
  obtain ⟨aD, aE, rfl, aO⟩ := ro_slice h1
  refine gY (yV st_175 rfl) (gB rfl (gA rfl (gE (gS (gS (gR (gM rfl (gB rfl (gE (gsd 11 rfl (fun aF => ?_) fun aF => ?_))))))))))
  ·
   exact gct rfl (gS (gR (gA rfl (gE (gRt (gr1 results245 rfl ⟨rfl, hm.below⟩))))))
  refine gcf rfl (gSk (gS (gS (gR (gA rfl (gE (gBk (gNg (fun aC aA a w => 0 ≤ aA ∧ St 27 [(0, (.slice aD a_.length aE)), (1, (nV aA)), (5, (nV aC))] w0 (hp w0) [] a w) (fun a hf => ⟨(by first | omega | (dsimp only; omega)), hf.sb rfl, hm.pk [] rfl rfl⟩) ?_ ?_))))))))
  ·
   repeat clear hm
   rintro aP aG aC aA a w ⟨aQ, hf, hm⟩ aR aS aT aH
   refine gv hf (gS (gS (gR (gM rfl (gM rfl (gY (yV st_175 rfl) (gB rfl (gE (go _ 15 rfl (decide_eq_true (by omega)) (gct rfl (gSk (gS (gBk (gS (gR (gM rfl (gM rfl (gg fun aI aJ aB => ?_))))))))))))))))))
   obtain ⟨aV, aW, aX, he⟩ := idx_form' h1 aB
   obtain ⟨rfl, _, rfl⟩ := sl3 he
   obtain ⟨aK, aL, aM⟩ := rk_Phi_ h1 aB
   refine gI st_175 aJ (idx_lt aB) rfl (gY (yn (aL.mono hm.lez) isAgg258 sizeOf258 rfl) (gM rfl (gC hm rfl call283 (laws_szPhi_ok _ aI aK (hm.now aM) aA) fun aY aZ w hm => gA rfl (gE (gS (gR (gM rfl (gB rfl (gE (gsd 25 rfl (fun aN => ?_) fun aN => ?_))))))))))
   ·
    exact gct rfl (gS (gR (gA rfl (gE (gRt (gLr aH aG (gr1 results245 rfl ⟨rfl, hm.below⟩)))))))
   exact gcf rfl (gSk (gR (gM rfl (gP (by omega) (by omega) rfl (gA rfl (gE (gZe fun a hf => ⟨(by first | omega | (dsimp only; omega)), hf.sb rfl, hm.pk [] rfl rfl⟩)))))))
  repeat clear hm
  rintro aa ab a w ⟨ac, hf, hm⟩ ae af
  exact gv hf (gS (gS (gR (gM rfl (gM rfl (gY (yV st_175 rfl) (gB rfl (gE (go _ 15 rfl (decide_eq_false (by omega)) (gcf rfl (gXt (gHh (gS (gR (gM rfl (gA rfl (gE (gRt (gr1 results245 rfl ⟨rfl, hm.below⟩)))))))))))))))))))
theorem laws_szIns_ok (w0 : World) (a_ : Ins_) (v1 : Value) (h1 : GT.rep (hp w0) [v1] a_.args) (left : Int) :
    ConM Tryz.prog 284 [(.agg #[(nV a_.op), (nV a_.to), v1, (nV a_.n_)]), (nV left)] w0 (laws_szIns a_ left) fun r v w' => v = (nV r) ∧ Below w0.heap.size w0 w' := by
  unfold laws_szIns
  refine gcon func284 rfl fun r => ?_
  have hm := Mem.start w0
  refine gS (gR (gBx hm rfl fun aB w hm => gA rfl (gE (gS (gR (gF fo_260_2 rfl (gL hm 0 isAgg57 rfl (gM rfl (gC hm rfl call247 (laws_szIntS_ok _ a_.args v1 (hm.now h1) left) fun aC aD w hm => gA rfl (gE (gS (gS (gR (gM rfl (gB rfl (gE (gsd 10 rfl (fun aA => ?_) fun aA => ?_)))))))))))))))))
  ·
   exact gct rfl (gS (gR (gA rfl (gE (gRt (gr1 results284 rfl ⟨rfl, hm.below⟩))))))
  exact gcf rfl (gSk (gS (gR (gM rfl (gA rfl (gE (gRt (gr1 results284 rfl ⟨rfl, hm.below⟩))))))))
theorem laws_szInsS_ok (w0 : World) (a_ : List Ins_) (v1 : Value) (h1 : GT.rep (hp w0) [v1] a_) (left : Int) :
    ConM Tryz.prog 246 [v1, (nV left)] w0 (laws_szInsS a_ left) fun r v w' => v = (nV r) ∧ Below w0.heap.size w0 w' := by
  unfold laws_szInsS
  refine gcon func246 rfl fun r => ?_
  have hm := Mem.start w0
  refine gS (gR (gA rfl (gE (gS (gR (gM rfl (gM rfl ?_)))))))
  obtain ⟨aD, aE, rfl, aO⟩ := ro_slice h1
  refine gY (yV st_176 rfl) (gB rfl (gA rfl (gE (gS (gS (gR (gM rfl (gB rfl (gE (gsd 11 rfl (fun aF => ?_) fun aF => ?_))))))))))
  ·
   exact gct rfl (gS (gR (gA rfl (gE (gRt (gr1 results246 rfl ⟨rfl, hm.below⟩))))))
  refine gcf rfl (gSk (gS (gS (gR (gA rfl (gE (gBk (gNg (fun aC aA a w => 0 ≤ aA ∧ St 27 [(0, (.slice aD a_.length aE)), (1, (nV aA)), (5, (nV aC))] w0 (hp w0) [] a w) (fun a hf => ⟨(by first | omega | (dsimp only; omega)), hf.sb rfl, hm.pk [] rfl rfl⟩) ?_ ?_))))))))
  ·
   repeat clear hm
   rintro aP aG aC aA a w ⟨aQ, hf, hm⟩ aR aS aT aH
   refine gv hf (gS (gS (gR (gM rfl (gM rfl (gY (yV st_176 rfl) (gB rfl (gE (go _ 15 rfl (decide_eq_true (by omega)) (gct rfl (gSk (gS (gBk (gS (gR (gM rfl (gM rfl (gg fun aI aJ aB => ?_))))))))))))))))))
   obtain ⟨aV, aW, aX, he⟩ := idx_form' h1 aB
   obtain ⟨rfl, _, rfl⟩ := sl3 he
   obtain ⟨aK, aL, aM⟩ := rk_Ins_ h1 aB
   refine gI st_176 aJ (idx_lt aB) rfl (gY (yn (aL.mono hm.lez) isAgg260 sizeOf260 rfl) (gM rfl (gC hm rfl call284 (laws_szIns_ok _ aI aK (hm.now aM) aA) fun aY aZ w hm => gA rfl (gE (gS (gR (gM rfl (gB rfl (gE (gsd 25 rfl (fun aN => ?_) fun aN => ?_))))))))))
   ·
    exact gct rfl (gS (gR (gA rfl (gE (gRt (gLr aH aG (gr1 results246 rfl ⟨rfl, hm.below⟩)))))))
   exact gcf rfl (gSk (gR (gM rfl (gP (by omega) (by omega) rfl (gA rfl (gE (gZe fun a hf => ⟨(by first | omega | (dsimp only; omega)), hf.sb rfl, hm.pk [] rfl rfl⟩)))))))
  repeat clear hm
  rintro aa ab a w ⟨ac, hf, hm⟩ ae af
  exact gv hf (gS (gS (gR (gM rfl (gM rfl (gY (yV st_176 rfl) (gB rfl (gE (go _ 15 rfl (decide_eq_false (by omega)) (gcf rfl (gXt (gHh (gS (gR (gM rfl (gA rfl (gE (gRt (gr1 results246 rfl ⟨rfl, hm.below⟩)))))))))))))))))))
theorem laws_szBlock_ok (w0 : World) (a_ : Block_) (v1 : Value) (h1 : GT.rep (hp w0) [v1] a_.phis) (v2 : Value) (h2 : GT.rep (hp w0) [v2] a_.ins) (v3 : Value) (h3 : GT.rep (hp w0) [v3] a_.next_) (left : Int) :
    ConM Tryz.prog 185 [(.agg #[v1, v2, (nV a_.jump), (nV a_.on), v3]), (nV left)] w0 (laws_szBlock a_ left) fun r v w' => v = (nV r) ∧ Below w0.heap.size w0 w' := by
  unfold laws_szBlock
  refine gcon func185 rfl fun r => ?_
  have hm := Mem.start w0
  refine gS (gR (gBx hm rfl fun aF w hm => gA rfl (gE (gS (gR (gF fo_178_0 rfl (gL hm 0 isAgg175 rfl (gM rfl (gC hm rfl call245 (laws_szPhiS_ok _ a_.phis v1 (hm.now h1) left) fun aA aG w hm => gA rfl (gE (gS (gS (gR (gM rfl (gB rfl (gE (gsd 10 rfl (fun aB => ?_) fun aB => ?_)))))))))))))))))
  ·
   exact gct rfl (gS (gR (gA rfl (gE (gRt (gr1 results185 rfl ⟨rfl, hm.below⟩))))))
  refine gcf rfl (gSk (gS (gR (gF fo_178_1 rfl (gL hm 0 isAgg176 rfl (gM rfl (gC hm rfl call246 (laws_szInsS_ok _ a_.ins v2 (hm.now h2) aA) fun aC aH w hm => gA rfl (gE (gS (gS (gR (gM rfl (gB rfl (gE (gsd 16 rfl (fun aD => ?_) fun aD => ?_)))))))))))))))
  ·
   exact gct rfl (gS (gR (gA rfl (gE (gRt (gr1 results185 rfl ⟨rfl, hm.below⟩))))))
  refine gcf rfl (gSk (gS (gR (gF fo_178_4 rfl (gL hm 0 isAgg57 rfl (gM rfl (gC hm rfl call247 (laws_szIntS_ok _ a_.next_ v3 (hm.now h3) aC) fun aI aJ w hm => gA rfl (gE (gS (gS (gR (gM rfl (gB rfl (gE (gsd 22 rfl (fun aE => ?_) fun aE => ?_)))))))))))))))
  ·
   exact gct rfl (gS (gR (gA rfl (gE (gRt (gr1 results185 rfl ⟨rfl, hm.below⟩))))))
  exact gcf rfl (gSk (gS (gR (gM rfl (gA rfl (gE (gRt (gr1 results185 rfl ⟨rfl, hm.below⟩))))))))
theorem laws_szBlockS_ok (w0 : World) (a_ : List Block_) (v1 : Value) (h1 : GT.rep (hp w0) [v1] a_) (left : Int) :
    ConM Tryz.prog 112 [v1, (nV left)] w0 (laws_szBlockS a_ left) fun r v w' => v = (nV r) ∧ Below w0.heap.size w0 w' := by
  unfold laws_szBlockS
  refine gcon func112 rfl fun r => ?_
  have hm := Mem.start w0
  refine gS (gR (gA rfl (gE (gS (gR (gM rfl (gM rfl ?_)))))))
  obtain ⟨aD, aE, rfl, aS⟩ := ro_slice h1
  refine gY (yV st_80 rfl) (gB rfl (gA rfl (gE (gS (gS (gR (gM rfl (gB rfl (gE (gsd 11 rfl (fun aF => ?_) fun aF => ?_))))))))))
  ·
   exact gct rfl (gS (gR (gA rfl (gE (gRt (gr1 results112 rfl ⟨rfl, hm.below⟩))))))
  refine gcf rfl (gSk (gS (gS (gR (gA rfl (gE (gBk (gNg (fun aC aA a w => 0 ≤ aA ∧ St 27 [(0, (.slice aD a_.length aE)), (1, (nV aA)), (5, (nV aC))] w0 (hp w0) [] a w) (fun a hf => ⟨(by first | omega | (dsimp only; omega)), hf.sb rfl, hm.pk [] rfl rfl⟩) ?_ ?_))))))))
  ·
   repeat clear hm
   rintro aT aG aC aA a w ⟨aV, hf, hm⟩ aW aX aY aH
   refine gv hf (gS (gS (gR (gM rfl (gM rfl (gY (yV st_80 rfl) (gB rfl (gE (go _ 15 rfl (decide_eq_true (by omega)) (gct rfl (gSk (gS (gBk (gS (gR (gM rfl (gM rfl (gg fun aI aJ aB => ?_))))))))))))))))))
   obtain ⟨aZ, aa, ab, he⟩ := idx_form' h1 aB
   obtain ⟨rfl, _, rfl⟩ := sl3 he
   obtain ⟨aK, aL, aM, aN, aO, aP, aQ⟩ := rk_Block_ h1 aB
   refine gI st_80 aJ (idx_lt aB) rfl (gY (yn (aN.mono hm.lez) isAgg178 sizeOf178 rfl) (gM rfl (gC hm rfl call185 (laws_szBlock_ok _ aI aK (hm.now aO) aL (hm.now aP) aM (hm.now aQ) aA) fun ac ae w hm => gA rfl (gE (gS (gR (gM rfl (gB rfl (gE (gsd 25 rfl (fun aR => ?_) fun aR => ?_))))))))))
   ·
    exact gct rfl (gS (gR (gA rfl (gE (gRt (gLr aH aG (gr1 results112 rfl ⟨rfl, hm.below⟩)))))))
   exact gcf rfl (gSk (gR (gM rfl (gP (by omega) (by omega) rfl (gA rfl (gE (gZe fun a hf => ⟨(by first | omega | (dsimp only; omega)), hf.sb rfl, hm.pk [] rfl rfl⟩)))))))
  repeat clear hm
  rintro af ag a w ⟨ah, hf, hm⟩ ai aj
  exact gv hf (gS (gS (gR (gM rfl (gM rfl (gY (yV st_80 rfl) (gB rfl (gE (go _ 15 rfl (decide_eq_false (by omega)) (gcf rfl (gXt (gHh (gS (gR (gM rfl (gA rfl (gE (gRt (gr1 results112 rfl ⟨rfl, hm.below⟩)))))))))))))))))))
theorem laws_szCode_ok (w0 : World) (a_ : Code_) (v1 : Value) (h1 : GT.rep (hp w0) [v1] a_.blocks) (left : Int) :
    ConM Tryz.prog 62 [(.agg #[(nV a_.params), (nV a_.regs), v1]), (nV left)] w0 (laws_szCode a_ left) fun r v w' => v = (nV r) ∧ Below w0.heap.size w0 w' := by
  unfold laws_szCode
  refine gcon func62 rfl fun r => ?_
  have hm := Mem.start w0
  refine gS (gR (gBx hm rfl fun aB w hm => gA rfl (gE (gS (gR (gF fo_82_2 rfl (gL hm 0 isAgg80 rfl (gM rfl (gC hm rfl call112 (laws_szBlockS_ok _ a_.blocks v1 (hm.now h1) left) fun aC aD w hm => gA rfl (gE (gS (gS (gR (gM rfl (gB rfl (gE (gsd 10 rfl (fun aA => ?_) fun aA => ?_)))))))))))))))))
  ·
   exact gct rfl (gS (gR (gA rfl (gE (gRt (gr1 results62 rfl ⟨rfl, hm.below⟩))))))
  exact gcf rfl (gSk (gS (gR (gM rfl (gA rfl (gE (gRt (gr1 results62 rfl ⟨rfl, hm.below⟩))))))))
theorem laws_szCodeS_ok (w0 : World) (a_ : List Code_) (v1 : Value) (h1 : GT.rep (hp w0) [v1] a_) (left : Int) :
    ConM Tryz.prog 26 [v1, (nV left)] w0 (laws_szCodeS a_ left) fun r v w' => v = (nV r) ∧ Below w0.heap.size w0 w' := by
  unfold laws_szCodeS
  refine gcon func26 rfl fun r => ?_
  have hm := Mem.start w0
  refine gS (gR (gA rfl (gE (gS (gR (gM rfl (gM rfl ?_)))))))
  obtain ⟨aD, aE, rfl, aO⟩ := ro_slice h1
  refine gY (yV st_22 rfl) (gB rfl (gA rfl (gE (gS (gS (gR (gM rfl (gB rfl (gE (gsd 11 rfl (fun aF => ?_) fun aF => ?_))))))))))
  ·
   exact gct rfl (gS (gR (gA rfl (gE (gRt (gr1 results26 rfl ⟨rfl, hm.below⟩))))))
  refine gcf rfl (gSk (gS (gS (gR (gA rfl (gE (gBk (gNg (fun aC aA a w => 0 ≤ aA ∧ St 27 [(0, (.slice aD a_.length aE)), (1, (nV aA)), (5, (nV aC))] w0 (hp w0) [] a w) (fun a hf => ⟨(by first | omega | (dsimp only; omega)), hf.sb rfl, hm.pk [] rfl rfl⟩) ?_ ?_))))))))
  ·
   repeat clear hm
   rintro aP aG aC aA a w ⟨aQ, hf, hm⟩ aR aS aT aH
   refine gv hf (gS (gS (gR (gM rfl (gM rfl (gY (yV st_22 rfl) (gB rfl (gE (go _ 15 rfl (decide_eq_true (by omega)) (gct rfl (gSk (gS (gBk (gS (gR (gM rfl (gM rfl (gg fun aI aJ aB => ?_))))))))))))))))))
   obtain ⟨aV, aW, aX, he⟩ := idx_form' h1 aB
   obtain ⟨rfl, _, rfl⟩ := sl3 he
   obtain ⟨aK, aL, aM⟩ := rk_Code_ h1 aB
   refine gI st_22 aJ (idx_lt aB) rfl (gY (yn (aL.mono hm.lez) isAgg82 sizeOf82 rfl) (gM rfl (gC hm rfl call62 (laws_szCode_ok _ aI aK (hm.now aM) aA) fun aY aZ w hm => gA rfl (gE (gS (gR (gM rfl (gB rfl (gE (gsd 25 rfl (fun aN => ?_) fun aN => ?_))))))))))
   ·
    exact gct rfl (gS (gR (gA rfl (gE (gRt (gLr aH aG (gr1 results26 rfl ⟨rfl, hm.below⟩)))))))
   exact gcf rfl (gSk (gR (gM rfl (gP (by omega) (by omega) rfl (gA rfl (gE (gZe fun a hf => ⟨(by first | omega | (dsimp only; omega)), hf.sb rfl, hm.pk [] rfl rfl⟩)))))))
  repeat clear hm
  rintro aa ab a w ⟨ac, hf, hm⟩ ae af
  exact gv hf (gS (gS (gR (gM rfl (gM rfl (gY (yV st_22 rfl) (gB rfl (gE (go _ 15 rfl (decide_eq_false (by omega)) (gcf rfl (gXt (gHh (gS (gR (gM rfl (gA rfl (gE (gRt (gr1 results26 rfl ⟨rfl, hm.below⟩)))))))))))))))))))
theorem laws_szUnit_ok (w0 : World) (a_ : Unit_) (v1 : Value) (h1 : GT.rep (hp w0) [v1] a_.codes) (left : Int) :
    ConM Tryz.prog 9 [(.agg #[v1]), (nV left)] w0 (laws_szUnit a_ left) fun r v w' => v = (nV r) ∧ Below w0.heap.size w0 w' := by
  unfold laws_szUnit
  refine gcon func9 rfl fun r => ?_
  have hm := Mem.start w0
  refine gS (gR (gBx hm rfl fun aB w hm => gA rfl (gE (gS (gR (gF fo_24_0 rfl (gL hm 0 isAgg22 rfl (gM rfl (gC hm rfl call26 (laws_szCodeS_ok _ a_.codes v1 (hm.now h1) left) fun aC aD w hm => gA rfl (gE (gS (gS (gR (gM rfl (gB rfl (gE (gsd 10 rfl (fun aA => ?_) fun aA => ?_)))))))))))))))))
  ·
   exact gct rfl (gS (gR (gA rfl (gE (gRt (gr1 results9 rfl ⟨rfl, hm.below⟩))))))
  exact gcf rfl (gSk (gS (gR (gM rfl (gA rfl (gE (gRt (gr1 results9 rfl ⟨rfl, hm.below⟩))))))))
theorem laws_toIntS_ok (w0 : World) (a_ : List Int) (v1 : Value) (h1 : GT.rep (hp w0) [v1] a_) :
    ConM Tryz.prog 250 [v1] w0 (laws_toIntS a_) fun r v w' => ∃ (x1 : Value), v = x1 ∧ Mem w0 (hp w0) w' [ow [x1] r] := by
  unfold laws_toIntS
  refine gcon func250 rfl fun r => ?_
  have hm := Mem.start w0
  refine gS (gR (gA rfl (gE (gS (gR (gM rfl ?_))))))
  obtain ⟨aJ, aK, rfl, aQ⟩ := ro_slice h1
  refine gY (yV st_57 rfl) (gb fun aA aL => ?_)
  obtain ⟨⟨aM, aN⟩, aI⟩ := makeM_some.1 aL
  refine gf rfl (fun a hf => e_make (x0 := (0 : Int)) et_57 (fun _ => (Flat.own_iff.2 rfl)) hf hm rfl rfl rfl aM (Int.le_refl _) aN) ?_
  rintro aR w hm
  rw [aI] at hm
  have h0_1l : (aA.length : Int) = (a_.length : Int) := by rw [← aI]; simp only [List.length_replicate]; omega
  refine gA rfl (gE (gS (gS (gR (gA rfl (gE ?_))))))
  obtain ⟨aD, aE, rfl, aS⟩ := ro_slice (hm.ow_rep 0 rfl)
  refine gBk (gNf hm (fun aF aG => [(0, (.slice aJ a_.length aK)), (3, (.slice aD aA.length aE)), (4, (nV aF))]) (fun aF aG => [ow [(.slice aD aA.length aE)] aG]) [0] rfl ?_ ?_)
  ·
   repeat clear hm
   intro _ _ aF aG w hm aT aV aW _
   refine gS (gS (gR (gM rfl (gM rfl (gY (yV st_57 rfl) (gB rfl (gE (go _ 11 rfl (decide_eq_true (by omega)) (gct rfl (gSk (gS (gBk (gR (gM rfl (gM rfl (gM rfl (gM rfl (gg fun aB aO aH => ?_))))))))))))))))))
   obtain ⟨aX, aY, aZ, he⟩ := idx_form h1 aH
   obtain ⟨rfl, _, rfl⟩ := sl3 he
   refine gI st_57 aO (idx_lt aH) rfl (gY (yl isAgg3 ((flat_cells (cs := [(nV aB)]) (hm.now h1) aH rfl).cell (j := 0) rfl) rfl) (gg fun aa aP aC => ?_))
   obtain ⟨ab, ac, ae, he⟩ := idx_form (hm.ow_rep 0 rfl) aC
   obtain ⟨rfl, _, rfl⟩ := sl3 he
   have hL1_1 := rep_slice_len (hm.ow_rep 0 rfl)
   refine gI st_57 aP (idx_lt2 aC hL1_1) rfl (gf0 rfl (fun a hf => e_setElem (x1 := aB) (j := 0) (vs := [(nV aB)]) 0 hf hm rfl aC rfl sizeOf3 rfl rfl rfl (one_cons rfl one_nil) rfl rfl) ?_)
   rintro _ w hm
   have af := List.getElem?_set_self (a := aB) (idx_lt aC)
   exact gE (gR (gM rfl (gP (by omega) (by omega) rfl (gA rfl (gE (gze hm [0] rfl))))))
  repeat clear hm
  intro ag ah w hm ai aj
  exact gS (gS (gR (gM rfl (gM rfl (gY (yV st_57 rfl) (gB rfl (gE (go _ 11 rfl (decide_eq_false (by omega)) (gcf rfl (gXt (gHh (gS (gR (gM rfl (gA rfl (gE (gRt (gr1 results250 rfl ⟨(.slice aD aA.length aE), rfl, hm.pk [0] rfl rfl⟩))))))))))))))))))
theorem laws_toPhi_ok (w0 : World) (a_ : Phi_) (v1 : Value) (h1 : GT.rep (hp w0) [v1] a_.args) :
    ConM Tryz.prog 285 [(.agg #[(nV a_.to), v1])] w0 (laws_toPhi a_) fun r v w' => ∃ (x1 : Value), v = (.agg #[(nV r.to), x1]) ∧ Mem w0 (hp w0) w' [ow [x1] r.args] := by
  unfold laws_toPhi
  refine gcon func285 rfl fun r => ?_
  have hm := Mem.start w0
  refine gS (gR (gBx hm rfl fun aB w hm => gAl hm zeroValue87 rfl fun aC w hm => gE (gS (gR (gAl hm zeroValue87 rfl fun aD w hm => gE (gS (gR (gF fo_258_0 rfl (gL hm 2 isAgg3 rfl (gF fo_87_0 rfl (gS1 hm 0 sizeOf3 rfl rfl fun w hm => gE (gS (gR (gF fo_258_1 rfl (gL hm 2 isAgg57 rfl (gCg rfl call250 (laws_toIntS_ok _ a_.args v1 (hm.now h1)) ?_))))))))))))))))
  rintro aE aF aA w ⟨_, rfl, hB⟩
  replace hm := hm.give hB; clear hB
  exact gF fo_87_1 rfl (gS1 hm 1 sizeOf57 (rep_one (hm.ow_rep 0 rfl)) rfl fun w hm => gE (gS (gR (gY (yn (hm.blk_at 1 rfl) isAgg87 sizeOf87 rfl) (gSN hm 2 sizeOf87 (one_cons rfl (one_cons (rep_one (hm.ow_rep 0 rfl)) one_nil)) rfl fun w hm => gE (gRt (grc 2 results285 hm rfl isAgg87 sizeOf87 ⟨aA, rfl, hm.pk [0] rfl rfl⟩)))))))
theorem laws_toPhiS_ok (w0 : World) (a_ : List Phi_) (v1 : Value) (h1 : GT.rep (hp w0) [v1] a_) :
    ConM Tryz.prog 248 [v1] w0 (laws_toPhiS a_) fun r v w' => ∃ (x1 : Value), v = x1 ∧ Mem w0 (hp w0) w' [ow [x1] r] := by
  unfold laws_toPhiS
  refine gcon func248 rfl fun r => ?_
  have hm := Mem.start w0
  refine gS (gR (gA rfl (gE (gS (gR (gM rfl ?_))))))
  obtain ⟨aM, aN, rfl, aY⟩ := ro_slice h1
  refine gY (yV st_175 rfl) (gb fun aB aO => ?_)
  obtain ⟨⟨aP, aQ⟩, aJ⟩ := makeM_some.1 aO
  refine gf rfl (fun a hf => e_make (x0 := ((⟨0, []⟩ : Phi_) : Phi_)) et_55 (fun _ => ⟨[(nV 0)], [(.slice none 0 0)], rfl, fun _ => False, fun _ => False, fun _ h => h.elim, fun _ h => h.elim, fun _ h => h.elim, (Flat.own_iff.2 rfl), (own_list.2 (.inl ⟨rfl, rfl⟩))⟩) hf hm rfl rfl rfl aP (Int.le_refl _) aQ) ?_
  rintro aZ w hm
  rw [aJ] at hm
  have h0_1l : (aB.length : Int) = (a_.length : Int) := by rw [← aJ]; simp only [List.length_replicate]; omega
  refine gA rfl (gE (gS (gS (gR (gA rfl (gE ?_))))))
  obtain ⟨aF, aC, rfl, aa⟩ := ro_slice (hm.ow_rep 0 rfl)
  refine gBk (gNf hm (fun aG aD => [(0, (.slice aM a_.length aN)), (3, (.slice aF aB.length aC)), (4, (nV aG))]) (fun aG aD => [ow [(.slice aF aB.length aC)] aD]) [0] rfl ?_ ?_)
  ·
   repeat clear hm
   intro _ _ aG aD w hm ab ac ae _
   refine gS (gS (gR (gM rfl (gM rfl (gY (yV st_175 rfl) (gB rfl (gE (go _ 11 rfl (decide_eq_true (by omega)) (gct rfl (gSk (gS (gBk (gR (gM rfl (gM rfl (gM rfl (gM rfl (gg fun aR aS aH => ?_))))))))))))))))))
   obtain ⟨af, ag, ah, he⟩ := idx_form' h1 aH
   obtain ⟨rfl, _, rfl⟩ := sl3 he
   obtain ⟨aT, aV, aW⟩ := rk_Phi_ h1 aH
   refine gI st_175 aS (idx_lt aH) rfl (gY (yn (aV.mono hm.lez) isAgg258 sizeOf258 rfl) (gCg rfl call285 (laws_toPhi_ok _ aR aT (hm.now aW)) ?_))
   rintro aA ai aj w ⟨aI, rfl, hB⟩
   replace hm := hm.give hB; clear hB
   refine gg fun ak aX aE => ?_
   obtain ⟨aK, aL, am, he⟩ := idx_form' (hm.ow_rep 1 rfl) aE
   obtain ⟨rfl, _, rfl⟩ := sl3 he
   obtain ⟨an, ao, ap⟩ := rk_Phi_ (hm.ow_rep 1 rfl) aE
   have hL1_1 := rep_slice_len (hm.ow_rep 1 rfl)
   refine gI st_55 aX (idx_lt2 aE hL1_1) rfl ?_
   replace hm : Mem w0 (hp w0) _ [ow [(nV aA.to), aI] (aA : Phi_), ow [(sV aK aL aB.length aC)] aD] := mk_Phi_ aA.to hm 0 rfl
   replace hm := (hm.both 1 0 (by decide) rfl rfl).pk (L' := [both (ow [(sV aK aL aB.length aC)] aD) (ow [(nV aA.to), aI] (aA : Phi_))]) [1] rfl rfl
   refine gf0 rfl (fun a hf => e_putElem (x1 := (aA : Phi_)) (vs := [(nV aA.to), aI]) 0 hf hm rfl aE rfl sizeOf87 rfl rfl rfl rfl) ?_
   rintro _ w hm
   have aq := List.getElem?_set_self (a := (aA : Phi_)) (idx_lt aE)
   exact gE (gR (gM rfl (gP (by omega) (by omega) rfl (gA rfl (gE (gze hm [0] rfl))))))
  repeat clear hm
  intro ar au w hm aw ax
  exact gS (gS (gR (gM rfl (gM rfl (gY (yV st_175 rfl) (gB rfl (gE (go _ 11 rfl (decide_eq_false (by omega)) (gcf rfl (gXt (gHh (gS (gR (gM rfl (gA rfl (gE (gRt (gr1 results248 rfl ⟨(.slice aF aB.length aC), rfl, hm.pk [0] rfl rfl⟩))))))))))))))))))
theorem laws_toIns_ok (w0 : World) (a_ : Ins_) (v1 : Value) (h1 : GT.rep (hp w0) [v1] a_.args) :
    ConM Tryz.prog 286 [(.agg #[(nV a_.op), (nV a_.to), v1, (nV a_.n_)])] w0 (laws_toIns a_) fun r v w' => ∃ (x1 : Value), v = (.agg #[(nV r.op), (nV r.to), x1, (nV r.n_)]) ∧ Mem w0 (hp w0) w' [ow [x1] r.args] := by
  unfold laws_toIns
  refine gcon func286 rfl fun r => ?_
  have hm := Mem.start w0
  refine gS (gR (gBx hm rfl fun aB w hm => gAl hm zeroValue61 rfl fun aC w hm => gE (gS (gR (gAl hm zeroValue61 rfl fun aD w hm => gE (gS (gR (gF fo_260_0 rfl (gL hm 2 isAgg3 rfl (gF fo_61_0 rfl (gS1 hm 0 sizeOf3 rfl rfl fun w hm => gE (gS (gR (gF fo_260_1 rfl (gL hm 2 isAgg3 rfl (gF fo_61_1 rfl (gS1 hm 0 sizeOf3 rfl rfl fun w hm => gE (gS (gR (gF fo_260_2 rfl (gL hm 2 isAgg57 rfl (gCg rfl call250 (laws_toIntS_ok _ a_.args v1 (hm.now h1)) ?_))))))))))))))))))))))
  rintro aE aF aA w ⟨_, rfl, hB⟩
  replace hm := hm.give hB; clear hB
  exact gF fo_61_2 rfl (gS1 hm 1 sizeOf57 (rep_one (hm.ow_rep 0 rfl)) rfl fun w hm => gE (gS (gR (gF fo_260_3 rfl (gL hm 3 isAgg3 rfl (gF fo_61_3 rfl (gS1 hm 1 sizeOf3 rfl rfl fun w hm => gE (gS (gR (gY (yn (hm.blk_at 1 rfl) isAgg61 sizeOf61 rfl) (gSN hm 2 sizeOf61 (one_cons rfl (one_cons rfl (one_cons (rep_one (hm.ow_rep 0 rfl)) (one_cons rfl one_nil)))) rfl fun w hm => gE (gRt (grc 2 results286 hm rfl isAgg61 sizeOf61 ⟨aA, rfl, hm.pk [0] rfl rfl⟩)))))))))))))
theorem laws_toInsS_ok (w0 : World) (a_ : List Ins_) (v1 : Value) (h1 : GT.rep (hp w0) [v1] a_) :
    ConM Tryz.prog 249 [v1] w0 (laws_toInsS a_) fun r v w' => ∃ (x1 : Value), v = x1 ∧ Mem w0 (hp w0) w' [ow [x1] r] := by
  unfold laws_toInsS
  refine gcon func249 rfl fun r => ?_
  have hm := Mem.start w0
  refine gS (gR (gA rfl (gE (gS (gR (gM rfl ?_))))))
  obtain ⟨aM, aN, rfl, aY⟩ := ro_slice h1
  refine gY (yV st_176 rfl) (gb fun aB aO => ?_)
  obtain ⟨⟨aP, aQ⟩, aJ⟩ := makeM_some.1 aO
  refine gf rfl (fun a hf => e_make (x0 := ((⟨0, 0, [], 0⟩ : Ins_) : Ins_)) et_56 (fun _ => ⟨[(nV 0)], [(nV 0), (.slice none 0 0), (nV 0)], rfl, fun _ => False, fun _ => False, fun _ h => h.elim, fun _ h => h.elim, fun _ h => h.elim, (Flat.own_iff.2 rfl), ⟨[(nV 0)], [(.slice none 0 0), (nV 0)], rfl, fun _ => False, fun _ => False, fun _ h => h.elim, fun _ h => h.elim, fun _ h => h.elim, (Flat.own_iff.2 rfl), ⟨[(.slice none 0 0)], [(nV 0)], rfl, fun _ => False, fun _ => False, fun _ h => h.elim, fun _ h => h.elim, fun _ h => h.elim, (own_list.2 (.inl ⟨rfl, rfl⟩)), (Flat.own_iff.2 rfl)⟩⟩⟩) hf hm rfl rfl rfl aP (Int.le_refl _) aQ) ?_
  rintro aZ w hm
  rw [aJ] at hm
  have h0_1l : (aB.length : Int) = (a_.length : Int) := by rw [← aJ]; simp only [List.length_replicate]; omega
  refine gA rfl (gE (gS (gS (gR (gA rfl (gE ?_))))))
  obtain ⟨aF, aC, rfl, aa⟩ := ro_slice (hm.ow_rep 0 rfl)
  refine gBk (gNf hm (fun aG aD => [(0, (.slice aM a_.length aN)), (3, (.slice aF aB.length aC)), (4, (nV aG))]) (fun aG aD => [ow [(.slice aF aB.length aC)] aD]) [0] rfl ?_ ?_)
  ·
   repeat clear hm
   intro _ _ aG aD w hm ab ac ae _
   refine gS (gS (gR (gM rfl (gM rfl (gY (yV st_176 rfl) (gB rfl (gE (go _ 11 rfl (decide_eq_true (by omega)) (gct rfl (gSk (gS (gBk (gR (gM rfl (gM rfl (gM rfl (gM rfl (gg fun aR aS aH => ?_))))))))))))))))))
   obtain ⟨af, ag, ah, he⟩ := idx_form' h1 aH
   obtain ⟨rfl, _, rfl⟩ := sl3 he
   obtain ⟨aT, aV, aW⟩ := rk_Ins_ h1 aH
   refine gI st_176 aS (idx_lt aH) rfl (gY (yn (aV.mono hm.lez) isAgg260 sizeOf260 rfl) (gCg rfl call286 (laws_toIns_ok _ aR aT (hm.now aW)) ?_))
   rintro aA ai aj w ⟨aI, rfl, hB⟩
   replace hm := hm.give hB; clear hB
   refine gg fun ak aX aE => ?_
   obtain ⟨aK, aL, am, he⟩ := idx_form' (hm.ow_rep 1 rfl) aE
   obtain ⟨rfl, _, rfl⟩ := sl3 he
   obtain ⟨an, ao, ap⟩ := rk_Ins_ (hm.ow_rep 1 rfl) aE
   have hL1_1 := rep_slice_len (hm.ow_rep 1 rfl)
   refine gI st_56 aX (idx_lt2 aE hL1_1) rfl ?_
   replace hm : Mem w0 (hp w0) _ [ow [(nV aA.op), (nV aA.to), aI, (nV aA.n_)] (aA : Ins_), ow [(sV aK aL aB.length aC)] aD] := mk_Ins_ aA.op aA.to aA.n_ hm 0 rfl
   replace hm := (hm.both 1 0 (by decide) rfl rfl).pk (L' := [both (ow [(sV aK aL aB.length aC)] aD) (ow [(nV aA.op), (nV aA.to), aI, (nV aA.n_)] (aA : Ins_))]) [1] rfl rfl
   refine gf0 rfl (fun a hf => e_putElem (x1 := (aA : Ins_)) (vs := [(nV aA.op), (nV aA.to), aI, (nV aA.n_)]) 0 hf hm rfl aE rfl sizeOf61 rfl rfl rfl rfl) ?_
   rintro _ w hm
   have aq := List.getElem?_set_self (a := (aA : Ins_)) (idx_lt aE)
   exact gE (gR (gM rfl (gP (by omega) (by omega) rfl (gA rfl (gE (gze hm [0] rfl))))))
  repeat clear hm
  intro ar au w hm aw ax
  exact gS (gS (gR (gM rfl (gM rfl (gY (yV st_176 rfl) (gB rfl (gE (go _ 11 rfl (decide_eq_false (by omega)) (gcf rfl (gXt (gHh (gS (gR (gM rfl (gA rfl (gE (gRt (gr1 results249 rfl ⟨(.slice aF aB.length aC), rfl, hm.pk [0] rfl rfl⟩))))))))))))))))))
theorem laws_toBlock_ok (w0 : World) (a_ : Block_) (v1 : Value) (h1 : GT.rep (hp w0) [v1] a_.phis) (v2 : Value) (h2 : GT.rep (hp w0) [v2] a_.ins) (v3 : Value) (h3 : GT.rep (hp w0) [v3] a_.next_) :
    ConM Tryz.prog 187 [(.agg #[v1, v2, (nV a_.jump), (nV a_.on), v3])] w0 (laws_toBlock a_) fun r v w' => ∃ (x1 : Value) (x2 : Value) (x3 : Value), v = (.agg #[x1, x2, (nV r.jump), (nV r.on), x3]) ∧ Mem w0 (hp w0) w' [ow [x1] r.phis, ow [x2] r.ins, ow [x3] r.next_] := by
  unfold laws_toBlock
  refine gcon func187 rfl fun r => ?_
  have hm := Mem.start w0
  refine gS (gR (gBx hm rfl fun aD w hm => gAl hm zeroValue59 rfl fun aE w hm => gE (gS (gR (gAl hm zeroValue59 rfl fun aF w hm => gE (gS (gR (gF fo_178_0 rfl (gL hm 2 isAgg175 rfl (gCg rfl call248 (laws_toPhiS_ok _ a_.phis v1 (hm.now h1)) ?_))))))))))
  rintro aG aH aA w ⟨_, rfl, hB⟩
  replace hm := hm.give hB; clear hB
  refine gF fo_59_0 rfl (gS1 hm 1 sizeOf55 (rep_one (hm.ow_rep 0 rfl)) rfl fun w hm => gE (gS (gR (gF fo_178_1 rfl (gL hm 3 isAgg176 rfl (gCg rfl call249 (laws_toInsS_ok _ a_.ins v2 (hm.now h2)) ?_))))))
  rintro aI aJ aB w ⟨_, rfl, hB⟩
  replace hm := hm.give hB; clear hB
  refine gF fo_59_1 rfl (gS1 hm 2 sizeOf56 (rep_one (hm.ow_rep 0 rfl)) rfl fun w hm => gE (gS (gR (gF fo_178_2 rfl (gL hm 4 isAgg3 rfl (gF fo_59_2 rfl (gS1 hm 2 sizeOf3 rfl rfl fun w hm => gE (gS (gR (gF fo_178_3 rfl (gL hm 4 isAgg3 rfl (gF fo_59_3 rfl (gS1 hm 2 sizeOf3 rfl rfl fun w hm => gE (gS (gR (gF fo_178_4 rfl (gL hm 4 isAgg57 rfl (gCg rfl call250 (laws_toIntS_ok _ a_.next_ v3 (hm.now h3)) ?_))))))))))))))))))
  rintro aK aL aC w ⟨_, rfl, hB⟩
  replace hm := hm.give hB; clear hB
  exact gF fo_59_4 rfl (gS1 hm 3 sizeOf57 (rep_one (hm.ow_rep 0 rfl)) rfl fun w hm => gE (gS (gR (gY (yn (hm.blk_at 3 rfl) isAgg59 sizeOf59 rfl) (gSN hm 4 sizeOf59 (one_cons (rep_one (hm.ow_rep 2 rfl)) (one_cons (rep_one (hm.ow_rep 1 rfl)) (one_cons rfl (one_cons rfl (one_cons (rep_one (hm.ow_rep 0 rfl)) one_nil))))) rfl fun w hm => gE (gRt (grc 4 results187 hm rfl isAgg59 sizeOf59 ⟨aA, aB, aC, rfl, hm.pk [2, 1, 0] rfl rfl⟩)))))))
theorem laws_toBlockS_ok (w0 : World) (a_ : List Block_) (v1 : Value) (h1 : GT.rep (hp w0) [v1] a_) :
    ConM Tryz.prog 120 [v1] w0 (laws_toBlockS a_) fun r v w' => ∃ (x1 : Value), v = x1 ∧ Mem w0 (hp w0) w' [ow [x1] r] := by
  unfold laws_toBlockS
  refine gcon func120 rfl fun r => ?_
  have hm := Mem.start w0
  refine gS (gR (gA rfl (gE (gS (gR (gM rfl ?_))))))
  obtain ⟨aO, aP, rfl, af⟩ := ro_slice h1
  refine gY (yV st_80 rfl) (gb fun aB aQ => ?_)
  obtain ⟨⟨aR, aS⟩, aL⟩ := makeM_some.1 aQ
  refine gf rfl (fun a hf => e_make (x0 := ((⟨[], [], 0, 0, []⟩ : Block_) : Block_)) et_42 (fun _ => ⟨[(.slice none 0 0)], [(.slice none 0 0), (nV 0), (nV 0), (.slice none 0 0)], rfl, fun _ => False, fun _ => False, fun _ h => h.elim, fun _ h => h.elim, fun _ h => h.elim, (own_list.2 (.inl ⟨rfl, rfl⟩)), ⟨[(.slice none 0 0)], [(nV 0), (nV 0), (.slice none 0 0)], rfl, fun _ => False, fun _ => False, fun _ h => h.elim, fun _ h => h.elim, fun _ h => h.elim, (own_list.2 (.inl ⟨rfl, rfl⟩)), ⟨[(nV 0)], [(nV 0), (.slice none 0 0)], rfl, fun _ => False, fun _ => False, fun _ h => h.elim, fun _ h => h.elim, fun _ h => h.elim, (Flat.own_iff.2 rfl), ⟨[(nV 0)], [(.slice none 0 0)], rfl, fun _ => False, fun _ => False, fun _ h => h.elim, fun _ h => h.elim, fun _ h => h.elim, (Flat.own_iff.2 rfl), (own_list.2 (.inl ⟨rfl, rfl⟩))⟩⟩⟩⟩) hf hm rfl rfl rfl aR (Int.le_refl _) aS) ?_
  rintro ag w hm
  rw [aL] at hm
  have h0_1l : (aB.length : Int) = (a_.length : Int) := by rw [← aL]; simp only [List.length_replicate]; omega
  refine gA rfl (gE (gS (gS (gR (gA rfl (gE ?_))))))
  obtain ⟨aF, aC, rfl, ah⟩ := ro_slice (hm.ow_rep 0 rfl)
  refine gBk (gNf hm (fun aG aD => [(0, (.slice aO a_.length aP)), (3, (.slice aF aB.length aC)), (4, (nV aG))]) (fun aG aD => [ow [(.slice aF aB.length aC)] aD]) [0] rfl ?_ ?_)
  ·
   repeat clear hm
   intro _ _ aG aD w hm ai aj ak _
   refine gS (gS (gR (gM rfl (gM rfl (gY (yV st_80 rfl) (gB rfl (gE (go _ 11 rfl (decide_eq_true (by omega)) (gct rfl (gSk (gS (gBk (gR (gM rfl (gM rfl (gM rfl (gM rfl (gg fun aT aV aH => ?_))))))))))))))))))
   obtain ⟨am, an, ao, he⟩ := idx_form' h1 aH
   obtain ⟨rfl, _, rfl⟩ := sl3 he
   obtain ⟨aW, aX, aY, aZ, aa, ab, ac⟩ := rk_Block_ h1 aH
   refine gI st_80 aV (idx_lt aH) rfl (gY (yn (aZ.mono hm.lez) isAgg178 sizeOf178 rfl) (gCg rfl call187 (laws_toBlock_ok _ aT aW (hm.now aa) aX (hm.now ab) aY (hm.now ac)) ?_))
   rintro aA ap aq w ⟨aI, aJ, aK, rfl, hB⟩
   replace hm := hm.give hB; clear hB
   refine gg fun ar ae aE => ?_
   obtain ⟨aM, aN, au, he⟩ := idx_form' (hm.ow_rep 3 rfl) aE
   obtain ⟨rfl, _, rfl⟩ := sl3 he
   obtain ⟨aw, ax, ay, az, bA, bB, bC⟩ := rk_Block_ (hm.ow_rep 3 rfl) aE
   have hL1_1 := rep_slice_len (hm.ow_rep 3 rfl)
   refine gI st_42 ae (idx_lt2 aE hL1_1) rfl ?_
   replace hm := (mk_Block_ aA.jump aA.on hm 0 1 2 rfl).pk (L' := [ow [aI, aJ, (nV aA.jump), (nV aA.on), aK] (aA : Block_), ow [(sV aM aN aB.length aC)] aD]) [0, 3] rfl rfl
   replace hm := (hm.both 1 0 (by decide) rfl rfl).pk (L' := [both (ow [(sV aM aN aB.length aC)] aD) (ow [aI, aJ, (nV aA.jump), (nV aA.on), aK] (aA : Block_))]) [1] rfl rfl
   refine gf0 rfl (fun a hf => e_putElem (x1 := (aA : Block_)) (vs := [aI, aJ, (nV aA.jump), (nV aA.on), aK]) 0 hf hm rfl aE rfl sizeOf59 rfl rfl rfl rfl) ?_
   rintro _ w hm
   have bD := List.getElem?_set_self (a := (aA : Block_)) (idx_lt aE)
   exact gE (gR (gM rfl (gP (by omega) (by omega) rfl (gA rfl (gE (gze hm [0] rfl))))))
  repeat clear hm
  intro bE bF w hm bG bH
  exact gS (gS (gR (gM rfl (gM rfl (gY (yV st_80 rfl) (gB rfl (gE (go _ 11 rfl (decide_eq_false (by omega)) (gcf rfl (gXt (gHh (gS (gR (gM rfl (gA rfl (gE (gRt (gr1 results120 rfl ⟨(.slice aF aB.length aC), rfl, hm.pk [0] rfl rfl⟩))))))))))))))))))
theorem laws_toCode_ok (w0 : World) (a_ : Code_) (v1 : Value) (h1 : GT.rep (hp w0) [v1] a_.blocks) :
    ConM Tryz.prog 70 [(.agg #[(nV a_.params), (nV a_.regs), v1])] w0 (laws_toCode a_) fun r v w' => ∃ (x1 : Value), v = (.agg #[(nV r.params), (nV r.regs), x1]) ∧ Mem w0 (hp w0) w' [ow [x1] r.blocks] := by
  unfold laws_toCode
  refine gcon func70 rfl fun r => ?_
  have hm := Mem.start w0
  refine gS (gR (gBx hm rfl fun aB w hm => gAl hm zeroValue44 rfl fun aC w hm => gE (gS (gR (gAl hm zeroValue44 rfl fun aD w hm => gE (gS (gR (gF fo_82_0 rfl (gL hm 2 isAgg3 rfl (gF fo_44_0 rfl (gS1 hm 0 sizeOf3 rfl rfl fun w hm => gE (gS (gR (gF fo_82_1 rfl (gL hm 2 isAgg3 rfl (gF fo_44_1 rfl (gS1 hm 0 sizeOf3 rfl rfl fun w hm => gE (gS (gR (gF fo_82_2 rfl (gL hm 2 isAgg80 rfl (gCg rfl call120 (laws_toBlockS_ok _ a_.blocks v1 (hm.now h1)) ?_))))))))))))))))))))))
  rintro aE aF aA w ⟨_, rfl, hB⟩
  replace hm := hm.give hB; clear hB
  exact gF fo_44_2 rfl (gS1 hm 1 sizeOf42 (rep_one (hm.ow_rep 0 rfl)) rfl fun w hm => gE (gS (gR (gY (yn (hm.blk_at 1 rfl) isAgg44 sizeOf44 rfl) (gSN hm 2 sizeOf44 (one_cons rfl (one_cons rfl (one_cons (rep_one (hm.ow_rep 0 rfl)) one_nil))) rfl fun w hm => gE (gRt (grc 2 results70 hm rfl isAgg44 sizeOf44 ⟨aA, rfl, hm.pk [0] rfl rfl⟩)))))))
theorem laws_toCodeS_ok (w0 : World) (a_ : List Code_) (v1 : Value) (h1 : GT.rep (hp w0) [v1] a_) :
    ConM Tryz.prog 29 [v1] w0 (laws_toCodeS a_) fun r v w' => ∃ (x1 : Value), v = x1 ∧ Mem w0 (hp w0) w' [ow [x1] r] := by
  unfold laws_toCodeS
  refine gcon func29 rfl fun r => ?_
  have hm := Mem.start w0
  refine gS (gR (gA rfl (gE (gS (gR (gM rfl ?_))))))
  obtain ⟨aM, aN, rfl, aY⟩ := ro_slice h1
  refine gY (yV st_22 rfl) (gb fun aB aO => ?_)
  obtain ⟨⟨aP, aQ⟩, aJ⟩ := makeM_some.1 aO
  refine gf rfl (fun a hf => e_make (x0 := ((⟨0, 0, []⟩ : Code_) : Code_)) et_26 (fun _ => ⟨[(nV 0)], [(nV 0), (.slice none 0 0)], rfl, fun _ => False, fun _ => False, fun _ h => h.elim, fun _ h => h.elim, fun _ h => h.elim, (Flat.own_iff.2 rfl), ⟨[(nV 0)], [(.slice none 0 0)], rfl, fun _ => False, fun _ => False, fun _ h => h.elim, fun _ h => h.elim, fun _ h => h.elim, (Flat.own_iff.2 rfl), (own_list.2 (.inl ⟨rfl, rfl⟩))⟩⟩) hf hm rfl rfl rfl aP (Int.le_refl _) aQ) ?_
  rintro aZ w hm
  rw [aJ] at hm
  have h0_1l : (aB.length : Int) = (a_.length : Int) := by rw [← aJ]; simp only [List.length_replicate]; omega
  refine gA rfl (gE (gS (gS (gR (gA rfl (gE ?_))))))
  obtain ⟨aF, aC, rfl, aa⟩ := ro_slice (hm.ow_rep 0 rfl)
  refine gBk (gNf hm (fun aG aD => [(0, (.slice aM a_.length aN)), (3, (.slice aF aB.length aC)), (4, (nV aG))]) (fun aG aD => [ow [(.slice aF aB.length aC)] aD]) [0] rfl ?_ ?_)
  ·
   repeat clear hm
   intro _ _ aG aD w hm ab ac ae _
   refine gS (gS (gR (gM rfl (gM rfl (gY (yV st_22 rfl) (gB rfl (gE (go _ 11 rfl (decide_eq_true (by omega)) (gct rfl (gSk (gS (gBk (gR (gM rfl (gM rfl (gM rfl (gM rfl (gg fun aR aS aH => ?_))))))))))))))))))
   obtain ⟨af, ag, ah, he⟩ := idx_form' h1 aH
   obtain ⟨rfl, _, rfl⟩ := sl3 he
   obtain ⟨aT, aV, aW⟩ := rk_Code_ h1 aH
   refine gI st_22 aS (idx_lt aH) rfl (gY (yn (aV.mono hm.lez) isAgg82 sizeOf82 rfl) (gCg rfl call70 (laws_toCode_ok _ aR aT (hm.now aW)) ?_))
   rintro aA ai aj w ⟨aI, rfl, hB⟩
   replace hm := hm.give hB; clear hB
   refine gg fun ak aX aE => ?_
   obtain ⟨aK, aL, am, he⟩ := idx_form' (hm.ow_rep 1 rfl) aE
   obtain ⟨rfl, _, rfl⟩ := sl3 he
   obtain ⟨an, ao, ap⟩ := rk_Code_ (hm.ow_rep 1 rfl) aE
   have hL1_1 := rep_slice_len (hm.ow_rep 1 rfl)
   refine gI st_26 aX (idx_lt2 aE hL1_1) rfl ?_
   replace hm : Mem w0 (hp w0) _ [ow [(nV aA.params), (nV aA.regs), aI] (aA : Code_), ow [(sV aK aL aB.length aC)] aD] := mk_Code_ aA.params aA.regs hm 0 rfl
   replace hm := (hm.both 1 0 (by decide) rfl rfl).pk (L' := [both (ow [(sV aK aL aB.length aC)] aD) (ow [(nV aA.params), (nV aA.regs), aI] (aA : Code_))]) [1] rfl rfl
   refine gf0 rfl (fun a hf => e_putElem (x1 := (aA : Code_)) (vs := [(nV aA.params), (nV aA.regs), aI]) 0 hf hm rfl aE rfl sizeOf44 rfl rfl rfl rfl) ?_
   rintro _ w hm
   have aq := List.getElem?_set_self (a := (aA : Code_)) (idx_lt aE)
   exact gE (gR (gM rfl (gP (by omega) (by omega) rfl (gA rfl (gE (gze hm [0] rfl))))))
  repeat clear hm
  intro ar au w hm aw ax
  exact gS (gS (gR (gM rfl (gM rfl (gY (yV st_22 rfl) (gB rfl (gE (go _ 11 rfl (decide_eq_false (by omega)) (gcf rfl (gXt (gHh (gS (gR (gM rfl (gA rfl (gE (gRt (gr1 results29 rfl ⟨(.slice aF aB.length aC), rfl, hm.pk [0] rfl rfl⟩))))))))))))))))))
theorem laws_toUnit_ok (w0 : World) (a_ : Unit_) (v1 : Value) (h1 : GT.rep (hp w0) [v1] a_.codes) :
    ConM Tryz.prog 11 [(.agg #[v1])] w0 (laws_toUnit a_) fun r v w' => ∃ (x1 : Value), v = (.agg #[x1]) ∧ Mem w0 (hp w0) w' [ow [x1] r.codes] := by
  unfold laws_toUnit
  refine gcon func11 rfl fun r => ?_
  have hm := Mem.start w0
  refine gS (gR (gBx hm rfl fun aB w hm => gAl hm zeroValue28 rfl fun aC w hm => gE (gS (gR (gAl hm zeroValue28 rfl fun aD w hm => gE (gS (gR (gF fo_24_0 rfl (gL hm 2 isAgg22 rfl (gCg rfl call29 (laws_toCodeS_ok _ a_.codes v1 (hm.now h1)) ?_))))))))))
  rintro aE aF aA w ⟨_, rfl, hB⟩
  replace hm := hm.give hB; clear hB
  exact gF fo_28_0 rfl (gS1 hm 1 sizeOf26 (rep_one (hm.ow_rep 0 rfl)) rfl fun w hm => gE (gS (gR (gY (yn (hm.blk_at 1 rfl) isAgg28 sizeOf28 rfl) (gSN hm 2 sizeOf28 (one_cons (rep_one (hm.ow_rep 0 rfl)) one_nil) rfl fun w hm => gE (gRt (grc 2 results11 hm rfl isAgg28 sizeOf28 ⟨aA, rfl, hm.pk [0] rfl rfl⟩)))))))
theorem spec_l1In_ok (w0 : World) (n_ : Int) (low : Int) (high : Int) :
    ConM Tryz.prog 39 [(nV n_), (nV low), (nV high)] w0 (spec_l1In n_ low high) fun r v w' => v = (.bool (r)) ∧ Below w0.heap.size w0 w' := by
  unfold spec_l1In
  refine gcon func39 rfl fun r => ?_
  have hm := Mem.start w0
  refine gS (gR (gA rfl (gE (gS (gJ hm (fun aA => [(6, (.bool (aA)))]) (fun aA => []) (fun aA => ?_) ?_)))))
  ·
   refine gR (gM rfl (gM rfl (gB rfl (gM rfl (gsd 10 rfl (fun aB => ?_) fun aB => ?_)))))
   ·
    exact gM rfl (gM rfl (gB rfl (gKt rfl (gA rfl (gE (gz hm [] rfl))))))
   exact gO rfl (gO rfl (gO rfl (gKf rfl (gA rfl (gE (gz hm [] rfl))))))
  repeat clear hm
  intro aA w hm
  exact gRt (gr1 results39 rfl ⟨rfl, hm.below⟩)
theorem spec_l7Regs_ok (w0 : World) (c_ : Code_) (v1 : Value) (h1 : GT.rep (hp w0) [v1] c_.blocks) (list : List Int) (v2 : Value) (h2 : GT.rep (hp w0) [v2] list) :
    ConM Tryz.prog 114 [(.agg #[(nV c_.params), (nV c_.regs), v1]), v2] w0 (spec_l7Regs c_ list) fun r v w' => v = (.bool (r)) ∧ Below w0.heap.size w0 w' := by
  unfold spec_l7Regs
  refine gcon func114 rfl fun r => ?_
  have hm := Mem.start w0
  refine gS (gR (gBx hm rfl fun aA w hm => gA rfl (gE (gS (gS (gR (gA rfl (gE (gBk (gNf hm (fun aB aD => [(1, v2), (2, (pV aA)), (5, (nV aB))]) (fun aB aD => [blk aA [(nV c_.params), (nV c_.regs), v1] 44]) [0] rfl ?_ ?_))))))))))
  ·
   repeat clear hm
   intro aK aF aB aD w hm aL aM aN aG
   refine gS (gS (gR (gM rfl (gM rfl ?_))))
   obtain ⟨aO, aP, rfl, aQ⟩ := ro_slice h2
   refine gY (yV st_57 rfl) (gB rfl (gE (go _ 9 rfl (decide_eq_true (by omega)) (gct rfl (gSk (gS (gBk (gS (gW (.p 0 (.p 1 (.p 2 (.p 4 (.q 3 (.e 5 (.p 6 (.e 7 (.p 8 .fin) .nil)) .nil)))))) [5] [0, 1, 2, 4, 6, 8] hm [0] [blk aA [(nV c_.params), (nV c_.regs), v1] 44] rfl mxo (by kernel_rfl) (fun _ _ _ h => h.2) fun w hm hS => tP rfl (fun w => yM rfl) (tP rfl (fun w => yM rfl) (gg fun aE aH aC => ?_)))))))))))
   obtain ⟨aR, aS, aT, he⟩ := idx_form h2 aC
   obtain ⟨rfl, _, rfl⟩ := sl3 he
   refine tP rfl (fun w => yI st_57 aH (idx_lt aC) rfl) (tP rfl (fun w => yF fo_44_1 rfl) (tQ rfl hS (fun w hm => yl isAgg3 ((flat_cells (cs := [(nV aE)]) (hm.now h2) aC rfl).cell (j := 0) rfl) rfl) (tO (tY rfl (yL hm 0 isAgg3 rfl) (tAs hS (tP rfl (fun w => yB rfl) (tO (gb fun aV aI => tf rfl rfl (fun a hf => e_call hf rfl call39 rfl (spec_l1In_ok _ aE 0 (w64 (c_.regs - 1)) _ aI)) ?_))))))))
   rintro aW w ⟨rfl, hB⟩
   replace hm := hm.below' hB; clear hB
   refine tAn rfl (tP rfl (fun w => yN rfl) (tE (gsn 20 rfl (fun aJ => ?_) fun aJ => ?_)))
   ·
    exact gct rfl (gS (gR (gA rfl (gE (gRt (gLr aG aF (gr1 results114 rfl ⟨rfl, hm.below⟩)))))))
   exact gcf rfl (gSk (gR (gM rfl (gP (by omega) (by omega) rfl (gA rfl (gE (gze hm [0] rfl)))))))
  repeat clear hm
  intro aX aY w hm aZ aa
  refine gS (gS (gR (gM rfl (gM rfl ?_))))
  obtain ⟨ab, ac, rfl, ae⟩ := ro_slice h2
  exact gY (yV st_57 rfl) (gB rfl (gE (go _ 9 rfl (decide_eq_false (by omega)) (gcf rfl (gXt (gHh (gS (gR (gA rfl (gE (gRt (gr1 results114 rfl ⟨rfl, hm.below⟩))))))))))))
theorem spec_l7Makes_ok (w0 : World) (op : Int) :
    ConM Tryz.prog 136 [(nV op)] w0 (spec_l7Makes op) fun r v w' => v = (.bool (r)) ∧ Below w0.heap.size w0 w' := by
  unfold spec_l7Makes
  refine gcon func136 rfl fun r => ?_
  have hm := Mem.start w0
  refine gS (gR (gA rfl (gE (gS (gJ hm (fun aA => [(2, (.bool (aA)))]) (fun aA => []) (fun aA => ?_) ?_)))))
  ·
   refine gR (gM rfl (gC hm rfl call39 (spec_l1In_ok _ op 1 14) fun aD aE w hm => gM rfl (gs 5 rfl (fun aB => ?_) fun aB => ?_)))
   ·
    refine gM rfl (gB rfl (gKt rfl (gM rfl (gsd 9 rfl (fun aC => ?_) fun aC => ?_))))
    ·
     exact gM rfl (gB rfl (gKt rfl (gA rfl (gE (gz hm [] rfl)))))
    exact gO rfl (gO rfl (gKf rfl (gA rfl (gE (gz hm [] rfl)))))
   exact gO rfl (gO rfl (gKf rfl (gM rfl (gO rfl (gO rfl (gKf rfl (gA rfl (gE (gz hm [] rfl)))))))))
  repeat clear hm
  intro aA w hm
  exact gRt (gr1 results136 rfl ⟨rfl, hm.below⟩)
theorem spec_l7Args_ok (w0 : World) (op : Int) :
    ConM Tryz.prog 186 [(nV op)] w0 (spec_l7Args op) fun r v w' => v = (nV r) ∧ Below w0.heap.size w0 w' := by
  unfold spec_l7Args
  refine gcon func186 rfl fun r => ?_
  have hm := Mem.start w0
  refine gS (gR (gA rfl (gE (gS (gBk (gS (gR (gM rfl (gB rfl (gA rfl (gE (gsd 3 rfl (fun aC => ?_) fun aC => ?_))))))))))))
  ·
   exact gct rfl (gS (gR (gA rfl (gE (gRt (gr1 results186 rfl ⟨rfl, hm.below⟩))))))
  refine gcf rfl (gS (gJ hm (fun aA => [(0, (nV op)), (6, (.bool (aA)))]) (fun aA => []) (fun aA => ?_) ?_))
  ·
   refine gR (gM rfl (gB rfl (gM rfl (gsd 9 rfl (fun aD => ?_) fun aD => ?_))))
   ·
    exact gO rfl (gO rfl (gKt rfl (gM rfl (gO rfl (gO rfl (gKt rfl (gM rfl (gO rfl (gO rfl (gKt rfl (gA rfl (gE (gz hm [] rfl)))))))))))))
   refine gM rfl (gB rfl (gKf rfl (gM rfl (gsd 13 rfl (fun aE => ?_) fun aE => ?_))))
   ·
    exact gO rfl (gO rfl (gKt rfl (gM rfl (gO rfl (gO rfl (gKt rfl (gA rfl (gE (gz hm [] rfl)))))))))
   refine gM rfl (gB rfl (gKf rfl (gM rfl (gsd 17 rfl (fun aF => ?_) fun aF => ?_))))
   ·
    exact gO rfl (gO rfl (gKt rfl (gA rfl (gE (gz hm [] rfl)))))
   exact gM rfl (gB rfl (gKf rfl (gA rfl (gE (gz hm [] rfl)))))
  repeat clear hm
  intro aA w hm
  refine gs 6 rfl (fun aG => ?_) fun aG => ?_
  ·
   exact gct rfl (gS (gR (gA rfl (gE (gRt (gr1 results186 rfl ⟨rfl, hm.below⟩))))))
  refine gcf rfl (gS (gJ hm (fun aB => [(21, (.bool (aB)))]) (fun aB => []) (fun aB => ?_) ?_))
  ·
   refine gR (gM rfl (gC hm rfl call39 (spec_l1In_ok _ op 3 9) fun aJ aK w hm => gM rfl (gs 24 rfl (fun aH => ?_) fun aH => ?_)))
   ·
    exact gO rfl (gO rfl (gKt rfl (gA rfl (gE (gz hm [] rfl)))))
   exact gM rfl (gB rfl (gKf rfl (gA rfl (gE (gz hm [] rfl)))))
  repeat clear hm
  intro aB w hm
  refine gs 21 rfl (fun aI => ?_) fun aI => ?_
  ·
   exact gct rfl (gS (gR (gA rfl (gE (gRt (gr1 results186 rfl ⟨rfl, hm.below⟩))))))
  exact gcf rfl (gSk (gS (gR (gA rfl (gE (gRt (gr1 results186 rfl ⟨rfl, hm.below⟩)))))))
theorem spec_l7Ins_ok (w0 : World) (u : Unit_) (v1 : Value) (h1 : GT.rep (hp w0) [v1] u.codes) (k_ : Int) (x_ : Ins_) (v2 : Value) (h2 : GT.rep (hp w0) [v2] x_.args) :
    ConM Tryz.prog 113 [(.agg #[v1]), (nV k_), (.agg #[(nV x_.op), (nV x_.to), v2, (nV x_.n_)])] w0 (spec_l7Ins u k_ x_) fun r v w' => v = (.bool (r)) ∧ Below w0.heap.size w0 w' := by
  unfold spec_l7Ins
  refine gcon func113 rfl fun r => ?_
  have hm := Mem.start w0
  refine gS (gR (gBx hm rfl fun aA w hm => gBx hm rfl fun aB w hm => gA rfl (gE (gS (gR (gF fo_28_0 rfl (gL hm 1 isAgg26 rfl (gM rfl (gg fun aC aP aK => ?_)))))))))
  obtain ⟨aD, aE, aF, he⟩ := idx_form' h1 aK
  subst he
  obtain ⟨aL, aQ, aN⟩ := rk_Code_ h1 aK
  refine gI st_26 aP (idx_lt aK) rfl (gY (yn (aQ.mono hm.lez) isAgg44 sizeOf44 rfl) (gAl hm zeroValue44 rfl fun aM w hm => gSN hm 0 sizeOf44 (one_cons rfl (one_cons rfl (one_cons (rep_one aN) one_nil))) rfl fun w hm => gE (gS (gS (gJ hm (fun aG => [(1, (nV k_)), (3, (pV aA)), (5, (pV aB)), (7, (pV aM)), (23, (.bool (aG)))]) (fun aG => [blk aA [(sV aD aE u.codes.length aF)] 28, blk aB [(nV x_.op), (nV x_.to), v2, (nV x_.n_)] 61, blk aM [(nV aC.params), (nV aC.regs), aL] 44]) (fun aG => ?_) ?_)))))
  ·
   refine gR (gF fo_61_0 rfl (gL hm 1 isAgg3 rfl (gC hm rfl call39 (spec_l1In_ok _ x_.op 1 14) fun am an w hm => gN rfl (gM rfl (gsn 17 rfl (fun aR => ?_) fun aR => ?_)))))
   ·
    exact gO rfl (gO rfl (gO rfl (gO rfl (gO rfl (gKt rfl (gE (gz hm [2, 1, 0] rfl)))))))
   exact gY (yn (hm.blk_at 0 rfl) isAgg44 sizeOf44 rfl) (gF fo_61_2 rfl (gL hm 1 isAgg57 rfl (gC hm rfl call114 (spec_l7Regs_ok _ aC aL (hm.now aN) x_.args v2 (hm.now h2)) fun ao ap w hm => gN rfl (gKf rfl (gE (gz hm [2, 1, 0] rfl))))))
  repeat clear hm
  intro aG w hm
  refine gs 23 rfl (fun aS => ?_) fun aS => ?_
  ·
   exact gct rfl (gS (gR (gA rfl (gE (gRt (gr1 results113 rfl ⟨rfl, hm.below⟩))))))
  refine gcf rfl (gSk (gS (gS (gJ hm (fun aH => [(1, (nV k_)), (3, (pV aA)), (5, (pV aB)), (44, (.bool (aH)))]) (fun aH => [blk aA [(sV aD aE u.codes.length aF)] 28, blk aB [(nV x_.op), (nV x_.to), v2, (nV x_.n_)] 61]) (fun aH => ?_) ?_))))
  ·
   refine gW (.p 0 (.p 3 (.p 5 (.q 1 (.q 4 (.q 6 (.p 7 (.e 2 (.e 8 (.p 9 (.p 10 (.p 11 (.e 12 (.e 13 (.p 14 (.p 15 (.p 16 (.e 17 (.p 18 (.p 19 (.p 20 .fin))) .nil)))) .nil) .nil)))) .nil) .nil)))))))) [1, 2, 4, 6] [0, 3, 5, 7, 9, 10, 11, 14, 15, 16, 18, 19, 20] hm [0, 1, 2] [blk aA [(sV aD aE u.codes.length aF)] 28, blk aB [(nV x_.op), (nV x_.to), v2, (nV x_.n_)] 61, blk aM [(nV aC.params), (nV aC.regs), aL] 44] rfl mxo (by kernel_rfl) (fun _ _ _ h => h.2) fun w hm hS => tP rfl (fun w => yF fo_61_0 rfl) (tP rfl (fun w => yF fo_61_1 rfl) (tP rfl (fun w => yF fo_44_1 rfl) (tQ rfl hS (fun w hm => yL hm 1 isAgg3 rfl) (tQ rfl hS (fun w hm => yL hm 1 isAgg3 rfl) (tQ rfl hS (fun w hm => yL hm 2 isAgg3 rfl) (tP rfl (fun w => yB rfl) (tO (gb fun aq aT => tf rfl rfl (fun a hf => e_call hf rfl call136 rfl (spec_l7Makes_ok _ x_.op _ aT)) ?_))))))))
   rintro ar w ⟨rfl, hB⟩
   replace hm := hm.below' hB; clear hB
   refine tAk hm [0, 1, 2] rfl fun hS => tO (gb fun au aV => tf rfl rfl (fun a hf => e_call hf rfl call39 rfl (spec_l1In_ok _ x_.to 0 (w64 (aC.regs - 1)) _ aV)) ?_)
   rintro aw w ⟨rfl, hB⟩
   replace hm := hm.below' hB; clear hB
   refine tAn rfl (tP rfl (fun w => yG rfl (y_neqb underlying4 rfl rfl rfl)) (tP rfl (fun w => yM rfl) (gsd 34 rfl (fun aW => ?_) fun aW => ?_)))
   ·
    exact tPo rfl rfl (tO (tEo rfl rfl (tAn rfl (tO (tEo rfl rfl (tAn rfl (tPo rfl rfl (tPo rfl rfl (tPo rfl rfl (tO (tEo rfl rfl (tAn rfl (tPo rfl rfl (tPo rfl rfl (tP rfl (fun w => yKt rfl) (tE (gz hm [0, 1] rfl)))))))))))))))))
   refine tP rfl (fun w => yF fo_61_0 rfl) (tO (tY rfl (yL hm 1 isAgg3 rfl) (tAn rfl (tO (gb fun ax aX => tf rfl rfl (fun a hf => e_call hf rfl call136 rfl (spec_l7Makes_ok _ x_.op _ aX)) ?_)))))
   rintro ay w ⟨rfl, hB⟩
   replace hm := hm.below' hB; clear hB
   refine tAn rfl (tP rfl (fun w => yN rfl) (tP rfl (fun w => yM rfl) (gsn 39 rfl (fun aY => ?_) fun aY => ?_)))
   ·
    exact tP rfl (fun w => yF fo_61_1 rfl) (tO (tY rfl (yL hm 1 isAgg3 rfl) (tAn rfl (tP rfl (fun w => yB rfl) (tP rfl (fun w => yKt rfl) (tP rfl (fun w => yKf rfl) (tE (gz hm [0, 1] rfl))))))))
   exact tPo rfl rfl (tO (tEo rfl rfl (tAn rfl (tPo rfl rfl (tP rfl (fun w => yKf rfl) (tP rfl (fun w => yKf rfl) (tE (gz hm [0, 1] rfl))))))))
  repeat clear hm
  intro aH w hm
  refine gs 44 rfl (fun aZ => ?_) fun aZ => ?_
  ·
   exact gct rfl (gS (gR (gA rfl (gE (gRt (gr1 results113 rfl ⟨rfl, hm.below⟩))))))
  refine gcf rfl (gSk (gS (gS (gR (gF fo_61_0 rfl (gL hm 1 isAgg3 rfl (gB rfl (gE (gsd 47 rfl (fun aa => ?_) fun aa => ?_)))))))))
  ·
   refine gct rfl (gS (gJ hm (fun aI => [(6, (.bool (aI)))]) (fun aI => []) (fun aI => ?_) ?_))
   ·
    refine gW (.p 0 (.p 2 (.p 3 (.e 1 (.e 4 (.p 5 (.p 6 (.p 9 (.p 11 (.q 7 (.p 8 (.q 10 (.e 12 (.p 13 (.p 14 (.e 15 (.p 16 (.p 17 (.p 18 .fin))) .nil))) .nil)))))))) .nil) .nil)))) [7, 10, 12, 15] [0, 2, 3, 5, 6, 8, 9, 11, 13, 14, 16, 17, 18] hm [0, 1] [blk aA [(sV aD aE u.codes.length aF)] 28, blk aB [(nV x_.op), (nV x_.to), v2, (nV x_.n_)] 61] rfl mxo (by kernel_rfl) (fun _ _ _ h => h.2) fun w hm hS => tP rfl (fun w => yF fo_61_3 rfl) (tP rfl (fun w => yM rfl) (tP rfl (fun w => yB rfl) (tO (tY rfl (yL hm 1 isAgg3 rfl) (tAn rfl (tO (gb fun az ab => tf rfl rfl (fun a hf => e_call hf rfl call39 rfl (spec_l1In_ok _ x_.n_ 0 (w64 (k_ - 1)) _ ab)) ?_)))))))
    rintro bA w ⟨rfl, hB⟩
    replace hm := hm.below' hB; clear hB
    refine tAk hm [0, 1] rfl fun hS => tP rfl (fun w => yM rfl) (gs 53 rfl (fun ac => ?_) fun ac => ?_)
    ·
     refine tP rfl (fun w => yF fo_61_2 rfl) (tP rfl (fun w => yF fo_28_0 rfl) (tP rfl (fun w => yF fo_61_3 rfl) (tQ rfl hS (fun w hm => yL hm 1 isAgg57 rfl) ?_)))
     obtain ⟨bB, bC, rfl, bD⟩ := ro_slice h2
     refine tP rfl (fun w => yV st_57 rfl) (tQ rfl hS (fun w hm => yL hm 0 isAgg26 rfl) (tO (tY rfl (yL hm 1 isAgg3 rfl) (tAs hS (gg fun bE ae aO => ?_)))))
     obtain ⟨bF, af, bG⟩ := rk_Code_ h1 aO
     exact tP rfl (fun w => yI st_26 ae (idx_lt aO) rfl) (tP rfl (fun w => yF fo_44_0 rfl) (tO (tY rfl (yl isAgg3 ((af.mono hm.lez).cell (j := 0) rfl) rfl) (tAs hS (tP rfl (fun w => yB rfl) (tP rfl (fun w => yKt rfl) (tP rfl (fun w => yA rfl) (tE (gz hm [] rfl)))))))))
    exact tPo rfl rfl (tPo rfl rfl (tPo rfl rfl (tQo rfl hS rfl (tPo rfl rfl (tQo rfl hS rfl (tO (tEo rfl rfl (tAs hS (tPo rfl rfl (tPo rfl rfl (tO (tEo rfl rfl (tAs hS (tPo rfl rfl (tP rfl (fun w => yKf rfl) (tP rfl (fun w => yA rfl) (tE (gz hm [] rfl))))))))))))))))))
   repeat clear hm
   intro aI w hm
   exact gRt (gr1 results113 rfl ⟨rfl, hm.below⟩)
  refine gcf rfl (gSk (gS (gJ hm (fun aJ => [(6, (.bool (aJ)))]) (fun aJ => []) (fun aJ => ?_) ?_)))
  ·
   refine gW (.p 0 (.p 3 (.q 1 (.p 2 (.e 4 (.e 5 (.p 6 (.p 7 (.p 8 (.e 9 (.e 10 (.p 11 (.p 12 (.p 13 (.e 14 (.p 15 (.p 16 (.p 17 (.e 18 (.p 19 (.p 20 (.p 21 (.p 22 .fin)))) .nil)))) .nil)))) .nil) .nil)))) .nil) .nil))))) [4, 5] [0, 2, 3, 6, 7, 8, 11, 12, 13, 15, 16, 17, 19, 20, 21, 22] hm [0, 1] [blk aA [(sV aD aE u.codes.length aF)] 28, blk aB [(nV x_.op), (nV x_.to), v2, (nV x_.n_)] 61] rfl mxo (by kernel_rfl) (fun _ _ _ h => h.2) fun w hm hS => tP rfl (fun w => yF fo_61_2 rfl) (tP rfl (fun w => yF fo_61_0 rfl) (tQ rfl hS (fun w hm => yL hm 1 isAgg57 rfl) ?_))
   obtain ⟨bH, bJ, rfl, bK⟩ := ro_slice h2
   refine tP rfl (fun w => yV st_57 rfl) (tO (tY rfl (yL hm 1 isAgg3 rfl) (tAs hS (tO (gb fun bL ag => tf rfl rfl (fun a hf => e_call hf rfl call186 rfl (spec_l7Args_ok _ x_.op _ ag)) ?_)))))
   rintro bM w ⟨rfl, hB⟩
   replace hm := hm.below' hB; clear hB
   refine tAk hm [0, 1] rfl fun hS => tP rfl (fun w => yB rfl) (tP rfl (fun w => yM rfl) (gsd 73 rfl (fun ah => ?_) fun ah => ?_))
   ·
    refine tP rfl (fun w => yF fo_61_3 rfl) (tO (tY rfl (yL hm 1 isAgg3 rfl) (tAn rfl (tO (gb fun bN ai => tf rfl rfl (fun a hf => e_call hf rfl call39 rfl (spec_l1In_ok _ x_.n_ 0 255 _ ai)) ?_)))))
    rintro bO w ⟨rfl, hB⟩
    replace hm := hm.below' hB; clear hB
    refine tAn rfl (tP rfl (fun w => yKt rfl) (tP rfl (fun w => yM rfl) (gs 78 rfl (fun aj => ?_) fun aj => ?_)))
    ·
     refine tP rfl (fun w => yF fo_61_3 rfl) (tO (tY rfl (yL hm 1 isAgg3 rfl) (tAn rfl (tP rfl (fun w => yB rfl) (tP rfl (fun w => yM rfl) (gsd 82 rfl (fun ak => ?_) fun ak => ?_))))))
     ·
      exact tPo rfl rfl (tO (tEo rfl rfl (tAn rfl (tPo rfl rfl (tP rfl (fun w => yKt rfl) (tP rfl (fun w => yKt rfl) (tP rfl (fun w => yA rfl) (tE (gz hm [] rfl)))))))))
     exact tP rfl (fun w => yF fo_61_0 rfl) (tO (tY rfl (yL hm 1 isAgg3 rfl) (tAn rfl (tP rfl (fun w => yB rfl) (tP rfl (fun w => yKf rfl) (tP rfl (fun w => yKt rfl) (tP rfl (fun w => yA rfl) (tE (gz hm [] rfl)))))))))
    exact tPo rfl rfl (tO (tEo rfl rfl (tAn rfl (tPo rfl rfl (tPo rfl rfl (tPo rfl rfl (tO (tEo rfl rfl (tAn rfl (tPo rfl rfl (tPo rfl rfl (tP rfl (fun w => yKf rfl) (tP rfl (fun w => yA rfl) (tE (gz hm [] rfl)))))))))))))))
   exact tPo rfl rfl (tO (tEo rfl rfl (tAn rfl (tO (tEo rfl rfl (tAn rfl (tP rfl (fun w => yKf rfl) (tP rfl (fun w => yM rfl) (tPo rfl rfl (tO (tEo rfl rfl (tAn rfl (tPo rfl rfl (tPo rfl rfl (tPo rfl rfl (tO (tEo rfl rfl (tAn rfl (tPo rfl rfl (tPo rfl rfl (tP rfl (fun w => yKf rfl) (tP rfl (fun w => yA rfl) (tE (gz hm [] rfl))))))))))))))))))))))))
  repeat clear hm
  intro aJ w hm
  exact gRt (gr1 results113 rfl ⟨rfl, hm.below⟩)
theorem spec_l7Preds_ok (w0 : World) (c_ : Code_) (v1 : Value) (h1 : GT.rep (hp w0) [v1] c_.blocks) (b_ : Int) :
    ConM Tryz.prog 66 [(.agg #[(nV c_.params), (nV c_.regs), v1]), (nV b_)] w0 (spec_l7Preds c_ b_) fun r v w' => ∃ (x1 : Value), v = x1 ∧ Mem w0 (hp w0) w' [ow [x1] r] := by
  unfold spec_l7Preds
  refine gcon func66 rfl fun r => ?_
  have hm := Mem.start w0
  refine gS (gR (gBx hm rfl fun aB w hm => gA rfl (gE (gS (gR (gf rfl (fun a hf => e_build0 (α := Int) et_57 hm rfl) ?_))))))
  rintro af w hm
  refine gA rfl (gE (gS (gS (gR (gA rfl (gE ?_))))))
  obtain ⟨aS, aT, rfl, ag⟩ := ro_slice (hm.ow_rep 0 rfl)
  refine gBk (gNg (fun aA aC a w => ∃ (aF : Value), St 43 [(1, (nV b_)), (2, (pV aB)), (5, aF), (6, (nV aA))] w0 (hp w0) [blk aB [(nV c_.params), (nV c_.regs), v1] 44, ow [aF] aC] a w) (fun a hf => ⟨(.slice aS ([] : List Int).length aT), hf.sb rfl, hm.pk [1, 0] rfl rfl⟩) ?_ ?_)
  ·
   repeat clear hm
   rintro _ _ aA aC a w ⟨aF, hf, hm⟩ ah ai aj _
   refine gv hf (gS (gS (gR (gM rfl (gF fo_44_2 rfl (gL hm 0 isAgg42 rfl ?_))))))
   obtain ⟨aM, aN, rfl, ak⟩ := ro_slice h1
   refine gY (yV st_42 rfl) (gB rfl (gE (go _ 13 rfl (decide_eq_true (by omega)) (gct rfl (gSk (gS (gBk (gS (gR (gA rfl (gE ?_)))))))))))
   obtain ⟨aG, aH, rfl, am⟩ := ro_slice (hm.ow_rep 1 rfl)
   refine gJg (fun aI a w => ∃ (aD : Value), St 43 [(1, (nV b_)), (2, (pV aB)), (5, aD), (6, (nV aA))] w0 (hp w0) [blk aB [(nV c_.params), (nV c_.regs), (.slice aM c_.blocks.length aN)] 44, ow [aD] aI] a w) (fun aI => ?_) ?_
   ·
    refine gBk (gMf hm (fun aJ => [(1, (nV b_)), (2, (pV aB)), (5, (.slice aG aC.length aH)), (6, (nV aA)), (7, (nV aJ))]) (fun aJ => [blk aB [(nV c_.params), (nV c_.regs), (.slice aM c_.blocks.length aN)] 44, ow [(.slice aG aC.length aH)] aC]) [0, 1] rfl ?_)
    repeat clear hm
    intro an aO aJ w hm ao aP
    refine gS (gS (gR (gM rfl (gF fo_44_2 rfl (gL hm 0 isAgg42 rfl (gM rfl (gg fun ap aQ aE => ?_)))))))
    obtain ⟨aq, ar, au, he⟩ := idx_form' h1 aE
    obtain ⟨rfl, _, rfl⟩ := sl3 he
    obtain ⟨aw, ax, ay, aR, az, bA, aK⟩ := rk_Block_ h1 aE
    refine gI st_42 aQ (idx_lt aE) rfl (gF fo_59_4 rfl (gY (yl isAgg57 ((aR.mono hm.lez).cell (j := 4) rfl) rfl) ?_))
    obtain ⟨bB, bC, rfl, bD⟩ := ro_slice aK
    refine gY (yV st_57 rfl) (gB rfl (gE (gsd 24 rfl (fun aV => ?_) fun aV => ?_)))
    ·
     refine gct rfl (gSk (gS (gBk (gS (gR (gF fo_44_2 rfl (gL hm 0 isAgg42 rfl (gM rfl (gI st_42 aQ (idx_lt aE) rfl (gF fo_59_4 rfl (gY (yl isAgg57 ((aR.mono hm.lez).cell (j := 4) rfl) rfl) (gM rfl (gg fun aW aX aL => ?_)))))))))))))
     obtain ⟨bE, bF, bG, he⟩ := idx_form aK aL
     obtain ⟨rfl, _, rfl⟩ := sl3 he
     refine gI st_57 aX (idx_lt aL) rfl (gY (yl isAgg3 ((flat_cells (cs := [(nV aW)]) (hm.now aK) aL rfl).cell (j := 0) rfl) rfl) (gM rfl (gB rfl (gE (gsd 37 rfl (fun aY => ?_) fun aY => ?_)))))
     ·
      refine gct rfl (gS (gR (gM rfl (gM rfl (gf rfl (fun a hf => e_build (vs := #[(0, (nV aA))]) (cs := [(nV aA)]) et_57 hf hm rfl rfl (by kernel_rfl) rfl rfl) ?_)))))
      rintro _ w ⟨bH, rfl, hm⟩
      replace hm := hm.lit (xs := ([aA] : List Int)) 0 rfl rfl rfl rfl
      refine gb fun bJ aZ => ?_
      obtain ⟨aa, ab⟩ := appM_some.1 aZ
      refine gf rfl (fun a hf => e_append 2 et_57 hf hm rfl (hm.ow_rep 0 rfl) rfl rfl rfl aa) ?_
      rintro ac w hm
      rw [ab] at hm
      exact gA rfl (gE (gXt (gHm rfl (gHh (gLp aP aO (gZ fun a hf => ⟨ac, hf.sb rfl, hm.pk [1, 2] rfl rfl⟩))))))
     exact gcf rfl (gSk (gR (gM rfl (gB rfl (gA rfl (gE (gze hm [0, 1] rfl)))))))
    exact gcf rfl (gXt (gHh (gLp aP aO (gZ fun a hf => ⟨(.slice aG aC.length aH), hf.sb rfl, hm.pk [0, 1] rfl rfl⟩))))
   repeat clear hm
   rintro aI a w ⟨aD, hf, hm⟩
   exact gv hf (gR (gM rfl (gP (by omega) (by omega) rfl (gA rfl (gE (gZe fun a hf => ⟨aD, hf.sb rfl, hm.pk [0, 1] rfl rfl⟩))))))
  repeat clear hm
  rintro bK bL a w ⟨ae, hf, hm⟩ bM bN
  refine gv hf (gS (gS (gR (gM rfl (gF fo_44_2 rfl (gL hm 0 isAgg42 rfl ?_))))))
  obtain ⟨bO, bP, rfl, bQ⟩ := ro_slice h1
  exact gY (yV st_42 rfl) (gB rfl (gE (go _ 13 rfl (decide_eq_false (by omega)) (gcf rfl (gXt (gHh (gS (gR (gM rfl (gA rfl (gE (gRt (gr1 results66 rfl ⟨ae, rfl, hm.pk [1] rfl rfl⟩)))))))))))))
theorem spec_l7Block_ok (w0 : World) (u : Unit_) (v1 : Value) (h1 : GT.rep (hp w0) [v1] u.codes) (k_ : Int) (b_ : Int) :
    ConM Tryz.prog 63 [(.agg #[v1]), (nV k_), (nV b_)] w0 (spec_l7Block u k_ b_) fun r v w' => v = (.bool (r)) ∧ Below w0.heap.size w0 w' := by
  unfold spec_l7Block
  refine gcon func63 rfl fun r => ?_
  have hm := Mem.start w0
  refine gS (gR (gBx hm rfl fun aE w hm => gA rfl (gE (gS (gR (gF fo_28_0 rfl (gL hm 0 isAgg26 rfl (gM rfl (gg fun aB bE af => ?_)))))))))
  obtain ⟨aI, aJ, aK, he⟩ := idx_form' h1 af
  subst he
  obtain ⟨br, bF, aO⟩ := rk_Code_ h1 af
  refine gI st_26 bE (idx_lt af) rfl (gY (yn (bF.mono hm.lez) isAgg44 sizeOf44 rfl) (gAl hm zeroValue44 rfl fun aC w hm => gSN hm 0 sizeOf44 (one_cons rfl (one_cons rfl (one_cons (rep_one aO) one_nil))) rfl fun w hm => gE (gS (gR (gF fo_44_2 rfl (gL hm 0 isAgg42 rfl (gM rfl (gg fun aA bG ag => ?_))))))))
  obtain ⟨aF, aG, aH, he⟩ := idx_form' aO ag
  subst he
  obtain ⟨aL, aN, aQ, bH, aR, aS, aP⟩ := rk_Block_ aO ag
  refine gI st_42 bG (idx_lt ag) rfl (gY (yn (bH.mono hm.lez) isAgg59 sizeOf59 rfl) (gAl hm zeroValue59 rfl fun aD w hm => gSN hm 0 sizeOf59 (one_cons (rep_one aR) (one_cons (rep_one aS) (one_cons rfl (one_cons rfl (one_cons (rep_one aP) one_nil))))) rfl fun w hm => gE (gS (gR (gA rfl (gE (gS (gS (gR (gF fo_59_2 rfl (gL hm 0 isAgg3 rfl (gE (gJge (fun aZ a w => 0 ≤ aA.jump ∧ aA.jump ≤ 3 ∧ 0 ≤ aZ ∧ aZ ≤ 2 ∧ St 136 [(1, (nV k_)), (2, (nV b_)), (3, (pV aE)), (7, (pV aC)), (8, (pV aD)), (9, (nV aZ))] w0 (hp w0) [blk aE [(sV aI aJ u.codes.length aK)] 28, blk aC [(nV aB.params), (nV aB.regs), (sV aF aG aB.blocks.length aH)] 44, blk aD [aL, aN, (nV aA.jump), (nV aA.on), aQ] 59] a w) (fun bs au => ?_) ?_)))))))))))))
  ·
   refine gBk (gS (gR (gB rfl (gA rfl (gE (gJge (fun aa a w => 0 ≤ aA.jump ∧ aA.jump ≤ 3 ∧ 0 ≤ aa ∧ aa ≤ 2 ∧ St 136 [(1, (nV k_)), (2, (nV b_)), (3, (pV aE)), (7, (pV aC)), (8, (pV aD)), (9, (nV aa))] w0 (hp w0) [blk aE [(sV aI aJ u.codes.length aK)] 28, blk aC [(nV aB.params), (nV aB.regs), (sV aF aG aB.blocks.length aH)] 44, blk aD [aL, aN, (nV aA.jump), (nV aA.on), aQ] 59] a w) (fun bt aw => ?_) ?_))))))
   ·
    refine gsd 26 rfl (fun bJ => ?_) fun bJ => ?_
    ·
     refine gct rfl (gS (gR (gF fo_59_3 rfl (gL hm 0 isAgg3 rfl (gB rfl (gE (gsd 30 rfl (fun bK => ?_) fun bK => ?_)))))))
     ·
      exact gct rfl (gS (gR (gA rfl (gE (gRt (gEr aw (gEr au (gr1 results63 rfl ⟨rfl, hm.below⟩))))))))
     exact gcf rfl (gSk (gZe fun a hf => ⟨(by first | omega | (dsimp only; omega)), (by first | omega | (dsimp only; omega)), (by first | omega | (dsimp only; omega)), (by first | omega | (dsimp only; omega)), hf.sb rfl, hm.pk [2, 1, 0] rfl rfl⟩))
    refine gcf rfl (gS (gR (gB rfl (gA rfl (gE (gJge (fun ab a w => 0 ≤ aA.jump ∧ aA.jump ≤ 3 ∧ 0 ≤ ab ∧ ab ≤ 2 ∧ St 136 [(1, (nV k_)), (2, (nV b_)), (3, (pV aE)), (7, (pV aC)), (8, (pV aD)), (9, (nV ab))] w0 (hp w0) [blk aE [(sV aI aJ u.codes.length aK)] 28, blk aC [(nV aB.params), (nV aB.regs), (sV aF aG aB.blocks.length aH)] 44, blk aD [aL, aN, (nV aA.jump), (nV aA.on), aQ] 59] a w) (fun bu bL => ?_) ?_))))))
    ·
     refine gsd 31 rfl (fun bM => ?_) fun bM => ?_
     ·
      exact gct rfl (gR (gA rfl (gE (gZe fun a hf => ⟨(by first | omega | (dsimp only; omega)), (by first | omega | (dsimp only; omega)), (by first | omega | (dsimp only; omega)), (by first | omega | (dsimp only; omega)), hf.sb rfl, hm.pk [2, 1, 0] rfl rfl⟩))))
     refine gcf rfl (gS (gR (gB rfl (gA rfl (gE (gsd 33 rfl (fun bN => ?_) fun bN => ?_))))))
     ·
      exact gct rfl (gR (gA rfl (gE (gZe fun a hf => ⟨(by first | omega | (dsimp only; omega)), (by first | omega | (dsimp only; omega)), (by first | omega | (dsimp only; omega)), (by first | omega | (dsimp only; omega)), hf.sb rfl, hm.pk [2, 1, 0] rfl rfl⟩))))
     exact gcf rfl (gS (gR (gA rfl (gE (gRt (gEr bL (gEr aw (gEr au (gr1 results63 rfl ⟨rfl, hm.below⟩)))))))))
    repeat clear hm
    rintro ab a w ⟨bv, bw, bx, bz, hf, hm⟩
    exact gv hf (gZe fun a hf => ⟨(by first | omega | (dsimp only; omega)), (by first | omega | (dsimp only; omega)), (by first | omega | (dsimp only; omega)), (by first | omega | (dsimp only; omega)), hf.sb rfl, hm.pk [0, 1, 2] rfl rfl⟩)
   repeat clear hm
   rintro aa a w ⟨cA, cB, cC, cD, hf, hm⟩
   exact gv hf (gZe fun a hf => ⟨(by first | omega | (dsimp only; omega)), (by first | omega | (dsimp only; omega)), (by first | omega | (dsimp only; omega)), (by first | omega | (dsimp only; omega)), hf.sb rfl, hm.pk [0, 1, 2] rfl rfl⟩)
  repeat clear hm
  rintro aZ a w ⟨cE, cF, cG, cH, hf, hm⟩
  refine gv hf (gS (gS (gJg (fun ah a w => 0 ≤ aA.jump ∧ aA.jump ≤ 3 ∧ St 136 [(1, (nV k_)), (2, (nV b_)), (3, (pV aE)), (7, (pV aC)), (8, (pV aD)), (53, (.bool (ah)))] w0 (hp w0) [blk aE [(sV aI aJ u.codes.length aK)] 28, blk aC [(nV aB.params), (nV aB.regs), (sV aF aG aB.blocks.length aH)] 44, blk aD [aL, aN, (nV aA.jump), (nV aA.on), aQ] 59] a w) (fun ah => ?_) ?_)))
  ·
   refine gR (gF fo_59_4 rfl (gL hm 2 isAgg57 rfl ?_))
   obtain ⟨cI, cJ, rfl, cK⟩ := ro_slice aP
   refine gY (yV st_57 rfl) (gM rfl (gB rfl (gM rfl (gsd 40 rfl (fun bO => ?_) fun bO => ?_))))
   ·
    exact gO rfl (gO rfl (gO rfl (gO rfl (gO rfl (gO rfl (gO rfl (gO rfl (gO rfl (gO rfl (gO rfl (gO rfl (gKt rfl (gE (gZ fun a hf => ⟨(by first | omega | (dsimp only; omega)), (by first | omega | (dsimp only; omega)), hf.sb rfl, hm.pk [0, 1, 2] rfl rfl⟩))))))))))))))
   refine gF fo_59_2 rfl (gL hm 2 isAgg3 rfl (gB rfl (gM rfl (gsd 44 rfl (fun bP => ?_) fun bP => ?_))))
   ·
    exact gF fo_59_3 rfl (gL hm 2 isAgg3 rfl (gF fo_44_1 rfl (gL hm 1 isAgg3 rfl (gB rfl (gC hm rfl call39 (spec_l1In_ok _ aA.on 0 (w64 (aB.regs - 1))) fun cL cM w hm => gN rfl (gKt rfl (gKf rfl (gE (gZ fun a hf => ⟨(by first | omega | (dsimp only; omega)), (by first | omega | (dsimp only; omega)), hf.sb rfl, hm.pk [0, 1, 2] rfl rfl⟩)))))))))
   exact gO rfl (gO rfl (gO rfl (gO rfl (gO rfl (gO rfl (gO rfl (gKf rfl (gKf rfl (gE (gZ fun a hf => ⟨(by first | omega | (dsimp only; omega)), (by first | omega | (dsimp only; omega)), hf.sb rfl, hm.pk [0, 1, 2] rfl rfl⟩))))))))))
  repeat clear hm
  rintro ah a w ⟨cN, cO, hf, hm⟩
  refine gv hf (gs 53 rfl (fun bQ => ?_) fun bQ => ?_)
  ·
   exact gct rfl (gS (gR (gA rfl (gE (gRt (gr1 results63 rfl ⟨rfl, hm.below⟩))))))
  refine gcf rfl (gSk (gS (gS (gR (gA rfl (gE (gBk (gNf hm (fun ai ax => [(1, (nV k_)), (2, (nV b_)), (3, (pV aE)), (7, (pV aC)), (8, (pV aD)), (10, (nV ai))]) (fun ai ax => [blk aE [(sV aI aJ u.codes.length aK)] 28, blk aC [(nV aB.params), (nV aB.regs), (sV aF aG aB.blocks.length aH)] 44, blk aD [aL, aN, (nV aA.jump), (nV aA.on), aQ] 59]) [0, 1, 2] rfl ?_ ?_))))))))
  ·
   repeat clear hm
   intro cP bR ai ax w hm cQ cR cS bS
   refine gS (gS (gR (gM rfl (gF fo_59_4 rfl (gL hm 2 isAgg57 rfl ?_)))))
   obtain ⟨bT, bU, rfl, cT⟩ := ro_slice aP
   refine gY (yV st_57 rfl) (gB rfl (gE (go _ 58 rfl (decide_eq_true (by omega)) (gct rfl (gSk (gS (gBk (gS (gW (.p 0 (.p 2 (.p 5 (.q 1 (.p 3 (.q 4 (.e 6 (.p 7 (.p 8 (.e 9 (.p 10 .fin) .nil))) .nil))))))) [6] [0, 2, 3, 5, 7, 8, 10] hm [0, 1, 2] [blk aE [(sV aI aJ u.codes.length aK)] 28, blk aC [(nV aB.params), (nV aB.regs), (sV aF aG aB.blocks.length aH)] 44, blk aD [aL, aN, (nV aA.jump), (nV aA.on), (.slice bT aA.next_.length bU)] 59] rfl mxo (by kernel_rfl) (fun _ _ _ h => h.2) fun w hm hS => tP rfl (fun w => yF fo_59_4 rfl) (tP rfl (fun w => yM rfl) (tP rfl (fun w => yF fo_44_2 rfl) (tQ rfl hS (fun w hm => yL hm 2 isAgg57 rfl) (gg fun ay bV aj => ?_)))))))))))))
   obtain ⟨cU, cV, cW, he⟩ := idx_form aP aj
   obtain ⟨rfl, _, rfl⟩ := sl3 he
   refine tP rfl (fun w => yI st_57 bV (idx_lt aj) rfl) (tQ rfl hS (fun w hm => yl isAgg3 ((flat_cells (cs := [(nV ay)]) (hm.now aP) aj rfl).cell (j := 0) rfl) rfl) (tO (tY rfl (yL hm 1 isAgg42 rfl) (tAs hS ?_))))
   have cX := rep_len aO
   refine tP rfl (fun w => yV st_42 rfl) (tP rfl (fun w => yS (by omega) (by omega) rfl) (tO (gb fun cY bW => tf rfl rfl (fun a hf => e_call hf rfl call39 rfl (spec_l1In_ok _ ay 1 (((aB.blocks.length : Int)) - 1) _ bW)) ?_)))
   rintro cZ w ⟨rfl, hB⟩
   replace hm := hm.below' hB; clear hB
   refine tAn rfl (tP rfl (fun w => yN rfl) (tE (gsn 71 rfl (fun bX => ?_) fun bX => ?_)))
   ·
    exact gct rfl (gS (gR (gA rfl (gE (gRt (gLr bS bR (gr1 results63 rfl ⟨rfl, hm.below⟩)))))))
   exact gcf rfl (gSk (gR (gM rfl (gP (by omega) (by omega) rfl (gA rfl (gE (gze hm [0, 1, 2] rfl)))))))
  repeat clear hm
  intro c7 c8 w hm c9 ca
  refine gS (gS (gR (gM rfl (gF fo_59_4 rfl (gL hm 2 isAgg57 rfl ?_)))))
  obtain ⟨aT, aV, rfl, cb⟩ := ro_slice aP
  refine gY (yV st_57 rfl) (gB rfl (gE (go _ 58 rfl (decide_eq_false (by omega)) (gcf rfl (gXt (gHh (gS (gS (gR (gA rfl (gE (gBk (gNf hm (fun ak az => [(1, (nV k_)), (2, (nV b_)), (3, (pV aE)), (7, (pV aC)), (8, (pV aD)), (11, (nV ak))]) (fun ak az => [blk aE [(sV aI aJ u.codes.length aK)] 28, blk aC [(nV aB.params), (nV aB.regs), (sV aF aG aB.blocks.length aH)] 44, blk aD [aL, aN, (nV aA.jump), (nV aA.on), (.slice aT aA.next_.length aV)] 59]) [0, 1, 2] rfl ?_ ?_)))))))))))))
  ·
   repeat clear hm
   intro cc bY ak az w hm cd ce cf bZ
   refine gS (gS (gR (gM rfl (gF fo_59_1 rfl (gL hm 2 isAgg56 rfl ?_)))))
   obtain ⟨b7, b8, rfl, cg⟩ := ro_slice aS
   refine gY (yV st_56 rfl) (gB rfl (gE (go _ 76 rfl (decide_eq_true (by omega)) (gct rfl (gSk (gS (gBk (gS (gW (.p 1 (.p 2 (.p 4 (.q 0 (.e 3 (.p 5 (.e 6 (.e 7 (.p 8 .fin) .nil) .nil)) .nil))))) [3, 6] [1, 2, 4, 5, 8] hm [0, 1, 2] [blk aE [(sV aI aJ u.codes.length aK)] 28, blk aC [(nV aB.params), (nV aB.regs), (sV aF aG aB.blocks.length aH)] 44, blk aD [aL, (.slice b7 aA.ins.length b8), (nV aA.jump), (nV aA.on), (.slice aT aA.next_.length aV)] 59] rfl mxo (by kernel_rfl) (fun _ _ _ h => h.2) fun w hm hS => tP rfl (fun w => yM rfl) (tP rfl (fun w => yF fo_59_1 rfl) (tP rfl (fun w => yM rfl) (tQ rfl hS (fun w hm => yn (hm.blk_at 0 rfl) isAgg28 sizeOf28 rfl) (tO (tY rfl (yL hm 2 isAgg56 rfl) (tAs hS (gg fun b9 ba am => ?_))))))))))))))))
   obtain ⟨ci, cj, ck, he⟩ := idx_form' aS am
   obtain ⟨rfl, _, rfl⟩ := sl3 he
   obtain ⟨bb, bc, bd⟩ := rk_Ins_ aS am
   refine tP rfl (fun w => yI st_56 ba (idx_lt am) rfl) (tO (tY rfl (yn (bc.mono hm.lez) isAgg61 sizeOf61 rfl) (tAs hS (tO (gb fun cl be => tf rfl rfl (fun a hf => e_call hf rfl call113 rfl (spec_l7Ins_ok _ u (sV aI aJ u.codes.length aK) (hm.now h1) k_ b9 bb (hm.now bd) _ be)) ?_)))))
   rintro cm w ⟨rfl, hB⟩
   replace hm := hm.below' hB; clear hB
   refine tAn rfl (tP rfl (fun w => yN rfl) (tE (gsn 87 rfl (fun bf => ?_) fun bf => ?_)))
   ·
    exact gct rfl (gS (gR (gA rfl (gE (gRt (gLr bZ bY (gr1 results63 rfl ⟨rfl, hm.below⟩)))))))
   exact gcf rfl (gSk (gR (gM rfl (gP (by omega) (by omega) rfl (gA rfl (gE (gze hm [0, 1, 2] rfl)))))))
  repeat clear hm
  intro cn co w hm cq cr
  refine gS (gS (gR (gM rfl (gF fo_59_1 rfl (gL hm 2 isAgg56 rfl ?_)))))
  obtain ⟨an, ao, rfl, ct⟩ := ro_slice aS
  refine gY (yV st_56 rfl) (gB rfl (gE (go _ 76 rfl (decide_eq_false (by omega)) (gcf rfl (gXt (gHh (gS (gR (gY (yn (hm.blk_at 1 rfl) isAgg44 sizeOf44 rfl) (gM rfl (gCg rfl call66 (spec_l7Preds_ok _ aB (sV aF aG aB.blocks.length aH) (hm.now aO) b_) ?_)))))))))))
  rintro aM cu cv w ⟨_, rfl, hB⟩
  replace hm := hm.give hB; clear hB
  refine gA rfl (gE (gS (gS (gR (gA rfl (gE ?_))))))
  obtain ⟨aW, aX, rfl, cw⟩ := ro_slice (hm.ow_rep 0 rfl)
  refine gBk (gNf hm (fun ac bA => [(2, (nV b_)), (7, (pV aC)), (8, (pV aD)), (12, (.slice aW aM.length aX)), (13, (nV ac))]) (fun ac bA => [blk aC [(nV aB.params), (nV aB.regs), (sV aF aG aB.blocks.length aH)] 44, blk aD [aL, (.slice an aA.ins.length ao), (nV aA.jump), (nV aA.on), (.slice aT aA.next_.length aV)] 59, ow [(.slice aW aM.length aX)] aM]) [2, 3, 0] rfl ?_ ?_)
  ·
   repeat clear hm
   intro cx bg ac bA w hm cy cz dA bh
   refine gS (gS (gR (gM rfl (gF fo_59_0 rfl (gL hm 1 isAgg55 rfl ?_)))))
   obtain ⟨bB, bC, rfl, dB⟩ := ro_slice aR
   refine gY (yV st_55 rfl) (gB rfl (gE (go _ 95 rfl (decide_eq_true (by omega)) (gct rfl (gSk (gS (gBk (gS (gJ hm (fun ae => [(2, (nV b_)), (7, (pV aC)), (8, (pV aD)), (12, (.slice aW aM.length aX)), (13, (nV ac)), (135, (.bool (ae)))]) (fun ae => [blk aC [(nV aB.params), (nV aB.regs), (sV aF aG aB.blocks.length aH)] 44, blk aD [(.slice bB aA.phis.length bC), (.slice an aA.ins.length ao), (nV aA.jump), (nV aA.on), (.slice aT aA.next_.length aV)] 59, ow [(.slice aW aM.length aX)] aM]) (fun ae => ?_) ?_)))))))))
   ·
    refine gW (.p 0 (.p 1 (.p 2 (.p 3 (.p 5 (.p 10 (.p 11 (.e 4 (.p 6 (.p 7 (.e 8 (.p 9 (.p 12 (.p 13 (.p 14 (.p 16 (.p 18 (.q 15 (.e 17 (.p 19 (.p 20 (.e 21 (.e 22 (.p 23 (.p 24 (.p 25 (.p 26 (.p 28 (.p 32 (.q 27 (.p 29 (.p 30 (.q 31 (.e 33 (.p 34 (.e 35 (.p 36 (.p 37 .fin)) .nil)) .nil))))))))))) .nil) .nil))) .nil)))))))) .nil))) .nil)))))))) [17, 21, 33] [0, 1, 2, 3, 5, 6, 7, 9, 10, 11, 12, 13, 14, 16, 18, 19, 20, 23, 24, 25, 26, 28, 29, 30, 32, 34, 36, 37] hm [0, 1, 2] [blk aC [(nV aB.params), (nV aB.regs), (sV aF aG aB.blocks.length aH)] 44, blk aD [(.slice bB aA.phis.length bC), (.slice an aA.ins.length ao), (nV aA.jump), (nV aA.on), (.slice aT aA.next_.length aV)] 59, ow [(.slice aW aM.length aX)] aM] rfl mxo (by kernel_rfl) (fun _ _ _ h => h.2) fun w hm hS => tP rfl (fun w => yM rfl) (tP rfl (fun w => yB rfl) (tP rfl (fun w => yM rfl) (gsd 100 rfl (fun bi => ?_) fun bi => ?_)))
    ·
     refine tPo rfl rfl (tPo rfl rfl (tPo rfl rfl (tPo rfl rfl (tO (tEo rfl rfl (tAn rfl (tPo rfl rfl (tPo rfl rfl (tO (tEo rfl rfl (tAn rfl (tPo rfl rfl (tPo rfl rfl (tP rfl (fun w => yKt rfl) (tP rfl (fun w => yM rfl) (tPo rfl rfl (tPo rfl rfl (tQo rfl hS rfl (tO (tEo rfl rfl (tAs hS (tPo rfl rfl (tPo rfl rfl (tO (tEo rfl rfl (tAs hS (tO (tEo rfl rfl (tAn rfl (tPo rfl rfl ?_))))))))))))))))))))))))))))))
     exact tP rfl (fun w => yKt rfl) (tP rfl (fun w => yM rfl) (tPo rfl rfl (tPo rfl rfl (tPo rfl rfl (tQo rfl hS rfl (tPo rfl rfl (tPo rfl rfl (tQo rfl hS rfl (tO (tEo rfl rfl (tAs hS (tPo rfl rfl (tO (tEo rfl rfl (tAn rfl (tPo rfl rfl (tP rfl (fun w => yKt rfl) (tE (gz hm [0, 1, 2] rfl)))))))))))))))))))
    refine tP rfl (fun w => yF fo_59_0 rfl) (tP rfl (fun w => yM rfl) (tP rfl (fun w => yM rfl) (tP rfl (fun w => yV st_57 rfl) (tO (tY rfl (yL hm 1 isAgg55 rfl) (tAn rfl (gg fun ap aq aY => ?_)))))))
    obtain ⟨dC, dD, dE, he⟩ := idx_form' aR aY
    obtain ⟨rfl, _, rfl⟩ := sl3 he
    obtain ⟨dF, ar, bD⟩ := rk_Phi_ aR aY
    refine tP rfl (fun w => yI st_55 aq (idx_lt aY) rfl) (tP rfl (fun w => yF fo_87_1 rfl) (tO (tY rfl (yl isAgg57 ((ar.mono hm.lez).cell (j := 1) rfl) rfl) (tAn rfl ?_))))
    obtain ⟨bj, bk, rfl, dG⟩ := ro_slice bD
    refine tP rfl (fun w => yV st_57 rfl) (tP rfl (fun w => yB rfl) (tP rfl (fun w => yKf rfl) (tP rfl (fun w => yM rfl) (gsd 112 rfl (fun bl => ?_) fun bl => ?_))))
    ·
     refine tPo rfl rfl (tPo rfl rfl (tQo rfl hS rfl (tO (tEo rfl rfl (tAs hS (tPo rfl rfl (tPo rfl rfl (tO (tEo rfl rfl (tAs hS (tO (tEo rfl rfl (tAn rfl (tPo rfl rfl (tP rfl (fun w => yKt rfl) (tP rfl (fun w => yM rfl) (tPo rfl rfl (tPo rfl rfl (tPo rfl rfl (tQo rfl hS rfl (tPo rfl rfl (tPo rfl rfl (tQo rfl hS rfl (tO (tEo rfl rfl (tAs hS (tPo rfl rfl (tO (tEo rfl rfl (tAn rfl ?_))))))))))))))))))))))))))))))
     exact tPo rfl rfl (tP rfl (fun w => yKt rfl) (tE (gz hm [0, 1, 2] rfl)))
    refine tP rfl (fun w => yF fo_59_0 rfl) (tP rfl (fun w => yM rfl) (tQ rfl hS (fun w hm => yn (hm.blk_at 0 rfl) isAgg44 sizeOf44 rfl) (tO (tY rfl (yL hm 1 isAgg55 rfl) (tAs hS (tP rfl (fun w => yI st_55 aq (idx_lt aY) rfl) (tP rfl (fun w => yF fo_87_1 rfl) (tO (tY rfl (yl isAgg57 ((ar.mono hm.lez).cell (j := 1) rfl) rfl) (tAs hS (tO (gb fun dH bm => tf rfl rfl (fun a hf => e_call hf rfl call114 rfl (spec_l7Regs_ok _ aB (sV aF aG aB.blocks.length aH) (hm.now aO) ap.args (.slice bj ap.args.length bk) (hm.now bD) _ bm)) ?_))))))))))))
    rintro dI w ⟨rfl, hB⟩
    replace hm := hm.below' hB; clear hB
    refine tAk hm [0, 1, 2] rfl fun hS => tP rfl (fun w => yN rfl) (tP rfl (fun w => yKf rfl) (tP rfl (fun w => yM rfl) (gsn 123 rfl (fun bo => ?_) fun bo => ?_)))
    ·
     exact tPo rfl rfl (tPo rfl rfl (tPo rfl rfl (tQo rfl hS rfl (tPo rfl rfl (tPo rfl rfl (tQo rfl hS rfl (tO (tEo rfl rfl (tAs hS (tPo rfl rfl (tO (tEo rfl rfl (tAn rfl (tPo rfl rfl (tP rfl (fun w => yKt rfl) (tE (gz hm [0, 1, 2] rfl)))))))))))))))))
    refine tP rfl (fun w => yF fo_59_0 rfl) (tP rfl (fun w => yM rfl) (tP rfl (fun w => yF fo_44_1 rfl) (tQ rfl hS (fun w hm => yL hm 1 isAgg55 rfl) (tP rfl (fun w => yI st_55 aq (idx_lt aY) rfl) (tP rfl (fun w => yF fo_87_0 rfl) (tQ rfl hS (fun w hm => yl isAgg3 ((ar.mono hm.lez).cell (j := 0) rfl) rfl) (tO (tY rfl (yL hm 0 isAgg3 rfl) (tAs hS (tP rfl (fun w => yB rfl) (tO (gb fun dJ bp => tf rfl rfl (fun a hf => e_call hf rfl call39 rfl (spec_l1In_ok _ ap.to 0 (w64 (aB.regs - 1)) _ bp)) ?_))))))))))))
    rintro dK w ⟨rfl, hB⟩
    replace hm := hm.below' hB; clear hB
    exact tAn rfl (tP rfl (fun w => yN rfl) (tP rfl (fun w => yKf rfl) (tE (gz hm [0, 1, 2] rfl))))
   repeat clear hm
   intro ae w hm
   refine gs 135 rfl (fun bq => ?_) fun bq => ?_
   ·
    exact gct rfl (gS (gR (gA rfl (gE (gRt (gLr bh bg (gr1 results63 rfl ⟨rfl, hm.below⟩)))))))
   exact gcf rfl (gSk (gR (gM rfl (gP (by omega) (by omega) rfl (gA rfl (gE (gze hm [0, 1, 2] rfl)))))))
  repeat clear hm
  intro dL dM w hm dN dO
  refine gS (gS (gR (gM rfl (gF fo_59_0 rfl (gL hm 1 isAgg55 rfl ?_)))))
  obtain ⟨dP, dQ, rfl, dR⟩ := ro_slice aR
  exact gY (yV st_55 rfl) (gB rfl (gE (go _ 95 rfl (decide_eq_false (by omega)) (gcf rfl (gXt (gHh (gS (gR (gA rfl (gE (gRt (gr1 results63 rfl ⟨rfl, hm.below⟩))))))))))))
theorem spec_UnitValid_ok (w0 : World) (u : Unit_) (v1 : Value) (h1 : GT.rep (hp w0) [v1] u.codes) :
    ConM Tryz.prog 27 [(.agg #[v1])] w0 (spec_UnitValid u) fun r v w' => v = (.bool (r)) ∧ Below w0.heap.size w0 w' := by
  unfold spec_UnitValid
  refine gcon func27 rfl fun r => ?_
  have hm := Mem.start w0
  refine gS (gR (gBx hm rfl fun aB w hm => gA rfl (gE (gS (gS (gR (gF fo_28_0 rfl (gL hm 0 isAgg26 rfl ?_))))))))
  obtain ⟨aX, aE, rfl, ap⟩ := ro_slice h1
  refine gY (yV st_26 rfl) (gC hm rfl call39 (spec_l1In_ok _ (u.codes.length : Int) 1 4) fun aq ar w hm => gN rfl (gE (gsn 11 rfl (fun aY => ?_) fun aY => ?_)))
  ·
   exact gct rfl (gS (gR (gA rfl (gE (gRt (gr1 results27 rfl ⟨rfl, hm.below⟩))))))
  refine gcf rfl (gSk (gS (gR (gA rfl (gE (gS (gS (gR (gA rfl (gE (gBk (gNf hm (fun aC aJ => [(1, (pV aB)), (3, (nV aJ)), (4, (nV aC))]) (fun aC aJ => [blk aB [(.slice aX u.codes.length aE)] 28]) [0] rfl ?_ ?_))))))))))))
  ·
   repeat clear hm
   intro au aP aC aJ w hm aw ax ay aQ
   refine gS (gS (gR (gM rfl (gF fo_28_0 rfl (gL hm 0 isAgg26 rfl (gY (yV st_26 rfl) (gB rfl (gE (go _ 16 rfl (decide_eq_true (by omega)) (gct rfl (gSk (gS (gBk (gS (gR (gF fo_28_0 rfl (gL hm 0 isAgg26 rfl (gM rfl (gg fun aA aZ aO => ?_)))))))))))))))))))
   obtain ⟨aG, aH, az, he⟩ := idx_form' h1 aO
   obtain ⟨rfl, _, rfl⟩ := sl3 he
   obtain ⟨aR, aa, aF⟩ := rk_Code_ h1 aO
   refine gI st_26 aZ (idx_lt aO) rfl (gY (yn (aa.mono hm.lez) isAgg44 sizeOf44 rfl) (gAl hm zeroValue44 rfl fun aD w hm => gSN hm 0 sizeOf44 (one_cons rfl (one_cons rfl (one_cons (rep_one aF) one_nil))) rfl fun w hm => gE (gS (gS (gJ hm (fun aK => [(1, (pV aB)), (3, (nV aJ)), (4, (nV aC)), (5, (pV aD)), (42, (.bool (aK)))]) (fun aK => [blk aB [(sV aG aH u.codes.length aE)] 28, blk aD [(nV aA.params), (nV aA.regs), aR] 44]) (fun aK => ?_) ?_)))))
   ·
    refine gR (gF fo_44_0 rfl (gL hm 0 isAgg3 rfl (gC hm rfl call39 (spec_l1In_ok _ aA.params 0 3) fun bA bB w hm => gN rfl (gM rfl (gsn 28 rfl (fun ab => ?_) fun ab => ?_)))))
    ·
     exact gO rfl (gO rfl (gO rfl (gO rfl (gO rfl (gO rfl (gKt rfl (gM rfl (gO rfl (gO rfl (gO rfl (gO rfl (gO rfl (gKt rfl (gE (gz hm [1, 0] rfl)))))))))))))))
    refine gF fo_44_1 rfl (gL hm 0 isAgg3 rfl (gF fo_44_0 rfl (gL hm 0 isAgg3 rfl (gC hm rfl call39 (spec_l1In_ok _ aA.regs aA.params 300) fun bC bD w hm => gN rfl (gKf rfl (gM rfl (gsn 36 rfl (fun ac => ?_) fun ac => ?_)))))))
    ·
     exact gO rfl (gO rfl (gO rfl (gO rfl (gO rfl (gKt rfl (gE (gz hm [1, 0] rfl)))))))
    refine gF fo_44_2 rfl (gL hm 0 isAgg42 rfl ?_)
    obtain ⟨bE, bF, rfl, bG⟩ := ro_slice aF
    exact gY (yV st_42 rfl) (gC hm rfl call39 (spec_l1In_ok _ (aA.blocks.length : Int) 1 160) fun bH bJ w hm => gN rfl (gKf rfl (gE (gz hm [1, 0] rfl))))
   repeat clear hm
   intro aK w hm
   refine gs 42 rfl (fun ae => ?_) fun ae => ?_
   ·
    exact gct rfl (gS (gR (gA rfl (gE (gRt (gLr aQ aP (gr1 results27 rfl ⟨rfl, hm.below⟩)))))))
   refine gcf rfl (gSk (gS (gR (gA rfl (gE (gBk (gNf hm (fun aI aL => [(1, (pV aB)), (3, (nV aL)), (4, (nV aC)), (5, (pV aD)), (6, (nV aI))]) (fun aI aL => [blk aB [(sV aG aH u.codes.length aE)] 28, blk aD [(nV aA.params), (nV aA.regs), aR] 44]) [0, 1] rfl ?_ ?_)))))))
   ·
    repeat clear hm
    intro bK af aI aL w hm bL bM bN ag
    refine gS (gS (gR (gM rfl (gF fo_44_2 rfl (gL hm 1 isAgg42 rfl ?_)))))
    obtain ⟨ah, aS, rfl, bO⟩ := ro_slice aF
    refine gY (yV st_42 rfl) (gB rfl (gE (go _ 47 rfl (decide_eq_true (by omega)) (gct rfl (gSk (gS (gBk (gS (gW (.p 0 (.p 1 (.p 3 (.p 9 (.p 11 (.q 2 (.p 4 (.p 5 (.q 6 (.p 7 (.p 8 (.e 10 (.p 12 (.p 13 (.e 14 (.p 15 (.p 16 (.p 17 .fin))) .nil))) .nil)))))))))))) [10, 14] [0, 1, 3, 4, 5, 7, 8, 9, 11, 12, 13, 15, 16, 17] hm [0, 1] [blk aB [(sV aG aH u.codes.length aE)] 28, blk aD [(nV aA.params), (nV aA.regs), (.slice ah aA.blocks.length aS)] 44] rfl mxo (by kernel_rfl) (fun _ _ _ h => h.2) fun w hm hS => tP rfl (fun w => yM rfl) (tP rfl (fun w => yF fo_44_2 rfl) (tP rfl (fun w => yM rfl) (tP rfl (fun w => yF fo_44_2 rfl) (tP rfl (fun w => yM rfl) (tQ rfl hS (fun w hm => yL hm 1 isAgg42 rfl) (gg fun aT aV aM => ?_)))))))))))))))
    obtain ⟨ai, aj, bP, he⟩ := idx_form' aF aM
    obtain ⟨rfl, _, rfl⟩ := sl3 he
    obtain ⟨bQ, bR, bS, aW, ak, am, bT⟩ := rk_Block_ aF aM
    refine tP rfl (fun w => yI st_42 aV (idx_lt aM) rfl) (tP rfl (fun w => yF fo_59_1 rfl) (tQ rfl hS (fun w hm => yl isAgg56 ((aW.mono hm.lez).cell (j := 1) rfl) rfl) ?_))
    obtain ⟨bU, bV, rfl, bW⟩ := ro_slice am
    refine tP rfl (fun w => yV st_56 rfl) (tP rfl (fun w => yB rfl) (tO (tY rfl (yL hm 1 isAgg42 rfl) (tAs hS (tP rfl (fun w => yI st_42 aV (idx_lt aM) rfl) (tP rfl (fun w => yF fo_59_0 rfl) (tO (tY rfl (yl isAgg55 ((aW.mono hm.lez).cell (j := 0) rfl) rfl) (tAs hS ?_)))))))))
    obtain ⟨bX, bY, rfl, bZ⟩ := ro_slice ak
    refine tP rfl (fun w => yV st_55 rfl) (tP rfl (fun w => yB rfl) (tP rfl (fun w => yA rfl) (tE (gS (gJ hm (fun aN => [(1, (pV aB)), (3, (nV (w64 ((w64 (aL + ((aT.ins.length : Int)))) + ((aT.phis.length : Int)))))), (4, (nV aC)), (5, (pV aD)), (6, (nV aI)), (75, (.bool (aN)))]) (fun aN => [blk aB [(sV aG aH u.codes.length aE)] 28, blk aD [(nV aA.params), (nV aA.regs), (sV ai aj aA.blocks.length aS)] 44]) (fun aN => ?_) ?_)))))
    ·
     refine gR (gM rfl (gB rfl (gM rfl (gsd 69 rfl (fun an => ?_) fun an => ?_))))
     ·
      exact gO rfl (gO rfl (gO rfl (gO rfl (gO rfl (gKt rfl (gE (gz hm [0, 1] rfl)))))))
     exact gY (yn (hm.blk_at 0 rfl) isAgg28 sizeOf28 rfl) (gM rfl (gM rfl (gC hm rfl call63 (spec_l7Block_ok _ u (sV aG aH u.codes.length aE) (hm.now h1) aC aI) fun b7 b8 w hm => gN rfl (gKf rfl (gE (gz hm [0, 1] rfl))))))
    repeat clear hm
    intro aN w hm
    refine gs 75 rfl (fun ao => ?_) fun ao => ?_
    ·
     exact gct rfl (gS (gR (gA rfl (gE (gRt (gLr ag af (gLr aQ aP (gr1 results27 rfl ⟨rfl, hm.below⟩))))))))
    exact gcf rfl (gSk (gR (gM rfl (gP (by omega) (by omega) rfl (gA rfl (gE (gze hm [0, 1] rfl)))))))
   repeat clear hm
   intro b9 ba w hm bb bc
   refine gS (gS (gR (gM rfl (gF fo_44_2 rfl (gL hm 1 isAgg42 rfl ?_)))))
   obtain ⟨bd, be, rfl, bf⟩ := ro_slice aF
   exact gY (yV st_42 rfl) (gB rfl (gE (go _ 47 rfl (decide_eq_false (by omega)) (gcf rfl (gXt (gHh (gR (gM rfl (gP (by omega) (by omega) rfl (gA rfl (gE (gze hm [0] rfl))))))))))))
  repeat clear hm
  intro bg bh w hm bi bj
  exact gS (gS (gR (gM rfl (gF fo_28_0 rfl (gL hm 0 isAgg26 rfl (gY (yV st_26 rfl) (gB rfl (gE (go _ 16 rfl (decide_eq_false (by omega)) (gcf rfl (gXt (gHh (gS (gR (gA rfl (gE (gRt (gr1 results27 rfl ⟨rfl, hm.below⟩))))))))))))))))))
theorem spec_l10Visit_all (c_ : Code_) : ∀ (b_ : Int) (seen : List Bool) (out : List Int) (r : (List Int) × (List Bool)), spec_l10Visit c_ b_ seen out = some r → ∀ (w0 : World) (hz : Heap) (v1 : Value) (h1 : GT.rep hz [v1] c_.blocks) (v2 : Value) (v3 : Value) (hm0 : Mem w0 hz w0 [ow [v2] seen, ow [v3] out]), Con Tryz.prog 222 [(.agg #[(nV c_.params), (nV c_.regs), v1]), (nV b_), v2, v3] w0 (fun v w' => ∃ (x1 : Value), v = x1 ∧ Mem w0 hz w' [ow [x1] r.1, ow [v2] r.2]) := by
  refine spec_l10Visit.partial_correctness c_ (motive := fun b_ seen out r => ∀ (w0 : World) (hz : Heap) (v1 : Value) (h1 : GT.rep hz [v1] c_.blocks) (v2 : Value) (v3 : Value) (hm0 : Mem w0 hz w0 [ow [v2] seen, ow [v3] out]), Con Tryz.prog 222 [(.agg #[(nV c_.params), (nV c_.regs), v1]), (nV b_), v2, v3] w0 (fun v w' => ∃ (x1 : Value), v = x1 ∧ Mem w0 hz w' [ow [x1] r.1, ow [v2] r.2])) ?_
  intro rec_ ih_ b_ seen out r hq w0 hz v1 h1 v2 v3 hm0
  have spec_l10Visit_rec : ∀ (w0 : World) (hz : Heap) (_ : Code_) (v1 : Value) (h1 : GT.rep hz [v1] c_.blocks) (b_ : Int) (seen : List Bool) (v2 : Value) (out : List Int) (v3 : Value) (hm0 : Mem w0 hz w0 [ow [v2] seen, ow [v3] out]) (r : (List Int) × (List Bool)) (hq : rec_ b_ seen out = some r), Con Tryz.prog 222 [(.agg #[(nV c_.params), (nV c_.regs), v1]), (nV b_), v2, v3] w0 (fun v w' => ∃ (x1 : Value), v = x1 ∧ Mem w0 hz w' [ow [x1] r.1, ow [v2] r.2]) := fun w0 hz _ v1 h1 b_ seen v2 out v3 hm0 r hq => ih_ b_ seen out r hq w0 hz v1 h1 v2 v3 hm0
  refine gconr (ρ := (List Int) × (List Bool)) (R := fun r v w' => ∃ (x1 : Value), v = x1 ∧ Mem w0 hz w' [ow [x1] r.1, ow [v2] r.2]) func222 rfl hq ?_
  have hm := hm0
  refine gS (gR (gBx hm rfl fun aE w hm => gA rfl (gE (gS (gR (gM rfl (gM rfl (gg fun au aZ aL => ?_))))))))
  obtain ⟨aB, aC, aD, he⟩ := idx_form (hm.ow_rep 1 rfl) aL
  subst he
  refine gI st_98 aZ (idx_lt aL) rfl (gf0 rfl (fun a hf => e_setElem (x1 := true) (j := 0) (vs := [(.bool (true))]) 1 hf hm rfl aL rfl sizeOf4 rfl rfl rfl (one_cons rfl one_nil) rfl rfl) ?_)
  rintro _ w hm
  have aw := List.getElem?_set_self (a := true) (idx_lt aL)
  refine gE (gS (gS (gR (gA rfl (gE ?_)))))
  obtain ⟨aa, ab, rfl, ax⟩ := ro_slice (hm.ow_rep 2 rfl)
  refine gJg (fun aM a w => ∃ (aS : Value), St 54 [(1, (nV b_)), (3, aS)] w0 hz [ow [aS] aM.1, ow [(sV aB aC seen.length aD)] aM.2] a w) (fun aM => ?_) ?_
  ·
   refine gBk (gMg (fun aA a w => ∃ (aF : Value), St 54 [(1, (nV b_)), (2, (sV aB aC seen.length aD)), (3, aF), (4, (pV aE)), (9, (nV aA.2.2))] w0 hz [ow [(sV aB aC seen.length aD)] aA.1, ow [aF] aA.2.1, blk aE [(nV c_.params), (nV c_.regs), v1] 44] a w) (fun a hf => ⟨(.slice aa out.length ab), hf.sb rfl, hm.pk [1, 2, 0] rfl rfl⟩) ?_)
   repeat clear hm
   rintro ay ac aA a w ⟨aF, hf, hm⟩ az ae
   refine gv hf (gS (gS (gR (gM rfl (gF fo_44_2 rfl (gL hm 2 isAgg42 rfl (gM rfl (gg fun bA aT aG => ?_))))))))
   obtain ⟨aH, aI, aJ, he⟩ := idx_form' h1 aG
   subst he
   obtain ⟨bB, bC, bD, aV, bE, bF, aN⟩ := rk_Block_ h1 aG
   refine gI st_42 aT (idx_lt aG) rfl (gF fo_59_4 rfl (gY (yl isAgg57 ((aV.mono hm.lez).cell (j := 4) rfl) rfl) ?_))
   obtain ⟨bG, bH, rfl, bJ⟩ := ro_slice aN
   refine gY (yV st_57 rfl) (gB rfl (gE (gsd 21 rfl (fun af => ?_) fun af => ?_)))
   ·
    refine gct rfl (gSk (gS (gJg (fun aO a w => ∃ (aP : Value), St 54 [(1, (nV b_)), (2, (sV aB aC seen.length aD)), (3, aP), (4, (pV aE)), (9, (nV aA.2.2))] w0 hz [ow [(sV aB aC seen.length aD)] aO.1, ow [aP] aO.2, blk aE [(nV c_.params), (nV c_.regs), (sV aH aI c_.blocks.length aJ)] 44] a w) (fun aO => ?_) ?_)))
    ·
     refine gBk (gS (gR (gM rfl (gF fo_44_2 rfl (gL hm 2 isAgg42 rfl (gM rfl (gI st_42 aT (idx_lt aG) rfl (gF fo_59_4 rfl (gY (yl isAgg57 ((aV.mono hm.lez).cell (j := 4) rfl) rfl) (gM rfl (gg fun aW aX aK => ?_)))))))))))
     obtain ⟨bK, bL, bM, he⟩ := idx_form aN aK
     obtain ⟨rfl, _, rfl⟩ := sl3 he
     refine gI st_57 aX (idx_lt aK) rfl (gY (yl isAgg3 ((flat_cells (cs := [(nV aW)]) (hm.now aN) aK rfl).cell (j := 0) rfl) rfl) (gg fun ag ah aY => ?_))
     have hL3_1 := rep_slice_len (hm.ow_rep 0 rfl)
     refine gI st_98 ah (idx_lt2 aY hL3_1) rfl (gY (yl isAgg4 ((flat_cells (cs := [(.bool (ag))]) (hm.ow_rep 0 rfl) aY rfl).cell (j := 0) rfl) rfl) (gN rfl (gE (gJg (fun aQ a w => ∃ (aR : Value), St 54 [(1, (nV b_)), (2, (sV aB aC seen.length aD)), (3, aR), (4, (pV aE)), (9, (nV aA.2.2))] w0 hz [ow [(sV aB aC seen.length aD)] aQ.1, ow [aR] aQ.2, blk aE [(nV c_.params), (nV c_.regs), (sV aH aI c_.blocks.length aJ)] 44] a w) (fun aQ => ?_) ?_))))
     ·
      refine gsn 36 rfl (fun ai => ?_) fun ai => ?_
      ·
       refine gct rfl (gW (.p 1 (.p 3 (.p 7 (.p 10 (.p 11 (.q 0 (.e 2 (.p 4 (.p 5 (.e 6 (.p 8 (.e 9 (.e 12 (.p 13 .fin) .nil) .nil)) .nil))) .nil))))))) [2, 6, 9] [1, 3, 4, 5, 7, 8, 10, 11, 13] hm [0, 1, 2] [ow [(sV aB aC seen.length aD)] aA.1, ow [aF] aA.2.1, blk aE [(nV c_.params), (nV c_.regs), (sV aH aI c_.blocks.length aJ)] 44] rfl mxo (by kernel_rfl) (fun _ _ _ h => h.2) fun w hm hS => tP rfl (fun w => yF fo_44_2 rfl) (tP rfl (fun w => yM rfl) (tP rfl (fun w => yM rfl) (tP rfl (fun w => yM rfl) (tP rfl (fun w => yM rfl) (tQ rfl hS (fun w hm => yn (hm.blk_at 2 rfl) isAgg44 sizeOf44 rfl) (tO (tY rfl (yL hm 2 isAgg42 rfl) (tAs hS (tP rfl (fun w => yI st_42 aT (idx_lt aG) rfl) (tP rfl (fun w => yF fo_59_4 rfl) (tO (tY rfl (yl isAgg57 ((aV.mono hm.lez).cell (j := 4) rfl) rfl) (tAs hS (tP rfl (fun w => yI st_57 aX (idx_lt aK) rfl) (tO (tY rfl (yl isAgg3 ((flat_cells (cs := [(nV aW)]) (hm.now aN) aK rfl).cell (j := 0) rfl) rfl) (tAs hS (tO (gb fun bN aj => ?_))))))))))))))))))))
       obtain ⟨ak, hle, hm1, hsub, am⟩ := hm.take2 (L1 := [ow [(sV aB aC seen.length aD)] aA.1, ow [aF] aA.2.1]) (L2 := [blk aE [(nV c_.params), (nV c_.regs), (sV aH aI c_.blocks.length aJ)] 44]) [0, 1] [2] (by decide) rfl rfl
       refine tf rfl rfl (fun a hf => e_call hf rfl call222 rfl (spec_l10Visit_rec _ ak c_ (sV aH aI c_.blocks.length aJ) (GT.mono hle h1) aW aA.1 (sV aB aC seen.length aD) aA.2.1 aF hm1  _ aj)) ?_
       rintro an w ⟨_, rfl, hB⟩
       replace hm := am _ _ hB; clear hB
       exact tAn rfl (tP rfl (fun w => yA rfl) (tE (gZ fun a hf => ⟨an, hf.sb rfl, hm.pk [1, 0, 2] rfl rfl⟩)))
      exact gcf rfl (gSk (gZ fun a hf => ⟨aF, hf.sb rfl, hm.pk [0, 1, 2] rfl rfl⟩))
     repeat clear hm
     rintro aQ a w ⟨aR, hf, hm⟩
     exact gv hf (gZ fun a hf => ⟨aR, hf.sb rfl, hm.pk [0, 1, 2] rfl rfl⟩)
    repeat clear hm
    rintro aO a w ⟨aP, hf, hm⟩
    exact gv hf (gR (gM rfl (gB rfl (gA rfl (gE (gZe fun a hf => ⟨aP, hf.sb rfl, hm.pk [0, 1, 2] rfl rfl⟩))))))
   exact gcf rfl (gXt (gHh (gLp ae ac (gZ fun a hf => ⟨aF, hf.sb rfl, hm.pk [1, 0] rfl rfl⟩))))
  repeat clear hm
  rintro aM a w ⟨aS, hf, hm⟩
  refine gv hf (gS (gR (gM rfl (gM rfl (gf rfl (fun a hf => e_build (vs := #[(0, (nV b_))]) (cs := [(nV b_)]) et_57 hf hm rfl rfl (by kernel_rfl) rfl rfl) ?_)))))
  rintro _ w ⟨bO, rfl, hm⟩
  replace hm := hm.lit (xs := ([b_] : List Int)) 0 rfl rfl rfl rfl
  refine gb fun bP ao => ?_
  obtain ⟨ap, aq⟩ := appM_some.1 ao
  refine gf rfl (fun a hf => e_append 1 et_57 hf hm rfl (hm.ow_rep 0 rfl) rfl rfl rfl ap) ?_
  rintro ar w hm
  rw [aq] at hm
  exact gA rfl (gE (gRt (gr1 results222 rfl ⟨ar, rfl, hm.pk [1, 2] rfl rfl⟩)))
theorem spec_l10Visit_ok (w0 : World) (hz : Heap) (c_ : Code_) (v1 : Value) (h1 : GT.rep hz [v1] c_.blocks) (b_ : Int) (seen : List Bool) (v2 : Value) (out : List Int) (v3 : Value) (hm0 : Mem w0 hz w0 [ow [v2] seen, ow [v3] out]) (r : (List Int) × (List Bool)) (hq : spec_l10Visit c_ b_ seen out = some r) : Con Tryz.prog 222 [(.agg #[(nV c_.params), (nV c_.regs), v1]), (nV b_), v2, v3] w0 (fun v w' => ∃ (x1 : Value), v = x1 ∧ Mem w0 hz w' [ow [x1] r.1, ow [v2] r.2]) := spec_l10Visit_all c_ b_ seen out r hq w0 hz v1 h1 v2 v3 hm0
theorem spec_l10Order_ok (w0 : World) (c_ : Code_) (v1 : Value) (h1 : GT.rep (hp w0) [v1] c_.blocks) :
    ConM Tryz.prog 168 [(.agg #[(nV c_.params), (nV c_.regs), v1])] w0 (spec_l10Order c_) fun r v w' => ∃ (x1 : Value), v = x1 ∧ Mem w0 (hp w0) w' [ow [x1] r] := by
  unfold spec_l10Order
  refine gcon func168 rfl fun r => ?_
  have hm := Mem.start w0
  refine gS (gR (gBx hm rfl fun aH w hm => gA rfl (gE (gS (gJg (fun aA a w => ∃ (aI : Value), St 29 [(3, aI)] w0 (hp w0) [ow [aI] aA] a w) (fun aA => ?_) ?_)))))
  ·
   refine gW (.p 1 (.q 0 (.q 2 (.p 3 (.e 4 (.e 5 (.e 6 (.p 7 .fin) .nil) .nil) (.e 5 (.e 4 (.e 6 (.p 7 .fin) .nil) .nil) .nil)))))) [0, 2, 4, 5] [1, 3, 7] hm [0] [blk aH [(nV c_.params), (nV c_.regs), v1] 44] rfl mxo (by kernel_rfl) (fun _ _ _ h => h.2) fun w hm hS => tP rfl (fun w => yF fo_44_2 rfl) (tQ rfl hS (fun w hm => yn (hm.blk_at 0 rfl) isAgg44 sizeOf44 rfl) (tQ rfl hS (fun w hm => yL hm 0 isAgg42 rfl) ?_))
   obtain ⟨aC, aD, rfl, aw⟩ := ro_slice h1
   refine tP rfl (fun w => yV st_42 rfl) (gb fun aB aM => gb fun ax aN => tMo ?_ ?_)
   ·
    obtain ⟨⟨aX, aY⟩, aO⟩ := makeM_some.1 aM
    refine tf rfl rfl (fun a hf => e_make (x0 := (false : Bool)) et_98 (fun _ => (Flat.own_iff.2 rfl)) hf hm rfl rfl rfl aX (Int.le_refl _) aY) ?_
    rintro aP w hm
    rw [aO] at hm
    have h1_1l : (aB.length : Int) = (c_.blocks.length : Int) := by rw [← aO]; simp only [List.length_replicate]; omega
    refine tAk hm [1] rfl fun hS => tO (tf rfl rfl (fun a hf => e_build0 (α := Int) et_57 hm rfl) ?_)
    rintro aQ w hm
    refine tAk hm [2] rfl fun hS => tO ?_
    obtain ⟨aZ, hle, hm1, hsub, aa⟩ := hm.take2 (L1 := [ow [aP] aB, ow [aQ] ([] : List Int)]) (L2 := [blk aH [(nV c_.params), (nV c_.regs), (.slice aC c_.blocks.length aD)] 44]) [1, 0] [2] (by decide) rfl rfl
    refine tf rfl rfl (fun a hf => e_call hf rfl call222 rfl (spec_l10Visit_ok _ aZ c_ (.slice aC c_.blocks.length aD) (GT.mono hle h1) 0 aB aP ([] : List Int) aQ hm1  _ aN)) ?_
    rintro ab w ⟨_, rfl, hB⟩
    replace hm := aa _ _ hB; clear hB
    exact tAn rfl (tP rfl (fun w => yA rfl) (tE (gZ fun a hf => ⟨ab, hf.sb rfl, hm.pk [0] rfl rfl⟩)))
   refine tO (tf rfl rfl (fun a hf => e_build0 (α := Int) et_57 hm rfl) ?_)
   rintro aR w hm
   refine tAk hm [1] rfl fun hS => tO ?_
   obtain ⟨⟨ac, ae⟩, aS⟩ := makeM_some.1 aM
   refine tf rfl rfl (fun a hf => e_make (x0 := (false : Bool)) et_98 (fun _ => (Flat.own_iff.2 rfl)) hf hm rfl rfl rfl ac (Int.le_refl _) ae) ?_
   rintro aT w hm
   rw [aS] at hm
   have h1_2l : (aB.length : Int) = (c_.blocks.length : Int) := by rw [← aS]; simp only [List.length_replicate]; omega
   refine tAk hm [2] rfl fun hS => tO ?_
   obtain ⟨af, hle, hm1, hsub, ag⟩ := hm.take2 (L1 := [ow [aT] aB, ow [aR] ([] : List Int)]) (L2 := [blk aH [(nV c_.params), (nV c_.regs), (.slice aC c_.blocks.length aD)] 44]) [0, 1] [2] (by decide) rfl rfl
   refine tf rfl rfl (fun a hf => e_call hf rfl call222 rfl (spec_l10Visit_ok _ af c_ (.slice aC c_.blocks.length aD) (GT.mono hle h1) 0 aB aT ([] : List Int) aR hm1  _ aN)) ?_
   rintro ah w ⟨_, rfl, hB⟩
   replace hm := ag _ _ hB; clear hB
   exact tAn rfl (tP rfl (fun w => yA rfl) (tE (gZ fun a hf => ⟨ah, hf.sb rfl, hm.pk [0] rfl rfl⟩)))
  repeat clear hm
  rintro aA a w ⟨aI, hf, hm⟩
  refine gv hf (gS (gR (gf rfl (fun a hf => e_build0 (α := Int) et_57 hm rfl) ?_)))
  rintro ay w hm
  refine gA rfl (gE (gS (gS (gR (gM rfl ?_)))))
  obtain ⟨aV, aW, rfl, az⟩ := ro_slice (hm.ow_rep 1 rfl)
  refine gY (yV st_57 rfl) (gY (yS (by omega) (by omega) rfl) (gA rfl (gE ?_)))
  obtain ⟨ai, aj, rfl, bA⟩ := ro_slice (hm.ow_rep 0 rfl)
  refine gJg (fun aJ a w => ∃ (aE : Value), St 29 [(4, aE)] w0 (hp w0) [ow [aE] aJ] a w) (fun aJ => ?_) ?_
  ·
   refine gBk (gMg (fun aK a w => ∃ (aF : Value), St 29 [(3, (.slice aV aA.length aW)), (4, aF), (5, (nV aK.2))] w0 (hp w0) [ow [(.slice aV aA.length aW)] aA, ow [aF] aK.1] a w) (fun a hf => ⟨(.slice ai ([] : List Int).length aj), hf.sb rfl, hm.pk [1, 0] rfl rfl⟩) ?_)
   repeat clear hm
   rintro bB ak aK a w ⟨aF, hf, hm⟩ bC am
   refine gv hf (gS (gS (gR (gM rfl (gB rfl (gE (gsd 18 rfl (fun an => ?_) fun an => ?_)))))))
   ·
    refine gct rfl (gSk (gS (gBk (gR (gM rfl (gM rfl (gM rfl (gg fun aG ao aL => ?_))))))))
    obtain ⟨bD, bE, bF, he⟩ := idx_form (hm.ow_rep 0 rfl) aL
    obtain ⟨rfl, _, rfl⟩ := sl3 he
    refine gI st_57 ao (idx_lt aL) rfl (gY (yl isAgg3 ((flat_cells (cs := [(nV aG)]) (hm.ow_rep 0 rfl) aL rfl).cell (j := 0) rfl) rfl) (gf rfl (fun a hf => e_build (vs := #[(0, (nV aG))]) (cs := [(nV aG)]) et_57 hf hm rfl rfl (by kernel_rfl) rfl rfl) ?_))
    rintro _ w ⟨bG, rfl, hm⟩
    replace hm := hm.lit (xs := ([aG] : List Int)) 0 rfl rfl rfl rfl
    refine gb fun bH ap => ?_
    obtain ⟨aq, ar⟩ := appM_some.1 ap
    refine gf rfl (fun a hf => e_append 2 et_57 hf hm rfl (hm.ow_rep 0 rfl) rfl rfl rfl aq) ?_
    rintro au w hm
    rw [ar] at hm
    exact gA rfl (gE (gR (gM rfl (gB rfl (gA rfl (gE (gZe fun a hf => ⟨au, hf.sb rfl, hm.pk [1, 2] rfl rfl⟩)))))))
   exact gcf rfl (gXt (gHh (gLp am ak (gZ fun a hf => ⟨aF, hf.sb rfl, hm.pk [1] rfl rfl⟩))))
  repeat clear hm
  rintro aJ a w ⟨aE, hf, hm⟩
  exact gv hf (gS (gR (gM rfl (gA rfl (gE (gRt (gr1 results168 rfl ⟨aE, rfl, hm.pk [0] rfl rfl⟩)))))))
theorem spec_MadeBy_ok (w0 : World) (x_ : Ins_) (v1 : Value) (h1 : GT.rep (hp w0) [v1] x_.args) :
    ConM Tryz.prog 98 [(.agg #[(nV x_.op), (nV x_.to), v1, (nV x_.n_)])] w0 (spec_MadeBy x_) fun r v w' => v = (nV r) ∧ Below w0.heap.size w0 w' := by
  unfold spec_MadeBy
  refine gcon func98 rfl fun r => ?_
  have hm := Mem.start w0
  refine gS (gR (gBx hm rfl fun aB w hm => gA rfl (gE (gS (gS (gR (gF fo_61_0 rfl (gL hm 0 isAgg3 rfl (gC hm rfl call136 (spec_l7Makes_ok _ x_.op) fun aC aD w hm => gE (gs 5 rfl (fun aA => ?_) fun aA => ?_))))))))))
  ·
   exact gct rfl (gS (gR (gF fo_61_1 rfl (gL hm 0 isAgg3 rfl (gA rfl (gE (gRt (gr1 results98 rfl ⟨rfl, hm.below⟩))))))))
  exact gcf rfl (gSk (gS (gR (gA rfl (gE (gRt (gr1 results98 rfl ⟨rfl, hm.below⟩)))))))
theorem spec_l13Sets_ok (w0 : World) (c_ : Code_) (v1 : Value) (h1 : GT.rep (hp w0) [v1] c_.blocks) :
    ConM Tryz.prog 53 [(.agg #[(nV c_.params), (nV c_.regs), v1])] w0 (spec_l13Sets c_) fun r v w' => ∃ (x1 : Value), v = x1 ∧ Mem w0 (hp w0) w' [ow [x1] r] := by
  unfold spec_l13Sets
  refine gcon func53 rfl fun r => ?_
  have hm := Mem.start w0
  refine gS (gR (gBx hm rfl fun aC w hm => gA rfl (gE (gS (gR (gF fo_44_1 rfl (gL hm 0 isAgg3 rfl (gb fun aA bQ => ?_))))))))
  obtain ⟨⟨bR, bS⟩, bC⟩ := makeM_some.1 bQ
  refine gf rfl (fun a hf => e_make (x0 := ([] : List (List Int))) et_70 (fun _ => (own_list.2 (.inl ⟨rfl, rfl⟩))) hf hm rfl rfl rfl bR (Int.le_refl _) bS) ?_
  rintro br w hm
  rw [bC] at hm
  have h0_1l : (aA.length : Int) = c_.regs := by rw [← bC]; simp only [List.length_replicate]; omega
  refine gA rfl (gE (gS (gS (gR (gA rfl (gE ?_))))))
  obtain ⟨aG, aB, rfl, bs⟩ := ro_slice (hm.ow_rep 0 rfl)
  refine gBk (gNf hm (fun aD aq => [(1, (pV aC)), (3, (.slice aG aA.length aB)), (4, (nV aD))]) (fun aD aq => [blk aC [(nV c_.params), (nV c_.regs), v1] 44, ow [(.slice aG aA.length aB)] aq]) [1, 0] rfl ?_ ?_)
  ·
   repeat clear hm
   intro _ _ aD aq w hm bt bu bv _
   refine gS (gS (gR (gM rfl (gF fo_44_2 rfl (gL hm 0 isAgg42 rfl ?_)))))
   obtain ⟨ag, aF, rfl, bw⟩ := ro_slice h1
   refine gY (yV st_42 rfl) (gB rfl (gE (go _ 16 rfl (decide_eq_true (by omega)) (gct rfl (gSk (gS (gBk (gS (gS (gR (gA rfl (gE (gJ hm (fun ah => [(1, (pV aC)), (3, (.slice aG aA.length aB)), (4, (nV aD))]) (fun ah => [blk aC [(nV c_.params), (nV c_.regs), (.slice ag c_.blocks.length aF)] 44, ow [(.slice aG aA.length aB)] ah]) (fun ah => ?_) ?_)))))))))))))
   ·
    refine gBk (gMf hm (fun aH => [(1, (pV aC)), (3, (.slice aG aA.length aB)), (4, (nV aD)), (5, (nV aH.2))]) (fun aH => [blk aC [(nV c_.params), (nV c_.regs), (.slice ag c_.blocks.length aF)] 44, ow [(.slice aG aA.length aB)] aH.1]) [0, 1] rfl ?_)
    repeat clear hm
    intro bx bT aH w hm bz bU
    refine gS (gS (gR (gM rfl (gF fo_44_2 rfl (gL hm 0 isAgg42 rfl (gM rfl (gg fun cA bD ai => ?_)))))))
    obtain ⟨aV, aW, cB, he⟩ := idx_form' h1 ai
    obtain ⟨rfl, _, rfl⟩ := sl3 he
    obtain ⟨cC, cD, cE, bE, ar, cF, cG⟩ := rk_Block_ h1 ai
    refine gI st_42 bD (idx_lt ai) rfl (gF fo_59_0 rfl (gY (yl isAgg55 ((bE.mono hm.lez).cell (j := 0) rfl) rfl) ?_))
    obtain ⟨cH, cI, rfl, cJ⟩ := ro_slice ar
    refine gY (yV st_55 rfl) (gB rfl (gE (gsd 27 rfl (fun bV => ?_) fun bV => ?_)))
    ·
     refine gct rfl (gSk (gS (gBk (gS (gR (gF fo_44_2 rfl (gL hm 0 isAgg42 rfl (gM rfl (gI st_42 bD (idx_lt ai) rfl (gF fo_59_0 rfl (gY (yl isAgg55 ((bE.mono hm.lez).cell (j := 0) rfl) rfl) (gM rfl (gg fun aM bW au => ?_)))))))))))))
     obtain ⟨cK, cL, cM, he⟩ := idx_form' ar au
     obtain ⟨rfl, _, rfl⟩ := sl3 he
     obtain ⟨cN, bX, cO⟩ := rk_Phi_ ar au
     refine gI st_55 bW (idx_lt au) rfl (gF fo_87_0 rfl (gY (yl isAgg3 ((bX.mono hm.lez).cell (j := 0) rfl) rfl) (gA rfl (gE (gR (gM rfl (gM rfl (gM rfl (gM rfl (gg fun aN bF aX => ?_))))))))))
     obtain ⟨aO, aP, cP, he⟩ := idx_form' (hm.ow_rep 1 rfl) aX
     obtain ⟨rfl, _, rfl⟩ := sl3 he
     obtain ⟨_, _, bG, bY⟩ := ro_get' (hm.ow_rep 1 rfl) aX
     have aw := bY
     obtain ⟨bH, rfl, -⟩ := id aw
     replace aw : GT.rep (hp _) [bH] aN := aw
     replace bG : CellsAt (hp _) aO (aP + (aM.to).toNat * 1) [bH] := bG
     have hL3_1 := rep_slice_len (hm.ow_rep 1 rfl)
     refine gI st_70 bF (idx_lt2 aX hL3_1) rfl ?_
     obtain ⟨_, bZ, hm⟩ := hm.openE 1 rfl aX
     have b7 := hm.ow_rep 0 rfl
     have aj := b7
     obtain ⟨aI, rfl, -⟩ := id aj
     replace aj : GT.rep (hp _) [aI] aN := aj
     clear bZ aj
     replace hm : Mem w0 (hp w0) _ [ow [aI] (aN : List (List Int)), blk aC [(nV c_.params), (nV c_.regs), (sV aV aW c_.blocks.length aF)] 44, holeE aO aP aA.length aB (aH.1 : List (List (List Int))) (aM.to).toNat [aI]] := hm
     replace hm := hm.pk (L' := [ow [aI] aN, blk aC [(nV c_.params), (nV c_.regs), (sV aV aW c_.blocks.length aF)] 44, holeE aO aP aA.length aB (aH.1 : List (List (List Int))) (aM.to).toNat [aI]]) [0, 1, 2] rfl rfl
     refine gY (yl isAgg64 ((hm.holeE_at 2 rfl).cell (j := 0) rfl) rfl) (gM rfl (gf rfl (fun a hf => e_build (vs := #[(0, (nV aD)), (1, (nV (-1)))]) (cs := [(nV aD), (nV (-1))]) et_57 hf hm rfl rfl (by kernel_rfl) rfl rfl) ?_))
     rintro _ w ⟨aZ, rfl, hm⟩
     replace hm := hm.lit (xs := ([aD, -1] : List Int)) 0 rfl rfl rfl rfl
     refine gf rfl (fun a hf => e_build (vs := #[(0, (sV aZ 0 2 2))]) (cs := [(sV aZ 0 2 2)]) et_64 hf hm rfl rfl (by kernel_rfl) rfl rfl) ?_
     rintro _ w ⟨ax, rfl, hm⟩
     replace hm := hm.els_nil (α := List Int)
     replace hm := hm.imp (c' := ow [(sV aZ 0 2 2)] (([aD, -1] : List Int) : List Int)) 2 rfl (fun F h0 => h0)
     replace hm := (hm.els_cons 0 2 (by decide) rfl rfl).pk (L' := [els [(sV aZ 0 2 2)] ([([aD, -1] : List Int)] : List (List Int)), blk ax [(sV aZ 0 2 2)] 57, ow [aI] aN, blk aC [(nV c_.params), (nV c_.regs), (sV aV aW c_.blocks.length aF)] 44, holeE aO aP aA.length aB (aH.1 : List (List (List Int))) (aM.to).toNat [aI]]) [0, 1, 3, 4, 5] rfl rfl
     replace hm := (hm.lit_els 1 0 (by decide) rfl rfl rfl rfl).pk (L' := [ow [(sV ax 0 1 1)] ([([aD, -1] : List Int)] : List (List Int)), ow [aI] aN, blk aC [(nV c_.params), (nV c_.regs), (sV aV aW c_.blocks.length aF)] 44, holeE aO aP aA.length aB (aH.1 : List (List (List Int))) (aM.to).toNat [aI]]) [1, 2, 3, 4] rfl rfl
     refine gb fun aa b8 => ?_
     obtain ⟨b9, ba⟩ := appM_some.1 b8
     replace hm := (hm.both 1 0 (by decide) rfl rfl).pk (L' := [both (ow [aI] aN) (ow [(sV ax 0 1 1)] ([([aD, -1] : List Int)] : List (List Int))), blk aC [(nV c_.params), (nV c_.regs), (sV aV aW c_.blocks.length aF)] 44, holeE aO aP aA.length aB (aH.1 : List (List (List Int))) (aM.to).toNat [aI]]) [1, 2, 3] rfl rfl
     refine gf rfl (fun a hf => e_appendD (xs := aN) (ys := ([([aD, -1] : List Int)] : List (List Int))) 0 et_64 hf hm rfl rfl rfl rfl b9) ?_
     rintro ab w hm
     rw [ba] at hm
     have hL3_2 := hm.holeE_len 2 rfl
     refine gI st_70 bF (idx_lt2 aX hL3_2) rfl ?_
     have bJ : ∀ u ∈ ([ab] : List Value), u.oneCell' = true := (one_cons (rep_one (hm.ow_rep 0 rfl)) one_nil)
     refine gf0 rfl (fun a hf => e_storeH (j := 0) (vs := [ab]) 2 hf hm rfl rfl rfl sizeOf64 rfl rfl (cells_one (bJ _ (List.mem_singleton.2 rfl))) bJ rfl) ?_
     rintro _ w hm
     replace hm : Mem w0 (hp w0) _ [ow [ab] aa, blk aC [(nV c_.params), (nV c_.regs), (sV aV aW c_.blocks.length aF)] 44, holeE aO aP aA.length aB (aH.1 : List (List (List Int))) (aM.to).toNat [ab]] := hm
     refine gE ?_
     replace hm := hm.imp (c' := ow [ab] (aa : List (List Int))) 0 rfl (fun F h0 => h0)
     replace hm := (hm.shutE (y := (aa : List (List Int))) 2 0 (by decide) rfl rfl).pk (L' := [blk aC [(nV c_.params), (nV c_.regs), (sV aV aW c_.blocks.length aF)] 44, ow [(sV aO aP aA.length aB)] (aH.1.set (aM.to).toNat aa)]) [1, 2] rfl rfl
     have cQ := List.getElem?_set_self (a := (aa : List (List Int))) (idx_lt aX)
     exact gR (gM rfl (gB rfl (gA rfl (gE (gze hm [0, 1] rfl)))))
    exact gcf rfl (gXt (gHh (gLp bU bT (gz hm [0, 1] rfl))))
   repeat clear hm
   intro ah w hm
   refine gS (gR (gA rfl (gE (gJ hm (fun ak => [(1, (pV aC)), (3, (.slice aG aA.length aB)), (4, (nV aD))]) (fun ak => [blk aC [(nV c_.params), (nV c_.regs), (.slice ag c_.blocks.length aF)] 44, ow [(.slice aG aA.length aB)] ak]) (fun ak => ?_) ?_))))
   ·
    refine gBk (gMf hm (fun aE => [(1, (pV aC)), (3, (.slice aG aA.length aB)), (4, (nV aD)), (7, (nV aE.2))]) (fun aE => [blk aC [(nV c_.params), (nV c_.regs), (.slice ag c_.blocks.length aF)] 44, ow [(.slice aG aA.length aB)] aE.1]) [0, 1] rfl ?_)
    repeat clear hm
    intro cR bb aE w hm cS bc
    refine gS (gS (gR (gM rfl (gF fo_44_2 rfl (gL hm 0 isAgg42 rfl (gM rfl (gg fun cT bK am => ?_)))))))
    obtain ⟨aK, aL, cU, he⟩ := idx_form' h1 am
    obtain ⟨rfl, _, rfl⟩ := sl3 he
    obtain ⟨cV, cW, cX, bL, cY, ay, cZ⟩ := rk_Block_ h1 am
    refine gI st_42 bK (idx_lt am) rfl (gF fo_59_1 rfl (gY (yl isAgg56 ((bL.mono hm.lez).cell (j := 1) rfl) rfl) ?_))
    obtain ⟨c7, c8, rfl, c9⟩ := ro_slice ay
    refine gY (yV st_56 rfl) (gB rfl (gE (gsd 59 rfl (fun bd => ?_) fun bd => ?_)))
    ·
     refine gct rfl (gSk (gS (gJ hm (fun an => [(1, (pV aC)), (3, (.slice aG aA.length aB)), (4, (nV aD)), (7, (nV aE.2))]) (fun an => [blk aC [(nV c_.params), (nV c_.regs), (sV aK aL c_.blocks.length aF)] 44, ow [(.slice aG aA.length aB)] an]) (fun an => ?_) ?_)))
     ·
      refine gBk (gS (gR (gF fo_44_2 rfl (gL hm 0 isAgg42 rfl (gM rfl (gI st_42 bK (idx_lt am) rfl (gF fo_59_1 rfl (gY (yl isAgg56 ((bL.mono hm.lez).cell (j := 1) rfl) rfl) (gM rfl (gg fun be bf az => ?_))))))))))
      obtain ⟨ca, cb, cc, he⟩ := idx_form' ay az
      obtain ⟨rfl, _, rfl⟩ := sl3 he
      obtain ⟨bg, bh, bi⟩ := rk_Ins_ ay az
      refine gI st_56 bf (idx_lt az) rfl (gY (yn (bh.mono hm.lez) isAgg61 sizeOf61 rfl) (gC hm rfl call98 (spec_MadeBy_ok _ be bg (hm.now bi)) fun aQ cd w hm => gA rfl (gE (gS (gR (gM rfl (gB rfl (gE (gJ hm (fun ao => [(1, (pV aC)), (3, (.slice aG aA.length aB)), (4, (nV aD)), (7, (nV aE.2))]) (fun ao => [blk aC [(nV c_.params), (nV c_.regs), (sV aK aL c_.blocks.length aF)] 44, ow [(.slice aG aA.length aB)] ao]) (fun ao => ?_) ?_)))))))))
      ·
       refine gsd 73 rfl (fun bj => ?_) fun bj => ?_
       ·
        refine gct rfl (gR (gM rfl (gM rfl (gM rfl (gM rfl (gg fun aR bM aY => ?_))))))
        obtain ⟨aS, aT, ce, he⟩ := idx_form' (hm.ow_rep 1 rfl) aY
        obtain ⟨rfl, _, rfl⟩ := sl3 he
        obtain ⟨_, _, bN, bk⟩ := ro_get' (hm.ow_rep 1 rfl) aY
        have bA := bk
        obtain ⟨bO, rfl, -⟩ := id bA
        replace bA : GT.rep (hp _) [bO] aR := bA
        replace bN : CellsAt (hp _) aS (aT + (aQ).toNat * 1) [bO] := bN
        have hL5_1 := rep_slice_len (hm.ow_rep 1 rfl)
        refine gI st_70 bM (idx_lt2 aY hL5_1) rfl ?_
        obtain ⟨_, bl, hm⟩ := hm.openE 1 rfl aY
        have bm := hm.ow_rep 0 rfl
        have ap := bm
        obtain ⟨aJ, rfl, -⟩ := id ap
        replace ap : GT.rep (hp _) [aJ] aR := ap
        clear bl ap
        replace hm : Mem w0 (hp w0) _ [ow [aJ] (aR : List (List Int)), blk aC [(nV c_.params), (nV c_.regs), (sV aK aL c_.blocks.length aF)] 44, holeE aS aT aA.length aB (aE.1 : List (List (List Int))) (aQ).toNat [aJ]] := hm
        replace hm := hm.pk (L' := [ow [aJ] aR, blk aC [(nV c_.params), (nV c_.regs), (sV aK aL c_.blocks.length aF)] 44, holeE aS aT aA.length aB (aE.1 : List (List (List Int))) (aQ).toNat [aJ]]) [0, 1, 2] rfl rfl
        refine gY (yl isAgg64 ((hm.holeE_at 2 rfl).cell (j := 0) rfl) rfl) (gM rfl (gM rfl (gf rfl (fun a hf => e_build (vs := #[(0, (nV aD)), (1, (nV aE.2))]) (cs := [(nV aD), (nV aE.2)]) et_57 hf hm rfl rfl (by kernel_rfl) rfl rfl) ?_)))
        rintro _ w ⟨ac, rfl, hm⟩
        replace hm := hm.lit (xs := ([aD, aE.2] : List Int)) 0 rfl rfl rfl rfl
        refine gf rfl (fun a hf => e_build (vs := #[(0, (sV ac 0 2 2))]) (cs := [(sV ac 0 2 2)]) et_64 hf hm rfl rfl (by kernel_rfl) rfl rfl) ?_
        rintro _ w ⟨bB, rfl, hm⟩
        replace hm := hm.els_nil (α := List Int)
        replace hm := hm.imp (c' := ow [(sV ac 0 2 2)] (([aD, aE.2] : List Int) : List Int)) 2 rfl (fun F h0 => h0)
        replace hm := (hm.els_cons 0 2 (by decide) rfl rfl).pk (L' := [els [(sV ac 0 2 2)] ([([aD, aE.2] : List Int)] : List (List Int)), blk bB [(sV ac 0 2 2)] 57, ow [aJ] aR, blk aC [(nV c_.params), (nV c_.regs), (sV aK aL c_.blocks.length aF)] 44, holeE aS aT aA.length aB (aE.1 : List (List (List Int))) (aQ).toNat [aJ]]) [0, 1, 3, 4, 5] rfl rfl
        replace hm := (hm.lit_els 1 0 (by decide) rfl rfl rfl rfl).pk (L' := [ow [(sV bB 0 1 1)] ([([aD, aE.2] : List Int)] : List (List Int)), ow [aJ] aR, blk aC [(nV c_.params), (nV c_.regs), (sV aK aL c_.blocks.length aF)] 44, holeE aS aT aA.length aB (aE.1 : List (List (List Int))) (aQ).toNat [aJ]]) [1, 2, 3, 4] rfl rfl
        refine gb fun ae bo => ?_
        obtain ⟨bp, bq⟩ := appM_some.1 bo
        replace hm := (hm.both 1 0 (by decide) rfl rfl).pk (L' := [both (ow [aJ] aR) (ow [(sV bB 0 1 1)] ([([aD, aE.2] : List Int)] : List (List Int))), blk aC [(nV c_.params), (nV c_.regs), (sV aK aL c_.blocks.length aF)] 44, holeE aS aT aA.length aB (aE.1 : List (List (List Int))) (aQ).toNat [aJ]]) [1, 2, 3] rfl rfl
        refine gf rfl (fun a hf => e_appendD (xs := aR) (ys := ([([aD, aE.2] : List Int)] : List (List Int))) 0 et_64 hf hm rfl rfl rfl rfl bp) ?_
        rintro af w hm
        rw [bq] at hm
        have hL5_2 := hm.holeE_len 2 rfl
        refine gI st_70 bM (idx_lt2 aY hL5_2) rfl ?_
        have bP : ∀ u ∈ ([af] : List Value), u.oneCell' = true := (one_cons (rep_one (hm.ow_rep 0 rfl)) one_nil)
        refine gf0 rfl (fun a hf => e_storeH (j := 0) (vs := [af]) 2 hf hm rfl rfl rfl sizeOf64 rfl rfl (cells_one (bP _ (List.mem_singleton.2 rfl))) bP rfl) ?_
        rintro _ w hm
        replace hm : Mem w0 (hp w0) _ [ow [af] ae, blk aC [(nV c_.params), (nV c_.regs), (sV aK aL c_.blocks.length aF)] 44, holeE aS aT aA.length aB (aE.1 : List (List (List Int))) (aQ).toNat [af]] := hm
        refine gE ?_
        replace hm := hm.imp (c' := ow [af] (ae : List (List Int))) 0 rfl (fun F h0 => h0)
        replace hm := (hm.shutE (y := (ae : List (List Int))) 2 0 (by decide) rfl rfl).pk (L' := [blk aC [(nV c_.params), (nV c_.regs), (sV aK aL c_.blocks.length aF)] 44, ow [(sV aS aT aA.length aB)] (aE.1.set (aQ).toNat ae)]) [1, 2] rfl rfl
        have cf := List.getElem?_set_self (a := (ae : List (List Int))) (idx_lt aY)
        exact gz hm [0, 1] rfl
       exact gcf rfl (gSk (gz hm [0, 1] rfl))
      repeat clear hm
      intro ao w hm
      exact gz hm [0, 1] rfl
     repeat clear hm
     intro an w hm
     exact gR (gM rfl (gB rfl (gA rfl (gE (gze hm [0, 1] rfl)))))
    exact gcf rfl (gXt (gHh (gLp bc bb (gz hm [0, 1] rfl))))
   repeat clear hm
   intro ak w hm
   exact gR (gM rfl (gP (by omega) (by omega) rfl (gA rfl (gE (gze hm [0, 1] rfl)))))
  repeat clear hm
  intro cg ci w hm cj ck
  refine gS (gS (gR (gM rfl (gF fo_44_2 rfl (gL hm 0 isAgg42 rfl ?_)))))
  obtain ⟨cl, cm, rfl, cn⟩ := ro_slice h1
  exact gY (yV st_42 rfl) (gB rfl (gE (go _ 16 rfl (decide_eq_false (by omega)) (gcf rfl (gXt (gHh (gS (gR (gM rfl (gA rfl (gE (gRt (gr1 results53 rfl ⟨(.slice aG aA.length aB), rfl, hm.pk [1] rfl rfl⟩)))))))))))))
theorem spec_l11Doms_ok (w0 : World) (c_ : Code_) (v1 : Value) (h1 : GT.rep (hp w0) [v1] c_.blocks) :
    ConM Tryz.prog 212 [(.agg #[(nV c_.params), (nV c_.regs), v1])] w0 (spec_l11Doms c_) fun r v w' => ∃ (x1 : Value), v = x1 ∧ Mem w0 (hp w0) w' [ow [x1] r] := by
  unfold spec_l11Doms
  refine gcon func212 rfl fun r => ?_
  have hm := Mem.start w0
  refine gS (gR (gBx hm rfl fun aD w hm => gA rfl (gE (gS (gR (gF fo_44_2 rfl (gL hm 0 isAgg42 rfl ?_)))))))
  obtain ⟨aG, aH, rfl, bb⟩ := ro_slice h1
  refine gY (yV st_42 rfl) (gA rfl (gE (gS (gR (gf rfl (fun a hf => e_build0 (α := List Bool) et_99 hm rfl) ?_)))))
  rintro aw w hm
  refine gA rfl (gE (gS (gR (gM rfl (gb fun ac ax => ?_)))))
  obtain ⟨⟨ay, az⟩, ai⟩ := makeM_some.1 ax
  refine gf rfl (fun a hf => e_make (x0 := (false : Bool)) et_98 (fun _ => (Flat.own_iff.2 rfl)) hf hm rfl rfl rfl ay (Int.le_refl _) az) ?_
  rintro aj w hm
  rw [ai] at hm
  have h0_1l : (ac.length : Int) = (c_.blocks.length : Int) := by rw [← ai]; simp only [List.length_replicate]; omega
  refine gA rfl (gE (gS (gR (gY (yn (hm.blk_at 2 rfl) isAgg44 sizeOf44 rfl) (gM rfl (gf rfl (fun a hf => e_build0 (α := Int) et_57 hm rfl) ?_))))))
  rintro ak w hm
  obtain ⟨bA, hle, hm1, hsub, bB⟩ := hm.take2 (L1 := [ow [aj] ac, ow [ak] ([] : List Int)]) (L2 := [ow [aw] ([] : List (List Bool)), blk aD [(nV c_.params), (nV c_.regs), (.slice aG c_.blocks.length aH)] 44]) [1, 0] [2, 3] (by decide) rfl rfl
  refine gCg rfl call222 (spec_l10Visit_ok _ bA c_ (.slice aG c_.blocks.length aH) (GT.mono hle h1) 0 ac aj ([] : List Int) ak hm1 ) ?_
  rintro aA bc bd w ⟨_, rfl, hB⟩
  replace hm := bB _ _ hB; clear hB
  refine gE (gS (gS (gR (gA rfl (gE ?_)))))
  obtain ⟨bC, bD, rfl, be⟩ := ro_slice (hm.ow_rep 2 rfl)
  obtain ⟨aE, aF, rfl, bf⟩ := ro_slice (hm.ow_rep 1 rfl)
  refine gBk (gNg (fun aP aB a w => ∃ (aS : Value), St 74 [(1, (pV aD)), (3, (nV ((c_.blocks.length : Int)))), (4, aS), (5, (.slice aE aA.2.length aF)), (6, (nV aP))] w0 (hp w0) [blk aD [(nV c_.params), (nV c_.regs), (.slice aG c_.blocks.length aH)] 44, ow [aS] aB, ow [(.slice aE aA.2.length aF)] aA.2] a w) (fun a hf => ⟨(.slice bC ([] : List (List Bool)).length bD), hf.sb rfl, hm.pk [3, 2, 1] rfl rfl⟩) ?_ ?_)
  ·
   repeat clear hm
   rintro _ _ aP aB a w ⟨aS, hf, hm⟩ bg bh bi _
   refine gv hf (gS (gS (gR (gM rfl (gM rfl (gB rfl (gE (go _ 22 rfl (decide_eq_true (by omega)) (gct rfl (gSk (gS (gBk (gS (gR (gM rfl (gb fun aC bE => ?_))))))))))))))))
   obtain ⟨⟨bF, bG⟩, am⟩ := makeM_some.1 bE
   refine gf rfl (fun a hf => e_make (x0 := (false : Bool)) et_98 (fun _ => (Flat.own_iff.2 rfl)) hf hm rfl rfl rfl bF (Int.le_refl _) bG) ?_
   rintro bj w hm
   rw [am] at hm
   have h1_1l : (aC.length : Int) = (c_.blocks.length : Int) := by rw [← am]; simp only [List.length_replicate]; omega
   refine gA rfl (gE (gS (gR (gM rfl (gM rfl (gg fun bk an aT => ?_))))))
   obtain ⟨aI, aJ, aK, he⟩ := idx_form (hm.ow_rep 0 rfl) aT
   subst he
   refine gI st_98 an (idx_lt aT) rfl (gf0 rfl (fun a hf => e_setElem (x1 := true) (j := 0) (vs := [(.bool (true))]) 0 hf hm rfl aT rfl sizeOf4 rfl rfl rfl (one_cons rfl one_nil) rfl rfl) ?_)
   rintro _ w hm
   have ao := List.getElem?_set_self (a := true) (idx_lt aT)
   refine gE (gS (gS (gR (gM rfl (gB rfl (gE (gJ hm (fun aM => [(1, (pV aD)), (3, (nV ((c_.blocks.length : Int)))), (4, aS), (5, (.slice aE aA.2.length aF)), (6, (nV aP)), (7, (sV aI aJ aC.length aK))]) (fun aM => [blk aD [(nV c_.params), (nV c_.regs), (.slice aG c_.blocks.length aH)] 44, ow [aS] aB, ow [(.slice aE aA.2.length aF)] aA.2, ow [(sV aI aJ aC.length aK)] aM]) (fun aM => ?_) ?_)))))))
   ·
    refine gsd 31 rfl (fun bH => ?_) fun bH => ?_
    ·
     refine gct rfl (gS (gR (gY (yn (hm.blk_at 1 rfl) isAgg44 sizeOf44 rfl) (gM rfl (gf rfl (fun a hf => e_build0 (α := Int) et_57 hm rfl) ?_)))))
     rintro ap w hm
     obtain ⟨bJ, hle, hm1, hsub, bK⟩ := hm.take2 (L1 := [ow [(sV aI aJ aC.length aK)] (aC.set (aP).toNat true), ow [ap] ([] : List Int)]) (L2 := [blk aD [(nV c_.params), (nV c_.regs), (.slice aG c_.blocks.length aH)] 44, ow [aS] aB, ow [(.slice aE aA.2.length aF)] aA.2]) [1, 0] [2, 3, 4] (by decide) rfl rfl
     refine gCg rfl call222 (spec_l10Visit_ok _ bJ c_ (.slice aG c_.blocks.length aH) (GT.mono hle h1) 0 (aC.set (aP).toNat true) (sV aI aJ aC.length aK) ([] : List Int) ap hm1 ) ?_
     rintro bl bm bo w ⟨_, rfl, hB⟩
     replace hm := bK _ _ hB; clear hB
     refine gE (gR (gM rfl (gM rfl (gg fun bp bL ae => ?_))))
     have hL2_1 := rep_slice_len (hm.ow_rep 1 rfl)
     refine gI st_98 bL (idx_lt2 ae hL2_1) rfl (gf0 rfl (fun a hf => e_setElem (x1 := false) (j := 0) (vs := [(.bool (false))]) 1 hf hm rfl ae rfl sizeOf4 rfl rfl rfl (one_cons rfl one_nil) rfl rfl) ?_)
     rintro _ w hm
     have bq := List.getElem?_set_self (a := false) (idx_lt ae)
     exact gE (gz hm [2, 3, 4, 1] rfl)
    refine gcf rfl (gR (gM rfl (gM rfl ?_)))
    have hL2_2 := rep_slice_len (hm.ow_rep 0 rfl)
    refine gI st_98 an (idx_lt2 ao hL2_2) rfl (gf0 rfl (fun a hf => e_setElem (x1 := false) (j := 0) (vs := [(.bool (false))]) 0 hf hm rfl ao rfl sizeOf4 rfl rfl rfl (one_cons rfl one_nil) rfl rfl) ?_)
    rintro _ w hm
    have br := List.getElem?_set_self (a := false) (idx_lt aT)
    simp only [List.set_set] at hm
    exact gE (gz hm [1, 2, 3, 0] rfl)
   repeat clear hm
   intro aM w hm
   refine gS (gR (gM rfl (gb fun aL bM => ?_)))
   obtain ⟨⟨bN, bO⟩, aq⟩ := makeM_some.1 bM
   refine gf rfl (fun a hf => e_make (x0 := (false : Bool)) et_98 (fun _ => (Flat.own_iff.2 rfl)) hf hm rfl rfl rfl bN (Int.le_refl _) bO) ?_
   rintro bs w hm
   rw [aq] at hm
   have h1_3l : (aL.length : Int) = (c_.blocks.length : Int) := by rw [← aq]; simp only [List.length_replicate]; omega
   refine gA rfl (gE (gS (gS (gR (gA rfl (gE ?_))))))
   obtain ⟨aQ, aR, rfl, bt⟩ := ro_slice (hm.ow_rep 2 rfl)
   obtain ⟨aN, aO, rfl, bu⟩ := ro_slice (hm.ow_rep 0 rfl)
   refine gBk (gNf hm (fun aW af => [(1, (pV aD)), (3, (nV ((c_.blocks.length : Int)))), (4, (.slice aQ aB.length aR)), (5, (.slice aE aA.2.length aF)), (6, (nV aP)), (7, (sV aI aJ aC.length aK)), (8, (.slice aN aL.length aO)), (9, (nV aW))]) (fun aW af => [blk aD [(nV c_.params), (nV c_.regs), (.slice aG c_.blocks.length aH)] 44, ow [(.slice aQ aB.length aR)] aB, ow [(.slice aE aA.2.length aF)] aA.2, ow [(sV aI aJ aC.length aK)] aM, ow [(.slice aN aL.length aO)] af]) [1, 2, 3, 4, 0] rfl ?_ ?_)
   ·
    repeat clear hm
    intro _ _ aW af w hm bv bw bx _
    refine gS (gS (gR (gM rfl (gM rfl (gB rfl (gE (go _ 46 rfl (decide_eq_true (by omega)) (gct rfl (gSk (gS (gBk (gJ hm (fun aX => [(1, (pV aD)), (3, (nV ((c_.blocks.length : Int)))), (4, (.slice aQ aB.length aR)), (5, (.slice aE aA.2.length aF)), (6, (nV aP)), (7, (sV aI aJ aC.length aK)), (8, (.slice aN aL.length aO)), (9, (nV aW))]) (fun aX => [blk aD [(nV c_.params), (nV c_.regs), (.slice aG c_.blocks.length aH)] 44, ow [(.slice aQ aB.length aR)] aB, ow [(.slice aE aA.2.length aF)] aA.2, ow [(sV aI aJ aC.length aK)] aM, ow [(.slice aN aL.length aO)] aX]) (fun aX => ?_) ?_))))))))))))
    ·
     refine gR (gM rfl (gM rfl (gM rfl (gM rfl (gg fun bP bQ ag => ?_)))))
     obtain ⟨bz, cA, cB, he⟩ := idx_form (hm.ow_rep 2 rfl) ag
     obtain ⟨rfl, _, rfl⟩ := sl3 he
     refine gI st_98 bQ (idx_lt ag) rfl (gY (yl isAgg4 ((flat_cells (cs := [(.bool (bP))]) (hm.ow_rep 2 rfl) ag rfl).cell (j := 0) rfl) rfl) (gM rfl (gs 55 rfl (fun bR => ?_) fun bR => ?_)))
     ·
      refine gM rfl (gM rfl (gg fun bS bT ar => gI st_98 bT (idx_lt ar) rfl (gY (yl isAgg4 ((flat_cells (cs := [(.bool (bS))]) (hm.ow_rep 2 rfl) ar rfl).cell (j := 0) rfl) rfl) (gKt rfl (gM rfl (gs 61 rfl (fun bU => ?_) fun bU => ?_))))))
      ·
       refine gM rfl (gM rfl (gg fun aY bV au => ?_))
       have hL3_1 := rep_slice_len (hm.ow_rep 3 rfl)
       refine gI st_98 bV (idx_lt2 au hL3_1) rfl (gY (yl isAgg4 ((flat_cells (cs := [(.bool (aY))]) (hm.ow_rep 3 rfl) au rfl).cell (j := 0) rfl) rfl) (gN rfl (gKt rfl (gg fun cC bW aZ => ?_))))
       obtain ⟨cD, cE, cF, he⟩ := idx_form (hm.ow_rep 4 rfl) aZ
       obtain ⟨rfl, _, rfl⟩ := sl3 he
       have hL3_2 := rep_slice_len (hm.ow_rep 4 rfl)
       refine gI st_98 bW (idx_lt2 aZ hL3_2) rfl (gf0 rfl (fun a hf => e_setElem (x1 := !(aY)) (j := 0) (vs := [(.bool (!(aY)))]) 4 hf hm rfl aZ rfl sizeOf4 rfl rfl rfl (one_cons rfl one_nil) rfl rfl) ?_)
       rintro _ w hm
       have cG := List.getElem?_set_self (a := !(aY)) (idx_lt aZ)
       exact gE (gz hm [0, 1, 2, 3, 4] rfl)
      refine gO rfl (gO rfl (gO rfl (gO rfl (gO rfl (gKf rfl (gg fun cH bX aa => ?_))))))
      obtain ⟨cI, cJ, cK, he⟩ := idx_form (hm.ow_rep 4 rfl) aa
      obtain ⟨rfl, _, rfl⟩ := sl3 he
      have hL3_3 := rep_slice_len (hm.ow_rep 4 rfl)
      refine gI st_98 bX (idx_lt2 aa hL3_3) rfl (gf0 rfl (fun a hf => e_setElem (x1 := false) (j := 0) (vs := [(.bool (false))]) 4 hf hm rfl aa rfl sizeOf4 rfl rfl rfl (one_cons rfl one_nil) rfl rfl) ?_)
      rintro _ w hm
      have cL := List.getElem?_set_self (a := false) (idx_lt aa)
      exact gE (gz hm [0, 1, 2, 3, 4] rfl)
     refine gO rfl (gO rfl (gO rfl (gO rfl (gKf rfl (gM rfl (gO rfl (gO rfl (gO rfl (gO rfl (gO rfl (gKf rfl (gg fun cM bY ab => ?_))))))))))))
     obtain ⟨cN, cO, cP, he⟩ := idx_form (hm.ow_rep 4 rfl) ab
     obtain ⟨rfl, _, rfl⟩ := sl3 he
     have hL3_4 := rep_slice_len (hm.ow_rep 4 rfl)
     refine gI st_98 bY (idx_lt2 ab hL3_4) rfl (gf0 rfl (fun a hf => e_setElem (x1 := false) (j := 0) (vs := [(.bool (false))]) 4 hf hm rfl ab rfl sizeOf4 rfl rfl rfl (one_cons rfl one_nil) rfl rfl) ?_)
     rintro _ w hm
     have cQ := List.getElem?_set_self (a := false) (idx_lt ab)
     exact gE (gz hm [0, 1, 2, 3, 4] rfl)
    repeat clear hm
    intro aX w hm
    exact gR (gM rfl (gP (by omega) (by omega) rfl (gA rfl (gE (gze hm [0, 1, 2, 3, 4] rfl)))))
   repeat clear hm
   intro cR aV w hm cS cT
   refine gS (gS (gR (gM rfl (gM rfl (gB rfl (gE (go _ 46 rfl (decide_eq_false (by omega)) (gcf rfl (gXt (gHh (gR (gM rfl (gM rfl (gf rfl (fun a hf => e_build (vs := #[(0, (.slice aN aL.length aO))]) (cs := [(.slice aN aL.length aO)]) et_99 hf hm rfl rfl (by kernel_rfl) rfl rfl) ?_))))))))))))))
   rintro _ w ⟨ah, rfl, hm⟩
   replace hm := hm.els_nil (α := List Bool)
   replace hm := hm.imp (c' := ow [(.slice aN aL.length aO)] (aV : List Bool)) 6 rfl (fun F h0 => h0)
   replace hm := (hm.els_cons 0 6 (by decide) rfl rfl).pk (L' := [els [(.slice aN aL.length aO)] ([aV] : List (List Bool)), blk ah [(.slice aN aL.length aO)] 98, blk aD [(nV c_.params), (nV c_.regs), (.slice aG c_.blocks.length aH)] 44, ow [(.slice aQ aB.length aR)] aB, ow [(.slice aE aA.2.length aF)] aA.2, ow [(sV aI aJ aC.length aK)] aM]) [0, 1, 2, 3, 4, 5] rfl rfl
   replace hm := (hm.lit_els 1 0 (by decide) rfl rfl rfl rfl).pk (L' := [ow [(sV ah 0 1 1)] ([aV] : List (List Bool)), blk aD [(nV c_.params), (nV c_.regs), (.slice aG c_.blocks.length aH)] 44, ow [(.slice aQ aB.length aR)] aB, ow [(.slice aE aA.2.length aF)] aA.2, ow [(sV aI aJ aC.length aK)] aM]) [1, 2, 3, 4, 5] rfl rfl
   refine gb fun cU bZ => ?_
   obtain ⟨b7, b8⟩ := appM_some.1 bZ
   replace hm := (hm.both 2 0 (by decide) rfl rfl).pk (L' := [blk aD [(nV c_.params), (nV c_.regs), (.slice aG c_.blocks.length aH)] 44, both (ow [(.slice aQ aB.length aR)] aB) (ow [(sV ah 0 1 1)] ([aV] : List (List Bool))), ow [(.slice aE aA.2.length aF)] aA.2, ow [(sV aI aJ aC.length aK)] aM]) [1, 2, 3, 4] rfl rfl
   refine gf rfl (fun a hf => e_appendD (xs := aB) (ys := ([aV] : List (List Bool))) 1 et_99 hf hm rfl rfl rfl rfl b7) ?_
   rintro b9 w hm
   rw [b8] at hm
   exact gA rfl (gE (gR (gM rfl (gP (by omega) (by omega) rfl (gA rfl (gE (gZe fun a hf => ⟨b9, hf.sb rfl, hm.pk [0, 1, 2] rfl rfl⟩)))))))
  repeat clear hm
  rintro cV cW a w ⟨ba, hf, hm⟩ cX cY
  exact gv hf (gS (gS (gR (gM rfl (gM rfl (gB rfl (gE (go _ 22 rfl (decide_eq_false (by omega)) (gcf rfl (gXt (gHh (gS (gR (gM rfl (gA rfl (gE (gRt (gr1 results212 rfl ⟨ba, rfl, hm.pk [1] rfl rfl⟩))))))))))))))))))
theorem spec_l13Rules_ok (w0 : World) (c_ : Code_) (v1 : Value) (h1 : GT.rep (hp w0) [v1] c_.blocks) (sets : List (List (List Int))) (v2 : Value) (h2 : GT.rep (hp w0) [v2] sets) (doms : List (List Bool)) (v3 : Value) (h3 : GT.rep (hp w0) [v3] doms) (r_ : Int) (b_ : Int) (i_ : Int) :
    ConM Tryz.prog 267 [(.agg #[(nV c_.params), (nV c_.regs), v1]), v2, v3, (nV r_), (nV b_), (nV i_)] w0 (spec_l13Rules c_ sets doms r_ b_ i_) fun r v w' => v = (.bool (r)) ∧ Below w0.heap.size w0 w' := by
  unfold spec_l13Rules
  refine gcon func267 rfl fun r => ?_
  have hm := Mem.start w0
  refine gS (gR (gBx hm rfl fun aq w hm => gA rfl (gE (gS (gS (gR (gM rfl (gF fo_44_0 rfl (gL hm 0 isAgg3 rfl (gB rfl (gE (gsd 17 rfl (fun aS => ?_) fun aS => ?_))))))))))))
  ·
   exact gct rfl (gS (gR (gA rfl (gE (gRt (gr1 results267 rfl ⟨rfl, hm.below⟩))))))
  refine gcf rfl (gSk (gS (gS (gR (gM rfl (gM rfl (gg fun aT aM aE => ?_)))))))
  obtain ⟨aV, aW, ar, he⟩ := idx_form' h2 aE
  subst he
  obtain ⟨_, _, aF, aX⟩ := ro_get' h2 aE
  have aB := aX
  obtain ⟨aN, rfl, -⟩ := id aB
  replace aB : GT.rep (hp w0) [aN] aT := aB
  replace aF : CellsAt (hp w0) aV (aW + (r_).toNat * 1) [aN] := aF
  refine gI st_70 aM (idx_lt aE) rfl (gY (yl isAgg64 ((aF.mono hm.lez).cell (j := 0) rfl) rfl) ?_)
  obtain ⟨au, aw, rfl, ax⟩ := ro_slice aB
  refine gY (yV st_64 rfl) (gB rfl (gE (gsd 23 rfl (fun aY => ?_) fun aY => ?_)))
  ·
   exact gct rfl (gS (gR (gA rfl (gE (gRt (gr1 results267 rfl ⟨rfl, hm.below⟩))))))
  refine gcf rfl (gSk (gS (gR (gM rfl (gM rfl (gI st_70 aM (idx_lt aE) rfl (gY (yl isAgg64 ((aF.mono hm.lez).cell (j := 0) rfl) rfl) (gg fun aZ aa aG => ?_))))))))
  obtain ⟨ab, ac, ay, he⟩ := idx_form' aB aG
  obtain ⟨rfl, _, rfl⟩ := sl3 he
  obtain ⟨_, _, aH, ae⟩ := ro_get' aB aG
  have aA := ae
  obtain ⟨aO, rfl, -⟩ := id aA
  replace aA : GT.rep (hp w0) [aO] aZ := aA
  replace aH : CellsAt (hp w0) ab (ac + (0 : Int).toNat * 1) [aO] := aH
  refine gI st_64 aa (idx_lt aG) rfl (gY (yl isAgg57 ((aH.mono hm.lez).cell (j := 0) rfl) rfl) (gA rfl (gE (gS (gS (gR (gM rfl (gg fun aI aP aC => ?_))))))))
  obtain ⟨az, bA, bB, he⟩ := idx_form aA aC
  subst he
  refine gI st_57 aP (idx_lt aC) rfl (gY (yl isAgg3 ((flat_cells (cs := [(nV aI)]) (hm.now aA) aC rfl).cell (j := 0) rfl) rfl) (gM rfl (gB rfl (gE (gsd 34 rfl (fun af => ?_) fun af => ?_)))))
  ·
   exact gct rfl (gS (gR (gM rfl (gg fun ag ah aQ => gI st_57 ah (idx_lt aQ) rfl (gY (yl isAgg3 ((flat_cells (cs := [(nV ag)]) (hm.now aA) aQ rfl).cell (j := 0) rfl) rfl) (gM rfl (gB rfl (gA rfl (gE (gRt (gr1 results267 rfl ⟨rfl, hm.below⟩)))))))))))
  refine gcf rfl (gSk (gS (gR (gM rfl (gM rfl (gI st_57 aP (idx_lt aC) rfl (gY (yl isAgg3 ((flat_cells (cs := [(nV aI)]) (hm.now aA) aC rfl).cell (j := 0) rfl) rfl) (gg fun ai aj aJ => ?_))))))))
  obtain ⟨ak, am, bC, he⟩ := idx_form' h3 aJ
  subst he
  obtain ⟨_, _, aK, an⟩ := ro_get' h3 aJ
  have aD := an
  obtain ⟨aR, rfl, -⟩ := id aD
  replace aD : GT.rep (hp w0) [aR] ai := aD
  replace aK : CellsAt (hp w0) ak (am + (aI).toNat * 1) [aR] := aK
  refine gI st_99 aj (idx_lt aJ) rfl (gY (yl isAgg98 ((aK.mono hm.lez).cell (j := 0) rfl) rfl) (gM rfl (gg fun ao ap aL => ?_)))
  obtain ⟨bD, bE, bF, he⟩ := idx_form aD aL
  subst he
  exact gI st_98 ap (idx_lt aL) rfl (gY (yl isAgg4 ((flat_cells (cs := [(.bool (ao))]) (hm.now aD) aL rfl).cell (j := 0) rfl) rfl) (gA rfl (gE (gRt (gr1 results267 rfl ⟨rfl, hm.below⟩)))))
theorem spec_l13Block_ok (w0 : World) (c_ : Code_) (v1 : Value) (h1 : GT.rep (hp w0) [v1] c_.blocks) (sets : List (List (List Int))) (v2 : Value) (h2 : GT.rep (hp w0) [v2] sets) (doms : List (List Bool)) (v3 : Value) (h3 : GT.rep (hp w0) [v3] doms) (b_ : Int) :
    ConM Tryz.prog 213 [(.agg #[(nV c_.params), (nV c_.regs), v1]), v2, v3, (nV b_)] w0 (spec_l13Block c_ sets doms b_) fun r v w' => v = (.bool (r)) ∧ Below w0.heap.size w0 w' := by
  unfold spec_l13Block
  refine gcon func213 rfl fun r => ?_
  have hm := Mem.start w0
  refine gS (gR (gBx hm rfl fun aB w hm => gA rfl (gE (gS (gR (gF fo_44_2 rfl (gL hm 0 isAgg42 rfl (gM rfl (gg fun aA az aV => ?_)))))))))
  obtain ⟨aD, aE, aF, he⟩ := idx_form' h1 aV
  subst he
  obtain ⟨bA, aO, aH, bB, aJ, aK, bC⟩ := rk_Block_ h1 aV
  refine gI st_42 az (idx_lt aV) rfl (gY (yn (bB.mono hm.lez) isAgg59 sizeOf59 rfl) (gAl hm zeroValue59 rfl fun aC w hm => gSN hm 0 sizeOf59 (one_cons (rep_one aJ) (one_cons (rep_one aK) (one_cons rfl (one_cons rfl (one_cons (rep_one bC) one_nil))))) rfl fun w hm => gE (gS (gR (gY (yn (hm.blk_at 1 rfl) isAgg44 sizeOf44 rfl) (gM rfl (gCg rfl call66 (spec_l7Preds_ok _ c_ (sV aD aE c_.blocks.length aF) (hm.now h1) b_) ?_)))))))
  rintro aG b8 b9 w ⟨_, rfl, hB⟩
  replace hm := hm.give hB; clear hB
  refine gA rfl (gE (gS (gS (gR (gA rfl (gE ?_))))))
  obtain ⟨aL, aM, rfl, ba⟩ := ro_slice (hm.ow_rep 0 rfl)
  refine gBk (gNf hm (fun aP af => [(1, v2), (2, v3), (3, (nV b_)), (4, (pV aB)), (9, (pV aC)), (10, (.slice aL aG.length aM)), (11, (nV aP))]) (fun aP af => [blk aB [(nV c_.params), (nV c_.regs), (sV aD aE c_.blocks.length aF)] 44, blk aC [bA, aO, (nV aA.jump), (nV aA.on), aH] 59, ow [(.slice aL aG.length aM)] aG]) [2, 1, 0] rfl ?_ ?_)
  ·
   repeat clear hm
   intro bb bD aP af w hm bc bd be bE
   refine gS (gS (gR (gM rfl (gF fo_59_0 rfl (gL hm 1 isAgg55 rfl ?_)))))
   obtain ⟨ag, ah, rfl, bf⟩ := ro_slice aJ
   refine gY (yV st_55 rfl) (gB rfl (gE (go _ 27 rfl (decide_eq_true (by omega)) (gct rfl (gSk (gS (gBk (gS (gR (gA rfl (gE (gBk (gNf hm (fun aW ai => [(1, v2), (2, v3), (3, (nV b_)), (4, (pV aB)), (9, (pV aC)), (10, (.slice aL aG.length aM)), (11, (nV aP)), (12, (nV aW))]) (fun aW ai => [blk aB [(nV c_.params), (nV c_.regs), (sV aD aE c_.blocks.length aF)] 44, blk aC [(.slice ag aA.phis.length ah), aO, (nV aA.jump), (nV aA.on), aH] 59, ow [(.slice aL aG.length aM)] aG]) [0, 1, 2] rfl ?_ ?_)))))))))))))
   ·
    repeat clear hm
    intro bg bF aW ai w hm bh bi bj bG
    refine gS (gS (gR (gM rfl (gM rfl (gY (yV st_57 rfl) (gB rfl (gE (go _ 33 rfl (decide_eq_true (by omega)) (gct rfl (gSk (gS (gBk (gS (gW (.p 1 (.p 2 (.p 3 (.p 5 (.p 9 (.p 12 (.p 13 (.p 14 (.p 16 (.p 18 (.p 19 (.p 20 (.q 0 (.q 4 (.p 6 (.p 7 (.q 8 (.p 10 (.q 11 (.q 15 (.q 17 (.e 21 (.p 22 (.p 23 (.e 24 (.p 25 (.e 26 (.p 27 .fin) .nil)) .nil))) .nil)))))))))))))))))))))) [0, 4, 8, 11, 15, 17, 21, 24] [1, 2, 3, 5, 6, 7, 9, 10, 12, 13, 14, 16, 18, 19, 20, 22, 23, 25, 27] hm [0, 1, 2] [blk aB [(nV c_.params), (nV c_.regs), (sV aD aE c_.blocks.length aF)] 44, blk aC [(.slice ag aA.phis.length ah), aO, (nV aA.jump), (nV aA.on), aH] 59, ow [(.slice aL aG.length aM)] aG] rfl mxo (by kernel_rfl) (fun _ _ _ h => h.2) fun w hm hS => tP rfl (fun w => yM rfl) (tP rfl (fun w => yM rfl) (tP rfl (fun w => yF fo_59_0 rfl) (tP rfl (fun w => yM rfl) (tP rfl (fun w => yM rfl) (tP rfl (fun w => yM rfl) (tP rfl (fun w => yM rfl) (gg fun aX aj aN => ?_)))))))))))))))))))))
    obtain ⟨bk, bl, bm, he⟩ := idx_form (hm.ow_rep 2 rfl) aN
    obtain ⟨rfl, _, rfl⟩ := sl3 he
    refine tP rfl (fun w => yI st_57 aj (idx_lt aN) rfl) (tP rfl (fun w => yF fo_44_2 rfl) (tP rfl (fun w => yM rfl) (tP rfl (fun w => yM rfl) (tP rfl (fun w => yI st_57 aj (idx_lt aN) rfl) (tQ rfl hS (fun w hm => yn (hm.blk_at 0 rfl) isAgg44 sizeOf44 rfl) (tQ rfl hS (fun w hm => yL hm 1 isAgg55 rfl) (gg fun bo bH aY => ?_)))))))
    obtain ⟨bp, bq, br, he⟩ := idx_form' aJ aY
    obtain ⟨rfl, _, rfl⟩ := sl3 he
    obtain ⟨bs, bJ, ak⟩ := rk_Phi_ aJ aY
    refine tP rfl (fun w => yI st_55 bH (idx_lt aY) rfl) (tP rfl (fun w => yF fo_87_1 rfl) (tQ rfl hS (fun w hm => yl isAgg57 ((bJ.mono hm.lez).cell (j := 1) rfl) rfl) (gg fun am bK aZ => ?_)))
    obtain ⟨bt, bu, bv, he⟩ := idx_form ak aZ
    subst he
    refine tP rfl (fun w => yI st_57 bK (idx_lt aZ) rfl) (tQ rfl hS (fun w hm => yl isAgg3 ((flat_cells (cs := [(nV am)]) (hm.now ak) aZ rfl).cell (j := 0) rfl) rfl) (tQ rfl hS (fun w hm => yl isAgg3 ((flat_cells (cs := [(nV aX)]) (hm.ow_rep 2 rfl) aN rfl).cell (j := 0) rfl) rfl) (tQ rfl hS (fun w hm => yL hm 0 isAgg42 rfl) (tO (tY rfl (yl isAgg3 ((flat_cells (cs := [(nV aX)]) (hm.ow_rep 2 rfl) aN rfl).cell (j := 0) rfl) rfl) (tAs hS (gg fun bL bM an => ?_)))))))
    obtain ⟨bw, bx, bz, bN, cA, bO, cB⟩ := rk_Block_ h1 an
    refine tP rfl (fun w => yI st_42 bM (idx_lt an) rfl) (tP rfl (fun w => yF fo_59_1 rfl) (tO (tY rfl (yl isAgg56 ((bN.mono hm.lez).cell (j := 1) rfl) rfl) (tAs hS ?_))))
    obtain ⟨cC, cD, rfl, cE⟩ := ro_slice bO
    refine tP rfl (fun w => yV st_56 rfl) (tO (gb fun cF bP => tf rfl rfl (fun a hf => e_call hf rfl call267 rfl (spec_l13Rules_ok _ c_ (sV aD aE c_.blocks.length aF) (hm.now h1) sets v2 (hm.now h2) doms v3 (hm.now h3) am aX (bL.ins.length : Int) _ bP)) ?_))
    rintro cG w ⟨rfl, hB⟩
    replace hm := hm.below' hB; clear hB
    refine tAn rfl (tP rfl (fun w => yN rfl) (tE (gsn 63 rfl (fun bQ => ?_) fun bQ => ?_)))
    ·
     exact gct rfl (gS (gR (gA rfl (gE (gRt (gLr bG bF (gLr bE bD (gr1 results213 rfl ⟨rfl, hm.below⟩))))))))
    exact gcf rfl (gSk (gR (gM rfl (gP (by omega) (by omega) rfl (gA rfl (gE (gze hm [0, 1, 2] rfl)))))))
   repeat clear hm
   intro cH cI w hm cJ cK
   exact gS (gS (gR (gM rfl (gM rfl (gY (yV st_57 rfl) (gB rfl (gE (go _ 33 rfl (decide_eq_false (by omega)) (gcf rfl (gXt (gHh (gR (gM rfl (gP (by omega) (by omega) rfl (gA rfl (gE (gze hm [0, 1, 2] rfl)))))))))))))))))
  repeat clear hm
  intro cL cM w hm cN cO
  refine gS (gS (gR (gM rfl (gF fo_59_0 rfl (gL hm 1 isAgg55 rfl ?_)))))
  obtain ⟨aQ, aR, rfl, cP⟩ := ro_slice aJ
  refine gY (yV st_55 rfl) (gB rfl (gE (go _ 27 rfl (decide_eq_false (by omega)) (gcf rfl (gXt (gHh (gS (gS (gR (gA rfl (gE (gBk (gNf hm (fun aI ao => [(1, v2), (2, v3), (3, (nV b_)), (4, (pV aB)), (9, (pV aC)), (13, (nV aI))]) (fun aI ao => [blk aB [(nV c_.params), (nV c_.regs), (sV aD aE c_.blocks.length aF)] 44, blk aC [(.slice aQ aA.phis.length aR), aO, (nV aA.jump), (nV aA.on), aH] 59]) [0, 1] rfl ?_ ?_)))))))))))))
  ·
   repeat clear hm
   intro cQ bR aI ao w hm cR cS cT bS
   refine gS (gS (gR (gM rfl (gF fo_59_1 rfl (gL hm 1 isAgg56 rfl ?_)))))
   obtain ⟨ap, aa, rfl, cU⟩ := ro_slice aK
   refine gY (yV st_56 rfl) (gB rfl (gE (go _ 68 rfl (decide_eq_true (by omega)) (gct rfl (gSk (gS (gBk (gS (gR (gA rfl (gE (gJe hm (fun aq => [(1, v2), (2, v3), (3, (nV b_)), (4, (pV aB)), (9, (pV aC)), (13, (nV aI))]) (fun aq => [blk aB [(nV c_.params), (nV c_.regs), (sV aD aE c_.blocks.length aF)] 44, blk aC [(.slice aQ aA.phis.length aR), (.slice ap aA.ins.length aa), (nV aA.jump), (nV aA.on), aH] 59]) (fun cV bT => ?_) ?_))))))))))))
   ·
    refine gBk (gMf hm (fun ab => [(1, v2), (2, v3), (3, (nV b_)), (4, (pV aB)), (9, (pV aC)), (13, (nV aI)), (14, (nV ab))]) (fun ab => [blk aB [(nV c_.params), (nV c_.regs), (sV aD aE c_.blocks.length aF)] 44, blk aC [(.slice aQ aA.phis.length aR), (.slice ap aA.ins.length aa), (nV aA.jump), (nV aA.on), aH] 59]) [0, 1] rfl ?_)
    repeat clear hm
    intro cW ar ab w hm cX au
    refine gS (gS (gR (gM rfl (gF fo_59_1 rfl (gL hm 1 isAgg56 rfl (gM rfl (gg fun cY aw aS => ?_)))))))
    obtain ⟨bU, bV, cZ, he⟩ := idx_form' aK aS
    obtain ⟨rfl, _, rfl⟩ := sl3 he
    obtain ⟨c7, ax, ac⟩ := rk_Ins_ aK aS
    refine gI st_56 aw (idx_lt aS) rfl (gF fo_61_2 rfl (gY (yl isAgg57 ((ax.mono hm.lez).cell (j := 2) rfl) rfl) ?_))
    obtain ⟨c8, c9, rfl, ca⟩ := ro_slice ac
    refine gY (yV st_57 rfl) (gB rfl (gE (gsd 79 rfl (fun bW => ?_) fun bW => ?_)))
    ·
     refine gct rfl (gSk (gS (gBk (gS (gW (.p 1 (.p 2 (.p 3 (.p 5 (.p 9 (.p 12 (.p 13 (.q 0 (.e 4 (.p 6 (.p 7 (.e 8 (.p 10 (.e 11 (.e 14 (.p 15 .fin) .nil) .nil)) .nil))) .nil))))))))) [4, 8, 11] [1, 2, 3, 5, 6, 7, 9, 10, 12, 13, 15] hm [0, 1] [blk aB [(nV c_.params), (nV c_.regs), (sV aD aE c_.blocks.length aF)] 44, blk aC [(.slice aQ aA.phis.length aR), (sV bU bV aA.ins.length aa), (nV aA.jump), (nV aA.on), aH] 59] rfl mxo (by kernel_rfl) (fun _ _ _ h => h.2) fun w hm hS => tP rfl (fun w => yM rfl) (tP rfl (fun w => yM rfl) (tP rfl (fun w => yF fo_59_1 rfl) (tP rfl (fun w => yM rfl) (tP rfl (fun w => yM rfl) (tP rfl (fun w => yM rfl) (tP rfl (fun w => yM rfl) (tQ rfl hS (fun w hm => yn (hm.blk_at 0 rfl) isAgg44 sizeOf44 rfl) (tO (tY rfl (yL hm 1 isAgg56 rfl) (tAs hS (tP rfl (fun w => yI st_56 aw (idx_lt aS) rfl) (tP rfl (fun w => yF fo_61_2 rfl) (tO (tY rfl (yl isAgg57 ((ax.mono hm.lez).cell (j := 2) rfl) rfl) (tAs hS (gg fun ay bX ae => ?_)))))))))))))))))))))
     obtain ⟨cb, cc, cd, he⟩ := idx_form ac ae
     obtain ⟨rfl, _, rfl⟩ := sl3 he
     refine tP rfl (fun w => yI st_57 bX (idx_lt ae) rfl) (tO (tY rfl (yl isAgg3 ((flat_cells (cs := [(nV ay)]) (hm.now ac) ae rfl).cell (j := 0) rfl) rfl) (tAs hS (tO (gb fun ce bY => tf rfl rfl (fun a hf => e_call hf rfl call267 rfl (spec_l13Rules_ok _ c_ (sV aD aE c_.blocks.length aF) (hm.now h1) sets v2 (hm.now h2) doms v3 (hm.now h3) ay b_ aI _ bY)) ?_)))))
     rintro cf w ⟨rfl, hB⟩
     replace hm := hm.below' hB; clear hB
     refine tAn rfl (tP rfl (fun w => yN rfl) (tE (gsn 97 rfl (fun bZ => ?_) fun bZ => ?_)))
     ·
      exact gct rfl (gS (gR (gA rfl (gE (gRt (gLp au ar (gl (gEr bT (gLr bS bR (gr1 results213 rfl ⟨rfl, hm.below⟩))))))))))
     exact gcf rfl (gSk (gR (gM rfl (gB rfl (gA rfl (gE (gze hm [0, 1] rfl)))))))
    exact gcf rfl (gXt (gHh (gLp au ar (gr (gze hm [0, 1] rfl)))))
   repeat clear hm
   intro aq w hm
   exact gR (gM rfl (gP (by omega) (by omega) rfl (gA rfl (gE (gze hm [0, 1] rfl)))))
  repeat clear hm
  intro cg ci w hm cj ck
  refine gS (gS (gR (gM rfl (gF fo_59_1 rfl (gL hm 1 isAgg56 rfl ?_)))))
  obtain ⟨cl, cm, rfl, cn⟩ := ro_slice aK
  refine gY (yV st_56 rfl) (gB rfl (gE (go _ 68 rfl (decide_eq_false (by omega)) (gcf rfl (gXt (gHh (gS (gJ hm (fun aT => [(8, (.bool (aT)))]) (fun aT => []) (fun aT => ?_) ?_))))))))
  ·
   refine gR (gF fo_59_2 rfl (gL hm 1 isAgg3 rfl (gB rfl (gM rfl (gsd 101 rfl (fun b7 => ?_) fun b7 => ?_)))))
   ·
    exact gO rfl (gO rfl (gO rfl (gO rfl (gO rfl (gO rfl (gO rfl (gO rfl (gO rfl (gO rfl (gKt rfl (gA rfl (gE (gz hm [] rfl)))))))))))))
   exact gY (yn (hm.blk_at 0 rfl) isAgg44 sizeOf44 rfl) (gM rfl (gM rfl (gF fo_59_3 rfl (gL hm 1 isAgg3 rfl (gM rfl (gF fo_59_1 rfl (gL hm 1 isAgg56 rfl (gY (yV st_56 rfl) (gC hm rfl call267 (spec_l13Rules_ok _ c_ (sV aD aE c_.blocks.length aF) (hm.now h1) sets v2 (hm.now h2) doms v3 (hm.now h3) aA.on b_ (aA.ins.length : Int)) fun co cq w hm => gKf rfl (gA rfl (gE (gz hm [] rfl))))))))))))
  repeat clear hm
  intro aT w hm
  exact gRt (gr1 results213 rfl ⟨rfl, hm.below⟩)
theorem spec_l13Is_ok (w0 : World) (c_ : Code_) (v1 : Value) (h1 : GT.rep (hp w0) [v1] c_.blocks) :
    ConM Tryz.prog 153 [(.agg #[(nV c_.params), (nV c_.regs), v1])] w0 (spec_l13Is c_) fun r v w' => v = (.bool (r)) ∧ Below w0.heap.size w0 w' := by
  unfold spec_l13Is
  refine gcon func153 rfl fun r => ?_
  have hm := Mem.start w0
  refine gS (gR (gBx hm rfl fun aB w hm => gA rfl (gE (gS (gS (gW (.p 3 (.q 0 (.q 4 (.p 5 (.e 1 (.p 2 (.p 6 .fin)) .nil))))) [0, 1, 4] [2, 3, 5, 6] hm [0] [blk aB [(nV c_.params), (nV c_.regs), v1] 44] rfl mxo (by kernel_rfl) (fun _ _ _ h => h.2) fun w hm hS => tP rfl (fun w => yF fo_44_2 rfl) (tQ rfl hS (fun w hm => yn (hm.blk_at 0 rfl) isAgg44 sizeOf44 rfl) (tQ rfl hS (fun w hm => yL hm 0 isAgg42 rfl) ?_))))))))
  obtain ⟨aC, aD, rfl, ap⟩ := ro_slice h1
  refine tP rfl (fun w => yV st_42 rfl) (tO (gb fun aq ab => tf rfl rfl (fun a hf => e_call hf rfl call168 rfl (spec_l10Order_ok _ c_ (.slice aC c_.blocks.length aD) (hm.now h1) _ ab)) ?_))
  rintro ar w ⟨_, rfl, hB⟩
  replace hm := hm.give hB; clear hB
  refine tAk hm [1] rfl fun hS => ?_
  obtain ⟨au, aw, rfl, ax⟩ := ro_slice (hm.ow_rep 0 rfl)
  refine tP rfl (fun w => yV st_57 rfl) (tP rfl (fun w => yB rfl) (tE (gsd 13 rfl (fun ac => ?_) fun ac => ?_)))
  ·
   exact gct rfl (gS (gR (gA rfl (gE (gRt (gr1 results153 rfl ⟨rfl, hm.below⟩))))))
  refine gcf rfl (gSk (gS (gR (gY (yn (hm.blk_at 1 rfl) isAgg44 sizeOf44 rfl) (gCg rfl call53 (spec_l13Sets_ok _ c_ (.slice aC c_.blocks.length aD) (hm.now h1)) ?_)))))
  rintro aA ay az w ⟨_, rfl, hB⟩
  replace hm := hm.give hB; clear hB
  refine gA rfl (gE (gS (gS (gR (gA rfl (gE ?_))))))
  obtain ⟨aE, aF, rfl, bA⟩ := ro_slice (hm.ow_rep 0 rfl)
  refine gBk (gb fun _ aR => ?_)
  replace aR := fitI_some.1 aR
  refine gNf hm (fun aG aS => [(1, (pV aB)), (3, (.slice aE aA.length aF)), (4, (nV aG))]) (fun aG aS => [blk aB [(nV c_.params), (nV c_.regs), (.slice aC c_.blocks.length aD)] 44, ow [(.slice aE aA.length aF)] aA]) [2, 0] rfl ?_ ?_
  ·
   repeat clear hm
   intro bB ae aG aS w hm bC bD bE af
   refine gS (gS (gR (gM rfl (gF fo_44_1 rfl (gL hm 0 isAgg3 rfl (gB rfl (gE (go _ 19 rfl (decide_eq_true (by omega)) (gct rfl (gSk (gS (gBk (gS (gJ hm (fun aJ => [(1, (pV aB)), (3, (.slice aE aA.length aF)), (4, (nV aG)), (41, (.bool (aJ)))]) (fun aJ => [blk aB [(nV c_.params), (nV c_.regs), (.slice aC c_.blocks.length aD)] 44, ow [(.slice aE aA.length aF)] aA]) (fun aJ => ?_) ?_))))))))))))))
   ·
    refine gR (gM rfl (gM rfl (gg fun aT aV aH => ?_)))
    obtain ⟨aW, aX, bF, he⟩ := idx_form' (hm.ow_rep 1 rfl) aH
    obtain ⟨rfl, _, rfl⟩ := sl3 he
    obtain ⟨_, _, aN, ag⟩ := ro_get' (hm.ow_rep 1 rfl) aH
    have aK := ag
    obtain ⟨aY, rfl, -⟩ := id aK
    replace aK : GT.rep (hp _) [aY] aT := aK
    replace aN : CellsAt (hp _) aW (aX + (aG).toNat * 1) [aY] := aN
    refine gI st_70 aV (idx_lt aH) rfl (gY (yl isAgg64 (aN.cell (j := 0) rfl) rfl) ?_)
    obtain ⟨bG, bH, rfl, bJ⟩ := ro_slice aK
    refine gY (yV st_64 rfl) (gB rfl (gM rfl (gsd 28 rfl (fun ah => ?_) fun ah => ?_)))
    ·
     exact gO rfl (gO rfl (gO rfl (gO rfl (gO rfl (gO rfl (gO rfl (gO rfl (gO rfl (gO rfl (gO rfl (gO rfl (gKt rfl (gE (gz hm [0, 1] rfl))))))))))))))
    refine gM rfl (gF fo_44_0 rfl (gL hm 0 isAgg3 rfl (gB rfl (gM rfl (gsd 33 rfl (fun ai => ?_) fun ai => ?_)))))
    ·
     refine gM rfl (gM rfl ?_)
     obtain ⟨_, _, aO, aj⟩ := ro_get' (hm.ow_rep 1 rfl) aH
     have aL := aj
     obtain ⟨aZ, rfl, -⟩ := id aL
     replace aL : GT.rep (hp _) [aZ] aT := aL
     replace aO : CellsAt (hp _) aW (aX + (aG).toNat * 1) [aZ] := aO
     refine gI st_70 aV (idx_lt aH) rfl (gY (yl isAgg64 (aO.cell (j := 0) rfl) rfl) ?_)
     obtain ⟨bK, bL, rfl, bM⟩ := ro_slice aL
     exact gY (yV st_64 rfl) (gB rfl (gKt rfl (gKf rfl (gE (gz hm [0, 1] rfl)))))
    exact gO rfl (gO rfl (gO rfl (gO rfl (gO rfl (gO rfl (gKf rfl (gKf rfl (gE (gz hm [0, 1] rfl)))))))))
   repeat clear hm
   intro aJ w hm
   refine gs 41 rfl (fun ak => ?_) fun ak => ?_
   ·
    exact gct rfl (gS (gR (gA rfl (gE (gRt (gLr af ae (gr1 results153 rfl ⟨rfl, hm.below⟩)))))))
   exact gcf rfl (gSk (gR (gM rfl (gP (by omega) (by omega) rfl (gA rfl (gE (gze hm [0, 1] rfl)))))))
  repeat clear hm
  intro bN bO w hm bP bQ
  refine gS (gS (gR (gM rfl (gF fo_44_1 rfl (gL hm 0 isAgg3 rfl (gB rfl (gE (go _ 19 rfl (decide_eq_false (by omega)) (gcf rfl (gXt (gHh (gS (gR (gY (yn (hm.blk_at 0 rfl) isAgg44 sizeOf44 rfl) (gCg rfl call212 (spec_l11Doms_ok _ c_ (.slice aC c_.blocks.length aD) (hm.now h1)) ?_)))))))))))))))
  rintro aI bR bS w ⟨_, rfl, hB⟩
  replace hm := hm.give hB; clear hB
  refine gA rfl (gE (gS (gS (gR (gA rfl (gE ?_))))))
  obtain ⟨aP, aQ, rfl, bT⟩ := ro_slice (hm.ow_rep 0 rfl)
  refine gBk (gNf hm (fun aM aa => [(1, (pV aB)), (3, (.slice aE aA.length aF)), (5, (.slice aP aI.length aQ)), (6, (nV aM))]) (fun aM aa => [blk aB [(nV c_.params), (nV c_.regs), (.slice aC c_.blocks.length aD)] 44, ow [(.slice aE aA.length aF)] aA, ow [(.slice aP aI.length aQ)] aI]) [1, 2, 0] rfl ?_ ?_)
  ·
   repeat clear hm
   intro bU am aM aa w hm bV bW bX an
   refine gS (gS (gR (gM rfl (gF fo_44_2 rfl (gL hm 0 isAgg42 rfl (gY (yV st_42 rfl) (gB rfl (gE (go _ 48 rfl (decide_eq_true (by omega)) (gct rfl (gSk (gS (gBk (gS (gR (gY (yn (hm.blk_at 0 rfl) isAgg44 sizeOf44 rfl) (gM rfl (gM rfl (gM rfl (gC hm rfl call213 (spec_l13Block_ok _ c_ (.slice aC c_.blocks.length aD) (hm.now h1) aA (.slice aE aA.length aF) (hm.ow_rep 1 rfl) aI (.slice aP aI.length aQ) (hm.ow_rep 2 rfl) aM) fun bY bZ w hm => gN rfl (gE (gsn 56 rfl (fun ao => ?_) fun ao => ?_))))))))))))))))))))))
   ·
    exact gct rfl (gS (gR (gA rfl (gE (gRt (gLr an am (gr1 results153 rfl ⟨rfl, hm.below⟩)))))))
   exact gcf rfl (gSk (gR (gM rfl (gP (by omega) (by omega) rfl (gA rfl (gE (gze hm [0, 1, 2] rfl)))))))
  repeat clear hm
  intro b7 b8 w hm b9 ba
  exact gS (gS (gR (gM rfl (gF fo_44_2 rfl (gL hm 0 isAgg42 rfl (gY (yV st_42 rfl) (gB rfl (gE (go _ 48 rfl (decide_eq_false (by omega)) (gcf rfl (gXt (gHh (gS (gR (gA rfl (gE (gRt (gr1 results153 rfl ⟨rfl, hm.below⟩))))))))))))))))))
theorem spec_IsSingle_ok (w0 : World) (u : Unit_) (v1 : Value) (h1 : GT.rep (hp w0) [v1] u.codes) :
    ConM Tryz.prog 100 [(.agg #[v1])] w0 (spec_IsSingle u) fun r v w' => v = (.bool (r)) ∧ Below w0.heap.size w0 w' := by
  unfold spec_IsSingle
  refine gcon func100 rfl fun r => ?_
  have hm := Mem.start w0
  refine gS (gR (gBx hm rfl fun aA w hm => gA rfl (gE (gS (gS (gR (gA rfl (gE (gJe hm (fun aE => [(1, (pV aA))]) (fun aE => [blk aA [v1] 28]) (fun aS aH => ?_) ?_)))))))))
  ·
   refine gBk (gMf hm (fun aB => [(1, (pV aA)), (3, (nV aB))]) (fun aB => [blk aA [v1] 28]) [0] rfl ?_)
   repeat clear hm
   intro aT aF aB w hm aV aG
   refine gS (gS (gJ hm (fun aC => [(1, (pV aA)), (3, (nV aB)), (12, (.bool (aC)))]) (fun aC => [blk aA [v1] 28]) (fun aC => ?_) ?_))
   ·
    refine gR (gM rfl (gF fo_28_0 rfl (gL hm 0 isAgg26 rfl ?_)))
    obtain ⟨aI, aJ, rfl, aW⟩ := ro_slice h1
    refine gY (yV st_26 rfl) (gB rfl (gM rfl (gsd 9 rfl (fun aK => ?_) fun aK => ?_)))
    ·
     exact gY (yn (hm.blk_at 0 rfl) isAgg28 sizeOf28 rfl) (gC hm rfl call27 (spec_UnitValid_ok _ u (.slice aI u.codes.length aJ) (hm.now h1)) fun aX aY w hm => gKt rfl (gE (gz hm [0] rfl)))
    exact gO rfl (gO rfl (gKf rfl (gE (gz hm [0] rfl))))
   repeat clear hm
   intro aC w hm
   refine gs 12 rfl (fun aL => ?_) fun aL => ?_
   ·
    refine gct rfl (gSk (gS (gBk (gS (gR (gF fo_28_0 rfl (gL hm 0 isAgg26 rfl (gM rfl (gg fun aM aN aD => ?_)))))))))
    obtain ⟨aZ, aa, ab, he⟩ := idx_form' h1 aD
    subst he
    obtain ⟨aO, aP, aQ⟩ := rk_Code_ h1 aD
    refine gI st_26 aN (idx_lt aD) rfl (gY (yn (aP.mono hm.lez) isAgg44 sizeOf44 rfl) (gC hm rfl call153 (spec_l13Is_ok _ aM aO (hm.now aQ)) fun ac ae w hm => gN rfl (gE (gsn 21 rfl (fun aR => ?_) fun aR => ?_))))
    ·
     exact gct rfl (gS (gR (gA rfl (gE (gRt (gLp aG aF (gl (gEr aH (gr1 results100 rfl ⟨rfl, hm.below⟩)))))))))
    exact gcf rfl (gSk (gR (gM rfl (gB rfl (gA rfl (gE (gze hm [0] rfl)))))))
   exact gcf rfl (gXt (gHh (gLp aG aF (gr (gze hm [0] rfl)))))
  repeat clear hm
  intro aE w hm
  exact gS (gR (gY (yn (hm.blk_at 0 rfl) isAgg28 sizeOf28 rfl) (gC hm rfl call27 (spec_UnitValid_ok _ u v1 (hm.now h1)) fun af ag w hm => gA rfl (gE (gRt (gr1 results100 rfl ⟨rfl, hm.below⟩))))))
abbrev od117_1 : Go.Wk.Ord := (.p 10 (.e 12 .fin .nil))
abbrev od117_2 : Go.Wk.Ord := (.p 10 (.e 11 (.e 12 .fin .nil) .nil))
abbrev od117_3 : Go.Wk.Ord := (.e 9 od117_2 (.e 11 (.e 9 od117_1 .nil) .nil))
abbrev od117_4 : Go.Wk.Ord := (.e 6 (.e 9 od117_1 .nil) .nil)
abbrev od117_5 : Go.Wk.Ord := (.e 1 od117_2 (.e 11 (.e 1 od117_1 .nil) .nil))
abbrev od117_6 : Go.Wk.Ord := (.e 1 (.e 9 od117_1 .nil) (.e 9 (.e 1 od117_1 .nil) .nil))
abbrev od117_7 : Go.Wk.Ord := (.e 0 od117_2 (.e 11 (.e 0 od117_1 .nil) .nil))
abbrev od117_8 : Go.Wk.Ord := (.e 0 (.e 9 od117_1 .nil) (.e 9 (.e 0 od117_1 .nil) .nil))
abbrev od117_9 : Go.Wk.Ord := (.e 0 (.e 1 od117_1 .nil) (.e 1 (.e 0 od117_1 .nil) .nil))
abbrev od117_10 : Go.Wk.Ord := (.e 6 od117_3 (.e 11 od117_4 .nil))
abbrev od117_11 : Go.Wk.Ord := (.e 1 od117_3 (.e 9 od117_5 (.e 11 od117_6 .nil)))
abbrev od117_12 : Go.Wk.Ord := (.e 1 od117_4 (.e 6 od117_6 .nil))
abbrev od117_13 : Go.Wk.Ord := (.e 0 od117_3 (.e 9 od117_7 (.e 11 od117_8 .nil)))
abbrev od117_14 : Go.Wk.Ord := (.e 0 od117_4 (.e 6 od117_8 .nil))
abbrev od117_15 : Go.Wk.Ord := (.e 0 od117_6 (.e 1 od117_8 (.e 9 od117_9 .nil)))
theorem spec_l7CopyBlock_ok (w0 : World) (b_ : Block_) (v1 : Value) (h1 : GT.rep (hp w0) [v1] b_.phis) (v2 : Value) (h2 : GT.rep (hp w0) [v2] b_.ins) (v3 : Value) (h3 : GT.rep (hp w0) [v3] b_.next_) :
    ConM Tryz.prog 117 [(.agg #[v1, v2, (nV b_.jump), (nV b_.on), v3])] w0 (spec_l7CopyBlock b_) fun r v w' => ∃ (x1 : Value) (x2 : Value) (x3 : Value), v = (.agg #[x1, x2, (nV r.jump), (nV r.on), x3]) ∧ Mem w0 (hp w0) w' [ow [x1] r.phis, ow [x2] r.ins, ow [x3] r.next_] := by
  unfold spec_l7CopyBlock
  refine gcon func117 rfl fun r => ?_
  have hm := Mem.start w0
  refine gS (gR (gBx hm rfl fun aB w hm => gAl hm zeroValue59 rfl fun aC w hm => gE (gS (gJg (fun aD a w => ∃ (aI : Nat) (bu bv bw : Value), St 74 [(1, (pV aB)), (2, (pV aC)), (3, (pV aI))] w0 (hp w0) [blk aB [v1, v2, (nV b_.jump), (nV b_.on), v3] 59, blk aC [(.slice none 0 0), (.slice none 0 0), (nV 0), (nV 0), (.slice none 0 0)] 59, blk aI [bu, bv, (nV b_.jump), (nV b_.on), bw] 59, ow [bu] ([] : List Phi_), ow [bv] ([] : List Ins_), ow [bw] aD] a w) (fun aD => ?_) ?_))))
  ·
   refine gW (.p 2 (.p 4 (.p 7 (.q 3 (.q 5 (.q 8 (.e 0 (.e 1 od117_10 (.e 6 od117_11 (.e 11 od117_12 .nil))) (.e 1 (.e 0 od117_10 (.e 6 od117_13 (.e 11 od117_14 .nil))) (.e 6 (.e 0 od117_11 (.e 1 od117_13 (.e 9 (.e 0 od117_5 (.e 1 od117_7 (.e 11 od117_9 .nil))) (.e 11 od117_15 .nil)))) (.e 11 (.e 0 od117_12 (.e 1 od117_14 (.e 6 od117_15 .nil))) .nil)))))))))) [0, 1, 3, 5, 6, 8, 9, 11] [2, 4, 7, 10] hm [0, 1] [blk aC [(.slice none 0 0), (.slice none 0 0), (nV 0), (nV 0), (.slice none 0 0)] 59, blk aB [v1, v2, (nV b_.jump), (nV b_.on), v3] 59] rfl mxo (by kernel_rfl) (fun _ _ _ h => h.2) fun w hm hS => tP rfl (fun w => yF fo_59_2 rfl) (tP rfl (fun w => yF fo_59_3 rfl) (tP rfl (fun w => yF fo_59_4 rfl) (tQ rfl hS (fun w hm => yL hm 1 isAgg3 rfl) (tQ rfl hS (fun w hm => yL hm 1 isAgg3 rfl) (tQ rfl hS (fun w hm => yL hm 1 isAgg57 rfl) (gb fun aN aY => tSh ((.e 12 .fin .nil)) (fun a w => ∃ (bX : Nat) (bY bZ b7 : Value), St 74 [(1, (pV aB)), (2, (pV aC)), (3, (pV bX)), (17, (.agg #[bY, bZ, (nV b_.jump), (nV b_.on), b7]))] w0 (hp w0) [blk aB [v1, v2, (nV b_.jump), (nV b_.on), v3] 59, blk aC [(.slice none 0 0), (.slice none 0 0), (nV 0), (nV 0), (.slice none 0 0)] 59, blk bX [(.slice none 0 0), (.slice none 0 0), (nV 0), (nV 0), (.slice none 0 0)] 59, ow [bY] ([] : List Phi_), ow [bZ] ([] : List Ins_), ow [b7] aN] a w) ?_ fun hT2_1 => ?_))))))
   ·
    rintro a w ⟨bX, bY, bZ, b7, hf, hm⟩
    refine tSv hf hm [1, 0] rfl fun hS => tO (tf0 rfl rfl (fun a hf => e_storeN 2 hf hm rfl sizeOf59 rfl rfl rfl (one_cons (rep_one (hm.ow_rep 3 rfl)) (one_cons (rep_one (hm.ow_rep 4 rfl)) (one_cons rfl (one_cons rfl (one_cons (rep_one (hm.ow_rep 5 rfl)) one_nil))))) rfl rfl) ?_)
    rintro _ w hm
    exact tAn rfl (tE (gZ fun a hf => ⟨bX, bY, bZ, b7, hf.sb rfl, hm.pk [0, 1, 2, 3, 4, 5] rfl rfl⟩))
   refine tSh (od117_1) (fun a w => ∃ (b8 : Nat) (bx bz cA : Value), St 74 [(1, (pV aB)), (2, (pV aC)), (3, (pV b8)), (7, bx), (8, bz), (10, (nV b_.jump)), (12, (nV b_.on)), (16, cA)] w0 (hp w0) [blk aB [v1, v2, (nV b_.jump), (nV b_.on), v3] 59, blk aC [(.slice none 0 0), (.slice none 0 0), (nV 0), (nV 0), (.slice none 0 0)] 59, blk b8 [(.slice none 0 0), (.slice none 0 0), (nV 0), (nV 0), (.slice none 0 0)] 59, ow [bx] ([] : List Phi_), ow [bz] ([] : List Ins_), ow [cA] aN] a w) ?_ fun hT2_2 => ?_
   ·
    rintro a w ⟨b8, bx, bz, cA, hf, hm⟩
    refine tSv hf hm [1, 0] rfl fun hS => ?_
    obtain ⟨ag, ah, rfl, cQ⟩ := ro_slice (hm.ow_rep 3 rfl)
    obtain ⟨ai, aj, rfl, cR⟩ := ro_slice (hm.ow_rep 4 rfl)
    obtain ⟨ak, am, rfl, cS⟩ := ro_slice (hm.ow_rep 5 rfl)
    exact tP rfl (fun w => yG rfl (y_build (vs := [(0, (.slice ag ([] : List Phi_).length ah)), (1, (.slice ai ([] : List Ins_).length aj)), (2, (nV b_.jump)), (3, (nV b_.on)), (4, (.slice ak aN.length am))]) (cs := #[(.slice ag ([] : List Phi_).length ah), (.slice ai ([] : List Ins_).length aj), (nV b_.jump), (nV b_.on), (.slice ak aN.length am)]) rfl rfl (by kernel_rfl))) (tUse hT2_1 fun a hf => ⟨b8, (.slice ag ([] : List Phi_).length ah), (.slice ai ([] : List Ins_).length aj), (.slice ak aN.length am), hf.sb rfl, hm.pk [0, 1, 2, 3, 4, 5] rfl rfl⟩)
   refine tSh ((.e 0 od117_1 .nil)) (fun a w => ∃ (b9 : Nat) (ba bb : Value), St 74 [(1, (pV aB)), (2, (pV aC)), (3, (pV b9)), (8, ba), (10, (nV b_.jump)), (12, (nV b_.on)), (16, bb)] w0 (hp w0) [blk aB [v1, v2, (nV b_.jump), (nV b_.on), v3] 59, blk aC [(.slice none 0 0), (.slice none 0 0), (nV 0), (nV 0), (.slice none 0 0)] 59, blk b9 [(.slice none 0 0), (.slice none 0 0), (nV 0), (nV 0), (.slice none 0 0)] 59, ow [ba] ([] : List Ins_), ow [bb] aN] a w) ?_ fun hT2_3 => ?_
   ·
    rintro a w ⟨b9, ba, bb, hf, hm⟩
    refine tSv hf hm [1, 0] rfl fun hS => tO (tf rfl rfl (fun a hf => e_build0 (α := Phi_) et_55 hm rfl) ?_)
    rintro aE w hm
    exact tAk hm [2, 1] rfl fun hS => tUse hT2_2 fun a hf => ⟨b9, aE, ba, bb, hf.sb rfl, hm.pk [1, 2, 3, 0, 4, 5] rfl rfl⟩
   refine tSh ((.e 1 od117_1 .nil)) (fun a w => ∃ (bc : Nat) (bd be : Value), St 74 [(1, (pV aB)), (2, (pV aC)), (3, (pV bc)), (7, bd), (10, (nV b_.jump)), (12, (nV b_.on)), (16, be)] w0 (hp w0) [blk aB [v1, v2, (nV b_.jump), (nV b_.on), v3] 59, blk aC [(.slice none 0 0), (.slice none 0 0), (nV 0), (nV 0), (.slice none 0 0)] 59, blk bc [(.slice none 0 0), (.slice none 0 0), (nV 0), (nV 0), (.slice none 0 0)] 59, ow [bd] ([] : List Phi_), ow [be] aN] a w) ?_ fun hT2_4 => ?_
   ·
    rintro a w ⟨bc, bd, be, hf, hm⟩
    refine tSv hf hm [1, 0] rfl fun hS => tO (tf rfl rfl (fun a hf => e_build0 (α := Ins_) et_56 hm rfl) ?_)
    rintro aE w hm
    exact tAk hm [2, 1] rfl fun hS => tUse hT2_2 fun a hf => ⟨bc, bd, aE, be, hf.sb rfl, hm.pk [1, 2, 3, 4, 0, 5] rfl rfl⟩
   refine tSh ((.e 9 od117_1 .nil)) (fun a w => ∃ (bf : Nat) (bg bh cB : Value), St 74 [(1, (pV aB)), (2, (pV aC)), (3, (pV bf)), (7, bg), (8, bh), (10, (nV b_.jump)), (12, (nV b_.on)), (13, cB), (15, v3)] w0 (hp w0) [blk aB [v1, v2, (nV b_.jump), (nV b_.on), v3] 59, blk aC [(.slice none 0 0), (.slice none 0 0), (nV 0), (nV 0), (.slice none 0 0)] 59, blk bf [(.slice none 0 0), (.slice none 0 0), (nV 0), (nV 0), (.slice none 0 0)] 59, ow [bg] ([] : List Phi_), ow [bh] ([] : List Ins_), ow [cB] ([] : List Int)] a w) ?_ fun hT2_5 => ?_
   ·
    rintro a w ⟨bf, bg, bh, cB, hf, hm⟩
    refine tSv hf hm [1, 0] rfl fun hS => tO ?_
    obtain ⟨aK, aL⟩ := appM_some.1 aY
    refine tf rfl rfl (fun a hf => e_append 5 et_57 hf hm rfl (hm.now h3) rfl rfl rfl aK) ?_
    rintro aE w hm
    rw [aL] at hm
    exact tAk hm [1, 0] rfl fun hS => tUse hT2_2 fun a hf => ⟨bf, bg, bh, aE, hf.sb rfl, hm.pk [0, 1, 2, 3, 4, 5] rfl rfl⟩
   refine tSh (od117_2) (fun a w => ∃ (cC cD cE : Value), St 74 [(1, (pV aB)), (2, (pV aC)), (7, cC), (8, cD), (10, (nV b_.jump)), (12, (nV b_.on)), (16, cE)] w0 (hp w0) [blk aB [v1, v2, (nV b_.jump), (nV b_.on), v3] 59, blk aC [(.slice none 0 0), (.slice none 0 0), (nV 0), (nV 0), (.slice none 0 0)] 59, ow [cC] ([] : List Phi_), ow [cD] ([] : List Ins_), ow [cE] aN] a w) ?_ fun hT2_6 => ?_
   ·
    rintro a w ⟨cC, cD, cE, hf, hm⟩
    refine tSv hf hm [1, 0] rfl fun hS => ?_
    obtain ⟨ag, ah, rfl, cQ⟩ := ro_slice (hm.ow_rep 2 rfl)
    obtain ⟨ai, aj, rfl, cR⟩ := ro_slice (hm.ow_rep 3 rfl)
    obtain ⟨ak, am, rfl, cS⟩ := ro_slice (hm.ow_rep 4 rfl)
    refine tP rfl (fun w => yG rfl (y_build (vs := [(0, (.slice ag ([] : List Phi_).length ah)), (1, (.slice ai ([] : List Ins_).length aj)), (2, (nV b_.jump)), (3, (nV b_.on)), (4, (.slice ak aN.length am))]) (cs := #[(.slice ag ([] : List Phi_).length ah), (.slice ai ([] : List Ins_).length aj), (nV b_.jump), (nV b_.on), (.slice ak aN.length am)]) rfl rfl (by kernel_rfl))) (tO (tf rfl rfl (fun a hf => e_alloc hm zeroValue59 rfl rfl) ?_))
    rintro _ w ⟨aM, rfl, hm⟩
    exact tAk hm [2, 1] rfl fun hS => tUse hT2_1 fun a hf => ⟨aM, (.slice ag ([] : List Phi_).length ah), (.slice ai ([] : List Ins_).length aj), (.slice ak aN.length am), hf.sb rfl, hm.pk [1, 2, 0, 3, 4, 5] rfl rfl⟩
   refine tSh (od117_9) (fun a w => ∃ (au : Nat) (aw : Value), St 74 [(1, (pV aB)), (2, (pV aC)), (3, (pV au)), (10, (nV b_.jump)), (12, (nV b_.on)), (16, aw)] w0 (hp w0) [blk aB [v1, v2, (nV b_.jump), (nV b_.on), v3] 59, blk aC [(.slice none 0 0), (.slice none 0 0), (nV 0), (nV 0), (.slice none 0 0)] 59, blk au [(.slice none 0 0), (.slice none 0 0), (nV 0), (nV 0), (.slice none 0 0)] 59, ow [aw] aN] a w) ?_ fun hT2_7 => ?_
   ·
    rintro a w ⟨au, aw, hf, hm⟩
    refine tSv hf hm [1, 0] rfl fun hS => tMo ?_ ?_
    ·
     refine tf rfl rfl (fun a hf => e_build0 (α := Phi_) et_55 hm rfl) ?_
     rintro aE w hm
     exact tAk hm [2, 1] rfl fun hS => tUse hT2_4 fun a hf => ⟨au, aE, aw, hf.sb rfl, hm.pk [1, 2, 3, 0, 4] rfl rfl⟩
    refine tO (tf rfl rfl (fun a hf => e_build0 (α := Ins_) et_56 hm rfl) ?_)
    rintro aJ w hm
    exact tAk hm [2, 1] rfl fun hS => tUse hT2_3 fun a hf => ⟨au, aJ, aw, hf.sb rfl, hm.pk [1, 2, 3, 0, 4] rfl rfl⟩
   refine tSh (od117_8) (fun a w => ∃ (ax : Nat) (ay bi : Value), St 74 [(1, (pV aB)), (2, (pV aC)), (3, (pV ax)), (8, ay), (10, (nV b_.jump)), (12, (nV b_.on)), (13, bi), (15, v3)] w0 (hp w0) [blk aB [v1, v2, (nV b_.jump), (nV b_.on), v3] 59, blk aC [(.slice none 0 0), (.slice none 0 0), (nV 0), (nV 0), (.slice none 0 0)] 59, blk ax [(.slice none 0 0), (.slice none 0 0), (nV 0), (nV 0), (.slice none 0 0)] 59, ow [ay] ([] : List Ins_), ow [bi] ([] : List Int)] a w) ?_ fun hT2_8 => ?_
   ·
    rintro a w ⟨ax, ay, bi, hf, hm⟩
    refine tSv hf hm [1, 0] rfl fun hS => tMo ?_ ?_
    ·
     refine tf rfl rfl (fun a hf => e_build0 (α := Phi_) et_55 hm rfl) ?_
     rintro aE w hm
     exact tAk hm [2, 1] rfl fun hS => tUse hT2_5 fun a hf => ⟨ax, aE, ay, bi, hf.sb rfl, hm.pk [1, 2, 3, 0, 4, 5] rfl rfl⟩
    refine tO ?_
    obtain ⟨aK, aL⟩ := appM_some.1 aY
    refine tf rfl rfl (fun a hf => e_append 4 et_57 hf hm rfl (hm.now h3) rfl rfl rfl aK) ?_
    rintro aJ w hm
    rw [aL] at hm
    exact tAk hm [1, 0] rfl fun hS => tUse hT2_3 fun a hf => ⟨ax, ay, aJ, hf.sb rfl, hm.pk [0, 1, 2, 3, 4] rfl rfl⟩
   refine tSh (od117_7) (fun a w => ∃ (az bA : Value), St 74 [(1, (pV aB)), (2, (pV aC)), (8, az), (10, (nV b_.jump)), (12, (nV b_.on)), (16, bA)] w0 (hp w0) [blk aB [v1, v2, (nV b_.jump), (nV b_.on), v3] 59, blk aC [(.slice none 0 0), (.slice none 0 0), (nV 0), (nV 0), (.slice none 0 0)] 59, ow [az] ([] : List Ins_), ow [bA] aN] a w) ?_ fun hT2_9 => ?_
   ·
    rintro a w ⟨az, bA, hf, hm⟩
    refine tSv hf hm [1, 0] rfl fun hS => tMo ?_ ?_
    ·
     refine tf rfl rfl (fun a hf => e_build0 (α := Phi_) et_55 hm rfl) ?_
     rintro aE w hm
     exact tAk hm [2, 1] rfl fun hS => tUse hT2_6 fun a hf => ⟨aE, az, bA, hf.sb rfl, hm.pk [1, 2, 0, 3, 4] rfl rfl⟩
    refine tO (tf rfl rfl (fun a hf => e_alloc hm zeroValue59 rfl rfl) ?_)
    rintro _ w ⟨aM, rfl, hm⟩
    exact tAk hm [2, 1] rfl fun hS => tUse hT2_3 fun a hf => ⟨aM, az, bA, hf.sb rfl, hm.pk [1, 2, 0, 3, 4] rfl rfl⟩
   refine tSh (od117_6) (fun a w => ∃ (bB : Nat) (bC bj : Value), St 74 [(1, (pV aB)), (2, (pV aC)), (3, (pV bB)), (7, bC), (10, (nV b_.jump)), (12, (nV b_.on)), (13, bj), (15, v3)] w0 (hp w0) [blk aB [v1, v2, (nV b_.jump), (nV b_.on), v3] 59, blk aC [(.slice none 0 0), (.slice none 0 0), (nV 0), (nV 0), (.slice none 0 0)] 59, blk bB [(.slice none 0 0), (.slice none 0 0), (nV 0), (nV 0), (.slice none 0 0)] 59, ow [bC] ([] : List Phi_), ow [bj] ([] : List Int)] a w) ?_ fun hT2_10 => ?_
   ·
    rintro a w ⟨bB, bC, bj, hf, hm⟩
    refine tSv hf hm [1, 0] rfl fun hS => tMo ?_ ?_
    ·
     refine tf rfl rfl (fun a hf => e_build0 (α := Ins_) et_56 hm rfl) ?_
     rintro aE w hm
     exact tAk hm [2, 1] rfl fun hS => tUse hT2_5 fun a hf => ⟨bB, bC, aE, bj, hf.sb rfl, hm.pk [1, 2, 3, 4, 0, 5] rfl rfl⟩
    refine tO ?_
    obtain ⟨aK, aL⟩ := appM_some.1 aY
    refine tf rfl rfl (fun a hf => e_append 4 et_57 hf hm rfl (hm.now h3) rfl rfl rfl aK) ?_
    rintro aJ w hm
    rw [aL] at hm
    exact tAk hm [1, 0] rfl fun hS => tUse hT2_4 fun a hf => ⟨bB, bC, aJ, hf.sb rfl, hm.pk [0, 1, 2, 3, 4] rfl rfl⟩
   refine tSh (od117_5) (fun a w => ∃ (bD bE : Value), St 74 [(1, (pV aB)), (2, (pV aC)), (7, bD), (10, (nV b_.jump)), (12, (nV b_.on)), (16, bE)] w0 (hp w0) [blk aB [v1, v2, (nV b_.jump), (nV b_.on), v3] 59, blk aC [(.slice none 0 0), (.slice none 0 0), (nV 0), (nV 0), (.slice none 0 0)] 59, ow [bD] ([] : List Phi_), ow [bE] aN] a w) ?_ fun hT2_11 => ?_
   ·
    rintro a w ⟨bD, bE, hf, hm⟩
    refine tSv hf hm [1, 0] rfl fun hS => tMo ?_ ?_
    ·
     refine tf rfl rfl (fun a hf => e_build0 (α := Ins_) et_56 hm rfl) ?_
     rintro aE w hm
     exact tAk hm [2, 1] rfl fun hS => tUse hT2_6 fun a hf => ⟨bD, aE, bE, hf.sb rfl, hm.pk [1, 2, 3, 0, 4] rfl rfl⟩
    refine tO (tf rfl rfl (fun a hf => e_alloc hm zeroValue59 rfl rfl) ?_)
    rintro _ w ⟨aM, rfl, hm⟩
    exact tAk hm [2, 1] rfl fun hS => tUse hT2_4 fun a hf => ⟨aM, bD, bE, hf.sb rfl, hm.pk [1, 2, 0, 3, 4] rfl rfl⟩
   refine tSh (od117_4) (fun a w => ∃ (bk : Nat) (bl bm : Value), St 74 [(1, (pV aB)), (2, (pV aC)), (3, (pV bk)), (7, bl), (8, bm), (10, (nV b_.jump)), (12, (nV b_.on)), (15, v3)] w0 (hp w0) [blk aB [v1, v2, (nV b_.jump), (nV b_.on), v3] 59, blk aC [(.slice none 0 0), (.slice none 0 0), (nV 0), (nV 0), (.slice none 0 0)] 59, blk bk [(.slice none 0 0), (.slice none 0 0), (nV 0), (nV 0), (.slice none 0 0)] 59, ow [bl] ([] : List Phi_), ow [bm] ([] : List Ins_)] a w) ?_ fun hT2_12 => ?_
   ·
    rintro a w ⟨bk, bl, bm, hf, hm⟩
    refine tSv hf hm [1, 0] rfl fun hS => tO (tf rfl rfl (fun a hf => e_build0 (α := Int) et_57 hm rfl) ?_)
    rintro aE w hm
    exact tAk hm [2, 1] rfl fun hS => tUse hT2_5 fun a hf => ⟨bk, bl, bm, aE, hf.sb rfl, hm.pk [1, 2, 3, 4, 5, 0] rfl rfl⟩
   refine tSh (od117_3) (fun a w => ∃ (bF bG bo : Value), St 74 [(1, (pV aB)), (2, (pV aC)), (7, bF), (8, bG), (10, (nV b_.jump)), (12, (nV b_.on)), (13, bo), (15, v3)] w0 (hp w0) [blk aB [v1, v2, (nV b_.jump), (nV b_.on), v3] 59, blk aC [(.slice none 0 0), (.slice none 0 0), (nV 0), (nV 0), (.slice none 0 0)] 59, ow [bF] ([] : List Phi_), ow [bG] ([] : List Ins_), ow [bo] ([] : List Int)] a w) ?_ fun hT2_13 => ?_
   ·
    rintro a w ⟨bF, bG, bo, hf, hm⟩
    refine tSv hf hm [1, 0] rfl fun hS => tMo ?_ ?_
    ·
     obtain ⟨aK, aL⟩ := appM_some.1 aY
     refine tf rfl rfl (fun a hf => e_append 4 et_57 hf hm rfl (hm.now h3) rfl rfl rfl aK) ?_
     rintro aE w hm
     rw [aL] at hm
     exact tAk hm [1, 0] rfl fun hS => tUse hT2_6 fun a hf => ⟨bF, bG, aE, hf.sb rfl, hm.pk [0, 1, 2, 3, 4] rfl rfl⟩
    refine tO (tf rfl rfl (fun a hf => e_alloc hm zeroValue59 rfl rfl) ?_)
    rintro _ w ⟨aM, rfl, hm⟩
    exact tAk hm [2, 1] rfl fun hS => tUse hT2_5 fun a hf => ⟨aM, bF, bG, bo, hf.sb rfl, hm.pk [1, 2, 0, 3, 4, 5] rfl rfl⟩
   refine tSh (od117_15) (fun a w => ∃ (an : Nat) (bH : Value), St 74 [(1, (pV aB)), (2, (pV aC)), (3, (pV an)), (10, (nV b_.jump)), (12, (nV b_.on)), (13, bH), (15, v3)] w0 (hp w0) [blk aB [v1, v2, (nV b_.jump), (nV b_.on), v3] 59, blk aC [(.slice none 0 0), (.slice none 0 0), (nV 0), (nV 0), (.slice none 0 0)] 59, blk an [(.slice none 0 0), (.slice none 0 0), (nV 0), (nV 0), (.slice none 0 0)] 59, ow [bH] ([] : List Int)] a w) ?_ fun hT2_14 => ?_
   ·
    rintro a w ⟨an, bH, hf, hm⟩
    refine tSv hf hm [1, 0] rfl fun hS => tMo ?_ ?_
    ·
     refine tf rfl rfl (fun a hf => e_build0 (α := Phi_) et_55 hm rfl) ?_
     rintro aE w hm
     exact tAk hm [2, 1] rfl fun hS => tUse hT2_10 fun a hf => ⟨an, aE, bH, hf.sb rfl, hm.pk [1, 2, 3, 0, 4] rfl rfl⟩
    refine tMo ?_ ?_
    ·
     refine tf rfl rfl (fun a hf => e_build0 (α := Ins_) et_56 hm rfl) ?_
     rintro aJ w hm
     exact tAk hm [2, 1] rfl fun hS => tUse hT2_8 fun a hf => ⟨an, aJ, bH, hf.sb rfl, hm.pk [1, 2, 3, 0, 4] rfl rfl⟩
    refine tO ?_
    obtain ⟨aK, aL⟩ := appM_some.1 aY
    refine tf rfl rfl (fun a hf => e_append 3 et_57 hf hm rfl (hm.now h3) rfl rfl rfl aK) ?_
    rintro cF w hm
    rw [aL] at hm
    exact tAk hm [1, 0] rfl fun hS => tUse hT2_7 fun a hf => ⟨an, cF, hf.sb rfl, hm.pk [0, 1, 2, 3] rfl rfl⟩
   refine tSh (od117_14) (fun a w => ∃ (bJ : Nat) (bK : Value), St 74 [(1, (pV aB)), (2, (pV aC)), (3, (pV bJ)), (8, bK), (10, (nV b_.jump)), (12, (nV b_.on)), (15, v3)] w0 (hp w0) [blk aB [v1, v2, (nV b_.jump), (nV b_.on), v3] 59, blk aC [(.slice none 0 0), (.slice none 0 0), (nV 0), (nV 0), (.slice none 0 0)] 59, blk bJ [(.slice none 0 0), (.slice none 0 0), (nV 0), (nV 0), (.slice none 0 0)] 59, ow [bK] ([] : List Ins_)] a w) ?_ fun hT2_15 => ?_
   ·
    rintro a w ⟨bJ, bK, hf, hm⟩
    refine tSv hf hm [1, 0] rfl fun hS => tMo ?_ ?_
    ·
     refine tf rfl rfl (fun a hf => e_build0 (α := Phi_) et_55 hm rfl) ?_
     rintro aE w hm
     exact tAk hm [2, 1] rfl fun hS => tUse hT2_12 fun a hf => ⟨bJ, aE, bK, hf.sb rfl, hm.pk [1, 2, 3, 0, 4] rfl rfl⟩
    refine tO (tf rfl rfl (fun a hf => e_build0 (α := Int) et_57 hm rfl) ?_)
    rintro aJ w hm
    exact tAk hm [2, 1] rfl fun hS => tUse hT2_8 fun a hf => ⟨bJ, bK, aJ, hf.sb rfl, hm.pk [1, 2, 3, 4, 0] rfl rfl⟩
   refine tSh (od117_13) (fun a w => ∃ (ao bL : Value), St 74 [(1, (pV aB)), (2, (pV aC)), (8, ao), (10, (nV b_.jump)), (12, (nV b_.on)), (13, bL), (15, v3)] w0 (hp w0) [blk aB [v1, v2, (nV b_.jump), (nV b_.on), v3] 59, blk aC [(.slice none 0 0), (.slice none 0 0), (nV 0), (nV 0), (.slice none 0 0)] 59, ow [ao] ([] : List Ins_), ow [bL] ([] : List Int)] a w) ?_ fun hT2_16 => ?_
   ·
    rintro a w ⟨ao, bL, hf, hm⟩
    refine tSv hf hm [1, 0] rfl fun hS => tMo ?_ ?_
    ·
     refine tf rfl rfl (fun a hf => e_build0 (α := Phi_) et_55 hm rfl) ?_
     rintro aE w hm
     exact tAk hm [2, 1] rfl fun hS => tUse hT2_13 fun a hf => ⟨aE, ao, bL, hf.sb rfl, hm.pk [1, 2, 0, 3, 4] rfl rfl⟩
    refine tMo ?_ ?_
    ·
     obtain ⟨aK, aL⟩ := appM_some.1 aY
     refine tf rfl rfl (fun a hf => e_append 3 et_57 hf hm rfl (hm.now h3) rfl rfl rfl aK) ?_
     rintro aJ w hm
     rw [aL] at hm
     exact tAk hm [1, 0] rfl fun hS => tUse hT2_9 fun a hf => ⟨ao, aJ, hf.sb rfl, hm.pk [0, 1, 2, 3] rfl rfl⟩
    refine tO (tf rfl rfl (fun a hf => e_alloc hm zeroValue59 rfl rfl) ?_)
    rintro _ w ⟨aM, rfl, hm⟩
    exact tAk hm [2, 1] rfl fun hS => tUse hT2_8 fun a hf => ⟨aM, ao, bL, hf.sb rfl, hm.pk [1, 2, 0, 3, 4] rfl rfl⟩
   refine tSh (od117_12) (fun a w => ∃ (bM : Nat) (bN : Value), St 74 [(1, (pV aB)), (2, (pV aC)), (3, (pV bM)), (7, bN), (10, (nV b_.jump)), (12, (nV b_.on)), (15, v3)] w0 (hp w0) [blk aB [v1, v2, (nV b_.jump), (nV b_.on), v3] 59, blk aC [(.slice none 0 0), (.slice none 0 0), (nV 0), (nV 0), (.slice none 0 0)] 59, blk bM [(.slice none 0 0), (.slice none 0 0), (nV 0), (nV 0), (.slice none 0 0)] 59, ow [bN] ([] : List Phi_)] a w) ?_ fun hT2_17 => ?_
   ·
    rintro a w ⟨bM, bN, hf, hm⟩
    refine tSv hf hm [1, 0] rfl fun hS => tMo ?_ ?_
    ·
     refine tf rfl rfl (fun a hf => e_build0 (α := Ins_) et_56 hm rfl) ?_
     rintro aE w hm
     exact tAk hm [2, 1] rfl fun hS => tUse hT2_12 fun a hf => ⟨bM, bN, aE, hf.sb rfl, hm.pk [1, 2, 3, 4, 0] rfl rfl⟩
    refine tO (tf rfl rfl (fun a hf => e_build0 (α := Int) et_57 hm rfl) ?_)
    rintro aJ w hm
    exact tAk hm [2, 1] rfl fun hS => tUse hT2_10 fun a hf => ⟨bM, bN, aJ, hf.sb rfl, hm.pk [1, 2, 3, 4, 0] rfl rfl⟩
   refine tSh (od117_11) (fun a w => ∃ (ap bO : Value), St 74 [(1, (pV aB)), (2, (pV aC)), (7, ap), (10, (nV b_.jump)), (12, (nV b_.on)), (13, bO), (15, v3)] w0 (hp w0) [blk aB [v1, v2, (nV b_.jump), (nV b_.on), v3] 59, blk aC [(.slice none 0 0), (.slice none 0 0), (nV 0), (nV 0), (.slice none 0 0)] 59, ow [ap] ([] : List Phi_), ow [bO] ([] : List Int)] a w) ?_ fun hT2_18 => ?_
   ·
    rintro a w ⟨ap, bO, hf, hm⟩
    refine tSv hf hm [1, 0] rfl fun hS => tMo ?_ ?_
    ·
     refine tf rfl rfl (fun a hf => e_build0 (α := Ins_) et_56 hm rfl) ?_
     rintro aE w hm
     exact tAk hm [2, 1] rfl fun hS => tUse hT2_13 fun a hf => ⟨ap, aE, bO, hf.sb rfl, hm.pk [1, 2, 3, 0, 4] rfl rfl⟩
    refine tMo ?_ ?_
    ·
     obtain ⟨aK, aL⟩ := appM_some.1 aY
     refine tf rfl rfl (fun a hf => e_append 3 et_57 hf hm rfl (hm.now h3) rfl rfl rfl aK) ?_
     rintro aJ w hm
     rw [aL] at hm
     exact tAk hm [1, 0] rfl fun hS => tUse hT2_11 fun a hf => ⟨ap, aJ, hf.sb rfl, hm.pk [0, 1, 2, 3] rfl rfl⟩
    refine tO (tf rfl rfl (fun a hf => e_alloc hm zeroValue59 rfl rfl) ?_)
    rintro _ w ⟨aM, rfl, hm⟩
    exact tAk hm [2, 1] rfl fun hS => tUse hT2_10 fun a hf => ⟨aM, ap, bO, hf.sb rfl, hm.pk [1, 2, 0, 3, 4] rfl rfl⟩
   refine tSh (od117_10) (fun a w => ∃ (bP bQ : Value), St 74 [(1, (pV aB)), (2, (pV aC)), (7, bP), (8, bQ), (10, (nV b_.jump)), (12, (nV b_.on)), (15, v3)] w0 (hp w0) [blk aB [v1, v2, (nV b_.jump), (nV b_.on), v3] 59, blk aC [(.slice none 0 0), (.slice none 0 0), (nV 0), (nV 0), (.slice none 0 0)] 59, ow [bP] ([] : List Phi_), ow [bQ] ([] : List Ins_)] a w) ?_ fun hT2_19 => ?_
   ·
    rintro a w ⟨bP, bQ, hf, hm⟩
    refine tSv hf hm [1, 0] rfl fun hS => tMo ?_ ?_
    ·
     refine tf rfl rfl (fun a hf => e_build0 (α := Int) et_57 hm rfl) ?_
     rintro aE w hm
     exact tAk hm [2, 1] rfl fun hS => tUse hT2_13 fun a hf => ⟨bP, bQ, aE, hf.sb rfl, hm.pk [1, 2, 3, 4, 0] rfl rfl⟩
    refine tO (tf rfl rfl (fun a hf => e_alloc hm zeroValue59 rfl rfl) ?_)
    rintro _ w ⟨aM, rfl, hm⟩
    exact tAk hm [2, 1] rfl fun hS => tUse hT2_12 fun a hf => ⟨aM, bP, bQ, hf.sb rfl, hm.pk [1, 2, 0, 3, 4] rfl rfl⟩
   refine tMo ?_ ?_
   ·
    refine tf rfl rfl (fun a hf => e_build0 (α := Phi_) et_55 hm rfl) ?_
    rintro aE w hm
    refine tAk hm [1, 2] rfl fun hS => tMo ?_ ?_
    ·
     refine tf rfl rfl (fun a hf => e_build0 (α := Ins_) et_56 hm rfl) ?_
     rintro aJ w hm
     exact tAk hm [2, 3] rfl fun hS => tUse hT2_19 fun a hf => ⟨aE, aJ, hf.sb rfl, hm.pk [3, 2, 1, 0] rfl rfl⟩
    refine tMo ?_ ?_
    ·
     refine tf rfl rfl (fun a hf => e_build0 (α := Int) et_57 hm rfl) ?_
     rintro cF w hm
     exact tAk hm [2, 3] rfl fun hS => tUse hT2_18 fun a hf => ⟨aE, cF, hf.sb rfl, hm.pk [3, 2, 1, 0] rfl rfl⟩
    refine tO (tf rfl rfl (fun a hf => e_alloc hm zeroValue59 rfl rfl) ?_)
    rintro _ w ⟨aM, rfl, hm⟩
    exact tAk hm [2, 3] rfl fun hS => tUse hT2_17 fun a hf => ⟨aM, aE, hf.sb rfl, hm.pk [3, 2, 0, 1] rfl rfl⟩
   refine tMo ?_ ?_
   ·
    refine tf rfl rfl (fun a hf => e_build0 (α := Ins_) et_56 hm rfl) ?_
    rintro cG w hm
    refine tAk hm [1, 2] rfl fun hS => tMo ?_ ?_
    ·
     refine tf rfl rfl (fun a hf => e_build0 (α := Phi_) et_55 hm rfl) ?_
     rintro cT w hm
     exact tAk hm [2, 3] rfl fun hS => tUse hT2_19 fun a hf => ⟨cT, cG, hf.sb rfl, hm.pk [3, 2, 0, 1] rfl rfl⟩
    refine tMo ?_ ?_
    ·
     refine tf rfl rfl (fun a hf => e_build0 (α := Int) et_57 hm rfl) ?_
     rintro cU w hm
     exact tAk hm [2, 3] rfl fun hS => tUse hT2_16 fun a hf => ⟨cG, cU, hf.sb rfl, hm.pk [3, 2, 1, 0] rfl rfl⟩
    refine tO (tf rfl rfl (fun a hf => e_alloc hm zeroValue59 rfl rfl) ?_)
    rintro _ w ⟨cV, rfl, hm⟩
    exact tAk hm [2, 3] rfl fun hS => tUse hT2_15 fun a hf => ⟨cV, cG, hf.sb rfl, hm.pk [3, 2, 0, 1] rfl rfl⟩
   refine tMo ?_ ?_
   ·
    refine tf rfl rfl (fun a hf => e_build0 (α := Int) et_57 hm rfl) ?_
    rintro cH w hm
    refine tAk hm [1, 2] rfl fun hS => tMo ?_ ?_
    ·
     refine tf rfl rfl (fun a hf => e_build0 (α := Phi_) et_55 hm rfl) ?_
     rintro cW w hm
     exact tAk hm [2, 3] rfl fun hS => tUse hT2_18 fun a hf => ⟨cW, cH, hf.sb rfl, hm.pk [3, 2, 0, 1] rfl rfl⟩
    refine tMo ?_ ?_
    ·
     refine tf rfl rfl (fun a hf => e_build0 (α := Ins_) et_56 hm rfl) ?_
     rintro cX w hm
     exact tAk hm [2, 3] rfl fun hS => tUse hT2_16 fun a hf => ⟨cX, cH, hf.sb rfl, hm.pk [3, 2, 0, 1] rfl rfl⟩
    refine tMo ?_ ?_
    ·
     obtain ⟨aK, aL⟩ := appM_some.1 aY
     refine tf rfl rfl (fun a hf => e_append 0 et_57 hf hm rfl (hm.now h3) rfl rfl rfl aK) ?_
     rintro cI w hm
     rw [aL] at hm
     refine tAk hm [1, 2] rfl fun hS => tMo ?_ ?_
     ·
      refine tf rfl rfl (fun a hf => e_build0 (α := Phi_) et_55 hm rfl) ?_
      rintro cY w hm
      exact tAk hm [2, 3] rfl fun hS => tUse hT2_11 fun a hf => ⟨cY, cI, hf.sb rfl, hm.pk [3, 2, 0, 1] rfl rfl⟩
     refine tMo ?_ ?_
     ·
      refine tf rfl rfl (fun a hf => e_build0 (α := Ins_) et_56 hm rfl) ?_
      rintro cZ w hm
      exact tAk hm [2, 3] rfl fun hS => tUse hT2_9 fun a hf => ⟨cZ, cI, hf.sb rfl, hm.pk [3, 2, 0, 1] rfl rfl⟩
     refine tO (tf rfl rfl (fun a hf => e_alloc hm zeroValue59 rfl rfl) ?_)
     rintro _ w ⟨c7, rfl, hm⟩
     exact tAk hm [2, 3] rfl fun hS => tUse hT2_7 fun a hf => ⟨c7, cI, hf.sb rfl, hm.pk [3, 2, 0, 1] rfl rfl⟩
    refine tO (tf rfl rfl (fun a hf => e_alloc hm zeroValue59 rfl rfl) ?_)
    rintro _ w ⟨c8, rfl, hm⟩
    exact tAk hm [2, 3] rfl fun hS => tUse hT2_14 fun a hf => ⟨c8, cH, hf.sb rfl, hm.pk [3, 2, 0, 1] rfl rfl⟩
   refine tO (tf rfl rfl (fun a hf => e_alloc hm zeroValue59 rfl rfl) ?_)
   rintro _ w ⟨cJ, rfl, hm⟩
   refine tAk hm [1, 2] rfl fun hS => tMo ?_ ?_
   ·
    refine tf rfl rfl (fun a hf => e_build0 (α := Phi_) et_55 hm rfl) ?_
    rintro c9 w hm
    exact tAk hm [2, 3] rfl fun hS => tUse hT2_17 fun a hf => ⟨cJ, c9, hf.sb rfl, hm.pk [3, 2, 1, 0] rfl rfl⟩
   refine tMo ?_ ?_
   ·
    refine tf rfl rfl (fun a hf => e_build0 (α := Ins_) et_56 hm rfl) ?_
    rintro ca w hm
    exact tAk hm [2, 3] rfl fun hS => tUse hT2_15 fun a hf => ⟨cJ, ca, hf.sb rfl, hm.pk [3, 2, 1, 0] rfl rfl⟩
   refine tO (tf rfl rfl (fun a hf => e_build0 (α := Int) et_57 hm rfl) ?_)
   rintro cb w hm
   exact tAk hm [2, 3] rfl fun hS => tUse hT2_14 fun a hf => ⟨cJ, cb, hf.sb rfl, hm.pk [3, 2, 1, 0] rfl rfl⟩
  repeat clear hm
  rintro aD a w ⟨aI, bu, bv, bw, hf, hm⟩
  refine gv hf (gS (gS (gR (gA rfl (gE ?_)))))
  obtain ⟨cc, cd, rfl, dA⟩ := ro_slice (hm.ow_rep 3 rfl)
  obtain ⟨aP, aQ, rfl, dB⟩ := ro_slice (hm.ow_rep 4 rfl)
  obtain ⟨aF, aG, rfl, dC⟩ := ro_slice (hm.ow_rep 5 rfl)
  refine gBk (gNg (fun cL aZ a w => ∃ (aR : Value), St 74 [(1, (pV aB)), (2, (pV aC)), (3, (pV aI)), (4, (nV cL))] w0 (hp w0) [blk aB [v1, v2, (nV b_.jump), (nV b_.on), v3] 59, blk aC [(.slice none 0 0), (.slice none 0 0), (nV 0), (nV 0), (.slice none 0 0)] 59, blk aI [aR, (.slice aP ([] : List Ins_).length aQ), (nV b_.jump), (nV b_.on), (.slice aF aD.length aG)] 59, ow [aR] aZ, ow [(.slice aP ([] : List Ins_).length aQ)] ([] : List Ins_), ow [(.slice aF aD.length aG)] aD] a w) (fun a hf => ⟨(.slice cc ([] : List Phi_).length cd), hf.sb rfl, hm.pk [0, 1, 2, 3, 4, 5] rfl rfl⟩) ?_ ?_)
  ·
   repeat clear hm
   rintro _ _ cL aZ a w ⟨aR, hf, hm⟩ dD dE dF _
   refine gv hf (gS (gS (gR (gM rfl (gF fo_59_0 rfl (gL hm 0 isAgg55 rfl ?_))))))
   obtain ⟨ce, bR, rfl, dG⟩ := ro_slice h1
   refine gY (yV st_55 rfl) (gB rfl (gE (go _ 22 rfl (decide_eq_true (by omega)) (gct rfl (gSk (gS (gBk (gW (.p 0 (.p 2 (.p 4 (.p 9 (.p 11 (.q 1 (.q 3 (.p 5 (.p 6 (.q 7 (.q 10 (.p 12 (.p 13 (.q 14 (.e 8 (.e 15 (.p 16 (.e 17 (.e 18 (.p 19 (.e 20 .fin .nil)) .nil) .nil)) .nil) .nil))))))))))))))) [1, 3, 7, 8, 10, 14, 15, 17] [0, 2, 4, 5, 6, 9, 11, 12, 13, 16, 19] hm [0, 1, 2, 3, 4, 5] [blk aB [(.slice ce b_.phis.length bR), v2, (nV b_.jump), (nV b_.on), v3] 59, blk aC [(.slice none 0 0), (.slice none 0 0), (nV 0), (nV 0), (.slice none 0 0)] 59, blk aI [aR, (.slice aP ([] : List Ins_).length aQ), (nV b_.jump), (nV b_.on), (.slice aF aD.length aG)] 59, ow [aR] aZ, ow [(.slice aP ([] : List Ins_).length aQ)] ([] : List Ins_), ow [(.slice aF aD.length aG)] aD] rfl mxo (by kernel_rfl) (fun _ _ _ h => h.2) fun w hm hS => tP rfl (fun w => yF fo_59_0 rfl) (tP rfl (fun w => yF fo_59_0 rfl) (tP rfl (fun w => yM rfl) (tP rfl (fun w => yF fo_59_0 rfl) (tP rfl (fun w => yM rfl) (tQ rfl hS (fun w hm => yL hm 2 isAgg55 rfl) (tQ rfl hS (fun w hm => yL hm 0 isAgg55 rfl) (gg fun aO cM bp => ?_)))))))))))))))
   obtain ⟨bq, br, dH, he⟩ := idx_form' h1 bp
   obtain ⟨rfl, _, rfl⟩ := sl3 he
   obtain ⟨dI, cN, cf⟩ := rk_Phi_ h1 bp
   refine tP rfl (fun w => yI st_55 cM (idx_lt bp) rfl) (tP rfl (fun w => yF fo_87_0 rfl) (tQ rfl hS (fun w hm => yl isAgg3 ((cN.mono hm.lez).cell (j := 0) rfl) rfl) (tQ rfl hS (fun w hm => yL hm 0 isAgg55 rfl) (tP rfl (fun w => yI st_55 cM (idx_lt bp) rfl) (tP rfl (fun w => yF fo_87_1 rfl) (tQ rfl hS (fun w hm => yl isAgg57 ((cN.mono hm.lez).cell (j := 1) rfl) rfl) (tO (tf rfl rfl (fun a hf => e_build0 (α := Int) et_57 hm rfl) ?_))))))))
   rintro dJ w hm
   refine tAk hm [1, 2, 3, 4, 5, 6] rfl fun hS => tO (gb fun aS cg => ?_)
   obtain ⟨ci, cj⟩ := appM_some.1 cg
   refine tf rfl rfl (fun a hf => e_append 0 et_57 hf hm rfl (hm.now cf) rfl rfl rfl ci) ?_
   rintro dK w hm
   rw [cj] at hm
   refine tAk hm [1, 2, 3, 4, 5, 6] rfl fun hS => ?_
   obtain ⟨aa, ab, rfl, dL⟩ := ro_slice (hm.ow_rep 0 rfl)
   refine tP rfl (fun w => yG rfl (y_build (vs := [(0, (nV aO.to)), (1, (.slice aa aS.length ab))]) (cs := #[(nV aO.to), (.slice aa aS.length ab)]) rfl rfl (by kernel_rfl))) (tO (tf rfl rfl (fun a hf => e_build (vs := #[(0, (.agg #[(nV aO.to), (.slice aa aS.length ab)]))]) (cs := [(nV aO.to), (.slice aa aS.length ab)]) et_55 hf hm rfl rfl (by kernel_rfl) rfl rfl) ?_))
   rintro _ w ⟨bs, rfl, hm⟩
   replace hm := hm.els_nil (α := Phi_)
   replace hm : Mem w0 (hp w0) _ [els [] ([] : List Phi_), blk bs [(nV aO.to), (.slice aa aS.length ab)] 87, ow [(nV aO.to), (.slice aa aS.length ab)] ((⟨aO.to, aS⟩ : Phi_) : Phi_), blk aB [(sV bq br b_.phis.length bR), v2, (nV b_.jump), (nV b_.on), v3] 59, blk aC [(.slice none 0 0), (.slice none 0 0), (nV 0), (nV 0), (.slice none 0 0)] 59, blk aI [aR, (.slice aP ([] : List Ins_).length aQ), (nV b_.jump), (nV b_.on), (.slice aF aD.length aG)] 59, ow [aR] aZ, ow [(.slice aP ([] : List Ins_).length aQ)] ([] : List Ins_), ow [(.slice aF aD.length aG)] aD] := mk_Phi_ aO.to hm 2 rfl
   replace hm := (hm.els_cons 0 2 (by decide) rfl rfl).pk (L' := [els [(nV aO.to), (.slice aa aS.length ab)] ([(⟨aO.to, aS⟩ : Phi_)] : List Phi_), blk bs [(nV aO.to), (.slice aa aS.length ab)] 87, blk aB [(sV bq br b_.phis.length bR), v2, (nV b_.jump), (nV b_.on), v3] 59, blk aC [(.slice none 0 0), (.slice none 0 0), (nV 0), (nV 0), (.slice none 0 0)] 59, blk aI [aR, (.slice aP ([] : List Ins_).length aQ), (nV b_.jump), (nV b_.on), (.slice aF aD.length aG)] 59, ow [aR] aZ, ow [(.slice aP ([] : List Ins_).length aQ)] ([] : List Ins_), ow [(.slice aF aD.length aG)] aD]) [0, 1, 3, 4, 5, 6, 7, 8] rfl rfl
   replace hm := (hm.lit_els 1 0 (by decide) rfl rfl rfl rfl).pk (L' := [ow [(sV bs 0 1 1)] ([(⟨aO.to, aS⟩ : Phi_)] : List Phi_), blk aB [(sV bq br b_.phis.length bR), v2, (nV b_.jump), (nV b_.on), v3] 59, blk aC [(.slice none 0 0), (.slice none 0 0), (nV 0), (nV 0), (.slice none 0 0)] 59, blk aI [aR, (.slice aP ([] : List Ins_).length aQ), (nV b_.jump), (nV b_.on), (.slice aF aD.length aG)] 59, ow [aR] aZ, ow [(.slice aP ([] : List Ins_).length aQ)] ([] : List Ins_), ow [(.slice aF aD.length aG)] aD]) [1, 2, 3, 4, 5, 6, 7] rfl rfl
   refine tAk hm [1, 2, 3, 4, 5, 6] rfl fun hS => tO (gb fun dM ck => ?_)
   obtain ⟨cl, cm⟩ := appM_some.1 ck
   replace hm := (hm.both 4 0 (by decide) rfl rfl).pk (L' := [blk aB [(sV bq br b_.phis.length bR), v2, (nV b_.jump), (nV b_.on), v3] 59, blk aC [(.slice none 0 0), (.slice none 0 0), (nV 0), (nV 0), (.slice none 0 0)] 59, blk aI [aR, (.slice aP ([] : List Ins_).length aQ), (nV b_.jump), (nV b_.on), (.slice aF aD.length aG)] 59, both (ow [aR] aZ) (ow [(sV bs 0 1 1)] ([(⟨aO.to, aS⟩ : Phi_)] : List Phi_)), ow [(.slice aP ([] : List Ins_).length aQ)] ([] : List Ins_), ow [(.slice aF aD.length aG)] aD]) [1, 2, 3, 4, 5, 6] rfl rfl
   refine tf rfl rfl (fun a hf => e_appendD (xs := aZ) (ys := ([(⟨aO.to, aS⟩ : Phi_)] : List Phi_)) 3 et_55 hf hm rfl rfl rfl rfl cl) ?_
   rintro cn w hm
   rw [cm] at hm
   refine tAn rfl (tP rfl (fun w => yF fo_59_0 rfl) (tO (tf0 rfl rfl (fun a hf => e_store1 2 hf hm rfl sizeOf55 rfl rfl rfl (rep_one (hm.ow_rep 3 rfl)) rfl) ?_)))
   rintro _ w hm
   exact tAn rfl (tE (gR (gM rfl (gP (by omega) (by omega) rfl (gA rfl (gE (gZe fun a hf => ⟨cn, hf.sb rfl, hm.pk [0, 1, 2, 3, 4, 5] rfl rfl⟩)))))))
  repeat clear hm
  rintro dN aH a w ⟨dO, hf, hm⟩ dP dQ
  refine gv hf (gS (gS (gR (gM rfl (gF fo_59_0 rfl (gL hm 0 isAgg55 rfl ?_))))))
  obtain ⟨aq, ar, rfl, dR⟩ := ro_slice h1
  refine gY (yV st_55 rfl) (gB rfl (gE (go _ 22 rfl (decide_eq_false (by omega)) (gcf rfl (gXt (gHh (gS (gS (gR (gA rfl (gE ?_)))))))))))
  obtain ⟨aT, aV, rfl, dS⟩ := ro_slice (hm.ow_rep 3 rfl)
  refine gBk (gNg (fun cO ac a w => ∃ (aW : Value), St 74 [(1, (pV aB)), (2, (pV aC)), (3, (pV aI)), (5, (nV cO))] w0 (hp w0) [blk aB [(.slice aq b_.phis.length ar), v2, (nV b_.jump), (nV b_.on), v3] 59, blk aC [(.slice none 0 0), (.slice none 0 0), (nV 0), (nV 0), (.slice none 0 0)] 59, blk aI [(.slice aT aH.length aV), aW, (nV b_.jump), (nV b_.on), (.slice aF aD.length aG)] 59, ow [(.slice aT aH.length aV)] aH, ow [aW] ac, ow [(.slice aF aD.length aG)] aD] a w) (fun a hf => ⟨(.slice aP ([] : List Ins_).length aQ), hf.sb rfl, hm.pk [0, 1, 2, 3, 4, 5] rfl rfl⟩) ?_ ?_)
  ·
   repeat clear hm
   rintro _ _ cO ac a w ⟨aW, hf, hm⟩ dT dU dV _
   refine gv hf (gS (gS (gR (gM rfl (gF fo_59_1 rfl (gL hm 0 isAgg56 rfl ?_))))))
   obtain ⟨dW, bS, rfl, dX⟩ := ro_slice h2
   refine gY (yV st_56 rfl) (gB rfl (gE (go _ 49 rfl (decide_eq_true (by omega)) (gct rfl (gSk (gS (gBk (gS (gR (gF fo_59_1 rfl (gL hm 0 isAgg56 rfl (gM rfl (gg fun aA co cK => ?_)))))))))))))
   obtain ⟨bT, bU, dY, he⟩ := idx_form' h2 cK
   obtain ⟨rfl, _, rfl⟩ := sl3 he
   obtain ⟨bV, cq, cP⟩ := rk_Ins_ h2 cK
   refine gI st_56 co (idx_lt cK) rfl (gY (yn (cq.mono hm.lez) isAgg61 sizeOf61 rfl) (gAl hm zeroValue61 rfl fun bW w hm => gSN hm 0 sizeOf61 (one_cons rfl (one_cons rfl (one_cons (rep_one cP) (one_cons rfl one_nil)))) rfl fun w hm => gE (gW (.p 0 (.p 2 (.p 4 (.p 7 (.p 10 (.q 1 (.q 3 (.q 5 (.q 8 (.q 11 (.e 6 (.e 9 (.p 12 (.e 13 (.e 14 (.p 15 (.e 16 .fin .nil)) .nil) .nil)) .nil) .nil))))))))))) [1, 3, 5, 6, 8, 9, 11, 13] [0, 2, 4, 7, 10, 12, 15] hm [0, 1, 2, 3, 4, 5, 6] [blk bW [(nV aA.op), (nV aA.to), bV, (nV aA.n_)] 61, blk aB [(.slice aq b_.phis.length ar), (sV bT bU b_.ins.length bS), (nV b_.jump), (nV b_.on), v3] 59, blk aC [(.slice none 0 0), (.slice none 0 0), (nV 0), (nV 0), (.slice none 0 0)] 59, blk aI [(.slice aT aH.length aV), aW, (nV b_.jump), (nV b_.on), (.slice aF aD.length aG)] 59, ow [(.slice aT aH.length aV)] aH, ow [aW] ac, ow [(.slice aF aD.length aG)] aD] rfl mxo (by kernel_rfl) (fun _ _ _ h => h.2) fun w hm hS => tP rfl (fun w => yF fo_59_1 rfl) (tP rfl (fun w => yF fo_61_0 rfl) (tP rfl (fun w => yF fo_61_1 rfl) (tP rfl (fun w => yF fo_61_2 rfl) (tP rfl (fun w => yF fo_61_3 rfl) (tQ rfl hS (fun w hm => yL hm 3 isAgg56 rfl) (tQ rfl hS (fun w hm => yL hm 0 isAgg3 rfl) (tQ rfl hS (fun w hm => yL hm 0 isAgg3 rfl) (tQ rfl hS (fun w hm => yL hm 0 isAgg57 rfl) (tQ rfl hS (fun w hm => yL hm 0 isAgg3 rfl) (tO (tf rfl rfl (fun a hf => e_build0 (α := Int) et_57 hm rfl) ?_))))))))))))))
   rintro dZ w hm
   refine tAk hm [1, 2, 3, 4, 5, 6, 7] rfl fun hS => tO (gb fun aX cr => ?_)
   obtain ⟨ct, cu⟩ := appM_some.1 cr
   refine tf rfl rfl (fun a hf => e_append 0 et_57 hf hm rfl (hm.now cP) rfl rfl rfl ct) ?_
   rintro d4 w hm
   rw [cu] at hm
   refine tAk hm [1, 2, 3, 4, 5, 6, 7] rfl fun hS => ?_
   obtain ⟨ae, af, rfl, d5⟩ := ro_slice (hm.ow_rep 0 rfl)
   refine tP rfl (fun w => yG rfl (y_build (vs := [(0, (nV aA.op)), (1, (nV aA.to)), (2, (.slice ae aX.length af)), (3, (nV aA.n_))]) (cs := #[(nV aA.op), (nV aA.to), (.slice ae aX.length af), (nV aA.n_)]) rfl rfl (by kernel_rfl))) (tO (tf rfl rfl (fun a hf => e_build (vs := #[(0, (.agg #[(nV aA.op), (nV aA.to), (.slice ae aX.length af), (nV aA.n_)]))]) (cs := [(nV aA.op), (nV aA.to), (.slice ae aX.length af), (nV aA.n_)]) et_56 hf hm rfl rfl (by kernel_rfl) rfl rfl) ?_))
   rintro _ w ⟨bt, rfl, hm⟩
   replace hm := hm.els_nil (α := Ins_)
   replace hm : Mem w0 (hp w0) _ [els [] ([] : List Ins_), blk bt [(nV aA.op), (nV aA.to), (.slice ae aX.length af), (nV aA.n_)] 61, ow [(nV aA.op), (nV aA.to), (.slice ae aX.length af), (nV aA.n_)] ((⟨aA.op, aA.to, aX, aA.n_⟩ : Ins_) : Ins_), blk bW [(nV aA.op), (nV aA.to), bV, (nV aA.n_)] 61, blk aB [(.slice aq b_.phis.length ar), (sV bT bU b_.ins.length bS), (nV b_.jump), (nV b_.on), v3] 59, blk aC [(.slice none 0 0), (.slice none 0 0), (nV 0), (nV 0), (.slice none 0 0)] 59, blk aI [(.slice aT aH.length aV), aW, (nV b_.jump), (nV b_.on), (.slice aF aD.length aG)] 59, ow [(.slice aT aH.length aV)] aH, ow [aW] ac, ow [(.slice aF aD.length aG)] aD] := mk_Ins_ aA.op aA.to aA.n_ hm 2 rfl
   replace hm := (hm.els_cons 0 2 (by decide) rfl rfl).pk (L' := [els [(nV aA.op), (nV aA.to), (.slice ae aX.length af), (nV aA.n_)] ([(⟨aA.op, aA.to, aX, aA.n_⟩ : Ins_)] : List Ins_), blk bt [(nV aA.op), (nV aA.to), (.slice ae aX.length af), (nV aA.n_)] 61, blk bW [(nV aA.op), (nV aA.to), bV, (nV aA.n_)] 61, blk aB [(.slice aq b_.phis.length ar), (sV bT bU b_.ins.length bS), (nV b_.jump), (nV b_.on), v3] 59, blk aC [(.slice none 0 0), (.slice none 0 0), (nV 0), (nV 0), (.slice none 0 0)] 59, blk aI [(.slice aT aH.length aV), aW, (nV b_.jump), (nV b_.on), (.slice aF aD.length aG)] 59, ow [(.slice aT aH.length aV)] aH, ow [aW] ac, ow [(.slice aF aD.length aG)] aD]) [0, 1, 3, 4, 5, 6, 7, 8, 9] rfl rfl
   replace hm := (hm.lit_els 1 0 (by decide) rfl rfl rfl rfl).pk (L' := [ow [(sV bt 0 1 1)] ([(⟨aA.op, aA.to, aX, aA.n_⟩ : Ins_)] : List Ins_), blk bW [(nV aA.op), (nV aA.to), bV, (nV aA.n_)] 61, blk aB [(.slice aq b_.phis.length ar), (sV bT bU b_.ins.length bS), (nV b_.jump), (nV b_.on), v3] 59, blk aC [(.slice none 0 0), (.slice none 0 0), (nV 0), (nV 0), (.slice none 0 0)] 59, blk aI [(.slice aT aH.length aV), aW, (nV b_.jump), (nV b_.on), (.slice aF aD.length aG)] 59, ow [(.slice aT aH.length aV)] aH, ow [aW] ac, ow [(.slice aF aD.length aG)] aD]) [1, 2, 3, 4, 5, 6, 7, 8] rfl rfl
   refine tAk hm [1, 2, 3, 4, 5, 6, 7] rfl fun hS => tO (gb fun d6 cv => ?_)
   obtain ⟨cw, cx⟩ := appM_some.1 cv
   replace hm := (hm.both 6 0 (by decide) rfl rfl).pk (L' := [blk bW [(nV aA.op), (nV aA.to), bV, (nV aA.n_)] 61, blk aB [(.slice aq b_.phis.length ar), (sV bT bU b_.ins.length bS), (nV b_.jump), (nV b_.on), v3] 59, blk aC [(.slice none 0 0), (.slice none 0 0), (nV 0), (nV 0), (.slice none 0 0)] 59, blk aI [(.slice aT aH.length aV), aW, (nV b_.jump), (nV b_.on), (.slice aF aD.length aG)] 59, ow [(.slice aT aH.length aV)] aH, both (ow [aW] ac) (ow [(sV bt 0 1 1)] ([(⟨aA.op, aA.to, aX, aA.n_⟩ : Ins_)] : List Ins_)), ow [(.slice aF aD.length aG)] aD]) [1, 2, 3, 4, 5, 6, 7] rfl rfl
   refine tf rfl rfl (fun a hf => e_appendD (xs := ac) (ys := ([(⟨aA.op, aA.to, aX, aA.n_⟩ : Ins_)] : List Ins_)) 5 et_56 hf hm rfl rfl rfl rfl cw) ?_
   rintro cy w hm
   rw [cx] at hm
   refine tAn rfl (tP rfl (fun w => yF fo_59_1 rfl) (tO (tf0 rfl rfl (fun a hf => e_store1 3 hf hm rfl sizeOf56 rfl rfl rfl (rep_one (hm.ow_rep 5 rfl)) rfl) ?_)))
   rintro _ w hm
   exact tAn rfl (tE (gR (gM rfl (gP (by omega) (by omega) rfl (gA rfl (gE (gZe fun a hf => ⟨cy, hf.sb rfl, hm.pk [1, 2, 3, 4, 5, 6] rfl rfl⟩)))))))
  repeat clear hm
  rintro d7 d8 a w ⟨cz, hf, hm⟩ d9 da
  refine gv hf (gS (gS (gR (gM rfl (gF fo_59_1 rfl (gL hm 0 isAgg56 rfl ?_))))))
  obtain ⟨db, dc, rfl, dd⟩ := ro_slice h2
  exact gY (yV st_56 rfl) (gB rfl (gE (go _ 49 rfl (decide_eq_false (by omega)) (gcf rfl (gXt (gHh (gS (gR (gY (yn (hm.blk_at 2 rfl) isAgg59 sizeOf59 rfl) (gSN hm 1 sizeOf59 (one_cons rfl (one_cons (rep_one (hm.ow_rep 4 rfl)) (one_cons rfl (one_cons rfl (one_cons rfl one_nil))))) rfl fun w hm => gE (gRt (grc 1 results117 hm rfl isAgg59 sizeOf59 ⟨(.slice aT aH.length aV), cz, (.slice aF aD.length aG), rfl, hm.pk [3, 4, 5] rfl rfl⟩))))))))))))
theorem spec_l7Copy_ok (w0 : World) (c_ : Code_) (v1 : Value) (h1 : GT.rep (hp w0) [v1] c_.blocks) :
    ConM Tryz.prog 65 [(.agg #[(nV c_.params), (nV c_.regs), v1])] w0 (spec_l7Copy c_) fun r v w' => ∃ (x1 : Value), v = (.agg #[(nV r.params), (nV r.regs), x1]) ∧ Mem w0 (hp w0) w' [ow [x1] r.blocks] := by
  unfold spec_l7Copy
  refine gcon func65 rfl fun r => ?_
  have hm := Mem.start w0
  refine gS (gR (gBx hm rfl fun aD w hm => gAl hm zeroValue44 rfl fun aE w hm => gE (gS (gR (gF fo_44_0 rfl (gL hm 1 isAgg3 rfl (gF fo_44_1 rfl (gL hm 1 isAgg3 rfl (gY (yG rfl (y_build (vs := [(0, (nV c_.params)), (1, (nV c_.regs))]) (cs := #[(nV c_.params), (nV c_.regs), (.slice none 0 0)]) rfl rfl (by kernel_rfl))) (gAl hm zeroValue44 rfl fun aF w hm => gSN hm 0 sizeOf44 (one_cons rfl (one_cons rfl (one_cons rfl one_nil))) rfl fun w hm => gE (gS (gS (gR (gA rfl (gE (gBk ?_))))))))))))))))
  replace hm := hm.nilow (α := Block_)
  refine gNg (fun aO aC a w => ∃ (aB : Value), St 29 [(1, (pV aD)), (2, (pV aE)), (3, (pV aF)), (4, (nV aO))] w0 (hp w0) [blk aD [(nV c_.params), (nV c_.regs), v1] 44, blk aE [(nV 0), (nV 0), (.slice none 0 0)] 44, blk aF [(nV c_.params), (nV c_.regs), aB] 44, ow [aB] aC] a w) (fun a hf => ⟨(.slice none 0 0), hf.sb rfl, hm.pk [3, 2, 1, 0] rfl rfl⟩) ?_ ?_
  ·
   repeat clear hm
   rintro _ _ aO aC a w ⟨aB, hf, hm⟩ ah ai aj _
   refine gv hf (gS (gS (gR (gM rfl (gF fo_44_2 rfl (gL hm 0 isAgg42 rfl ?_))))))
   obtain ⟨aP, aJ, rfl, ak⟩ := ro_slice h1
   refine gY (yV st_42 rfl) (gB rfl (gE (go _ 14 rfl (decide_eq_true (by omega)) (gct rfl (gSk (gS (gBk (gW (.p 0 (.p 2 (.p 4 (.q 1 (.e 3 (.p 5 (.e 6 (.e 7 (.e 8 (.e 9 (.p 10 (.e 11 .fin .nil)) .nil) .nil) .nil) .nil)) .nil))))) [3, 6, 7, 8] [0, 2, 4, 5, 10] hm [0, 1, 2, 3] [blk aD [(nV c_.params), (nV c_.regs), (.slice aP c_.blocks.length aJ)] 44, blk aE [(nV 0), (nV 0), (.slice none 0 0)] 44, blk aF [(nV c_.params), (nV c_.regs), aB] 44, ow [aB] aC] rfl mxo (by kernel_rfl) (fun _ _ _ h => h.2) fun w hm hS => tP rfl (fun w => yF fo_44_2 rfl) (tP rfl (fun w => yF fo_44_2 rfl) (tP rfl (fun w => yM rfl) (tQ rfl hS (fun w hm => yL hm 2 isAgg42 rfl) (tO (tY rfl (yL hm 0 isAgg42 rfl) (tAs hS (gg fun aQ aR aN => ?_)))))))))))))))
   obtain ⟨aK, aL, am, he⟩ := idx_form' h1 aN
   obtain ⟨rfl, _, rfl⟩ := sl3 he
   obtain ⟨aS, aT, aV, aW, aX, aY, aZ⟩ := rk_Block_ h1 aN
   refine tP rfl (fun w => yI st_42 aR (idx_lt aN) rfl) (tO (tY rfl (yn (aW.mono hm.lez) isAgg59 sizeOf59 rfl) (tAs hS (tO (gb fun aA aa => tf rfl rfl (fun a hf => e_call hf rfl call117 rfl (spec_l7CopyBlock_ok _ aQ aS (hm.now aX) aT (hm.now aY) aV (hm.now aZ) _ aa)) ?_)))))
   rintro an w ⟨aG, aH, aI, rfl, hB⟩
   replace hm := hm.give hB; clear hB
   refine tAk hm [3, 4, 5, 6] rfl fun hS => tO (tf rfl rfl (fun a hf => e_build (vs := #[(0, (.agg #[aG, aH, (nV aA.jump), (nV aA.on), aI]))]) (cs := [aG, aH, (nV aA.jump), (nV aA.on), aI]) et_42 hf hm rfl rfl (by kernel_rfl) rfl rfl) ?_)
   rintro _ w ⟨aM, rfl, hm⟩
   replace hm := hm.els_nil (α := Block_)
   replace hm := (mk_Block_ aA.jump aA.on hm 2 3 4 rfl).pk (L' := [els [] ([] : List Block_), blk aM [aG, aH, (nV aA.jump), (nV aA.on), aI] 59, ow [aG, aH, (nV aA.jump), (nV aA.on), aI] (aA : Block_), blk aD [(nV c_.params), (nV c_.regs), (sV aK aL c_.blocks.length aJ)] 44, blk aE [(nV 0), (nV 0), (.slice none 0 0)] 44, blk aF [(nV c_.params), (nV c_.regs), aB] 44, ow [aB] aC]) [0, 1, 2, 5, 6, 7, 8] rfl rfl
   replace hm := (hm.els_cons 0 2 (by decide) rfl rfl).pk (L' := [els [aG, aH, (nV aA.jump), (nV aA.on), aI] ([aA] : List Block_), blk aM [aG, aH, (nV aA.jump), (nV aA.on), aI] 59, blk aD [(nV c_.params), (nV c_.regs), (sV aK aL c_.blocks.length aJ)] 44, blk aE [(nV 0), (nV 0), (.slice none 0 0)] 44, blk aF [(nV c_.params), (nV c_.regs), aB] 44, ow [aB] aC]) [0, 1, 3, 4, 5, 6] rfl rfl
   replace hm := (hm.lit_els 1 0 (by decide) rfl rfl rfl rfl).pk (L' := [ow [(sV aM 0 1 1)] ([aA] : List Block_), blk aD [(nV c_.params), (nV c_.regs), (sV aK aL c_.blocks.length aJ)] 44, blk aE [(nV 0), (nV 0), (.slice none 0 0)] 44, blk aF [(nV c_.params), (nV c_.regs), aB] 44, ow [aB] aC]) [1, 2, 3, 4, 5] rfl rfl
   refine tAk hm [1, 2, 3, 4] rfl fun hS => tO (gb fun ao ab => ?_)
   obtain ⟨ac, ae⟩ := appM_some.1 ab
   replace hm := (hm.both 4 0 (by decide) rfl rfl).pk (L' := [blk aD [(nV c_.params), (nV c_.regs), (sV aK aL c_.blocks.length aJ)] 44, blk aE [(nV 0), (nV 0), (.slice none 0 0)] 44, blk aF [(nV c_.params), (nV c_.regs), aB] 44, both (ow [aB] aC) (ow [(sV aM 0 1 1)] ([aA] : List Block_))]) [1, 2, 3, 4] rfl rfl
   refine tf rfl rfl (fun a hf => e_appendD (xs := aC) (ys := ([aA] : List Block_)) 3 et_42 hf hm rfl rfl rfl rfl ac) ?_
   rintro af w hm
   rw [ae] at hm
   refine tAn rfl (tP rfl (fun w => yF fo_44_2 rfl) (tO (tf0 rfl rfl (fun a hf => e_store1 2 hf hm rfl sizeOf42 rfl rfl rfl (rep_one (hm.ow_rep 3 rfl)) rfl) ?_)))
   rintro _ w hm
   exact tAn rfl (tE (gR (gM rfl (gP (by omega) (by omega) rfl (gA rfl (gE (gZe fun a hf => ⟨af, hf.sb rfl, hm.pk [0, 1, 2, 3] rfl rfl⟩)))))))
  repeat clear hm
  rintro ap aq a w ⟨ag, hf, hm⟩ ar au
  refine gv hf (gS (gS (gR (gM rfl (gF fo_44_2 rfl (gL hm 0 isAgg42 rfl ?_))))))
  obtain ⟨aw, ax, rfl, ay⟩ := ro_slice h1
  exact gY (yV st_42 rfl) (gB rfl (gE (go _ 14 rfl (decide_eq_false (by omega)) (gcf rfl (gXt (gHh (gS (gR (gY (yn (hm.blk_at 2 rfl) isAgg44 sizeOf44 rfl) (gSN hm 1 sizeOf44 (one_cons rfl (one_cons rfl (one_cons (rep_one (hm.ow_rep 3 rfl)) one_nil))) rfl fun w hm => gE (gRt (grc 1 results65 hm rfl isAgg44 sizeOf44 ⟨ag, rfl, hm.pk [3] rfl rfl⟩))))))))))))
theorem spec_l11Idoms_ok (w0 : World) (doms : List (List Bool)) (v1 : Value) (h1 : GT.rep (hp w0) [v1] doms) :
    ConM Tryz.prog 226 [v1] w0 (spec_l11Idoms doms) fun r v w' => ∃ (x1 : Value), v = x1 ∧ Mem w0 (hp w0) w' [ow [x1] r] := by
  unfold spec_l11Idoms
  refine gcon func226 rfl fun r => ?_
  have hm := Mem.start w0
  refine gS (gR (gA rfl (gE (gS (gR (gf rfl (fun a hf => e_build0 (α := Int) et_57 hm rfl) ?_))))))
  rintro bA w hm
  refine gA rfl (gE (gS (gS (gR (gA rfl (gE ?_))))))
  obtain ⟨aa, ab, rfl, bB⟩ := ro_slice (hm.ow_rep 0 rfl)
  refine gBk (gNg (fun aE aA a w => ∃ (aN : Value), St 51 [(0, v1), (3, aN), (4, (nV aE))] w0 (hp w0) [ow [aN] aA] a w) (fun a hf => ⟨(.slice aa ([] : List Int).length ab), hf.sb rfl, hm.pk [0] rfl rfl⟩) ?_ ?_)
  ·
   repeat clear hm
   rintro _ _ aE aA a w ⟨aN, hf, hm⟩ bC bD bE _
   refine gv hf (gS (gS (gR (gM rfl (gM rfl ?_)))))
   obtain ⟨aI, aJ, rfl, bF⟩ := ro_slice h1
   refine gY (yV st_99 rfl) (gB rfl (gE (go _ 11 rfl (decide_eq_true (by omega)) (gct rfl (gSk (gS (gBk (gS (gR (gA rfl (gE (gS (gS (gR (gA rfl (gE ?_))))))))))))))))
   obtain ⟨aB, aC, rfl, bG⟩ := ro_slice (hm.ow_rep 0 rfl)
   refine gBk (gNf hm (fun aD aF => [(0, (.slice aI doms.length aJ)), (3, (.slice aB aA.length aC)), (4, (nV aE)), (5, (nV aF)), (6, (nV aD))]) (fun aD aF => [ow [(.slice aB aA.length aC)] aA]) [0] rfl ?_ ?_)
   ·
    repeat clear hm
    intro _ _ aD aF w hm bH bJ bK _
    refine gS (gS (gR (gM rfl (gM rfl (gY (yV st_99 rfl) (gB rfl (gE (go _ 17 rfl (decide_eq_true (by omega)) (gct rfl (gSk (gS (gJ hm (fun aK => [(0, (.slice aI doms.length aJ)), (3, (.slice aB aA.length aC)), (4, (nV aE)), (5, (nV aK)), (6, (nV aD))]) (fun aK => [ow [(.slice aB aA.length aC)] aA]) (fun aK => ?_) ?_))))))))))))
    ·
     refine gBk (gS (gJ hm (fun aL => [(0, (.slice aI doms.length aJ)), (3, (.slice aB aA.length aC)), (4, (nV aE)), (5, (nV aF)), (6, (nV aD)), (44, (.bool (aL)))]) (fun aL => [ow [(.slice aB aA.length aC)] aA]) (fun aL => ?_) ?_))
     ·
      refine gR (gM rfl (gM rfl (gB rfl (gM rfl (gsd 23 rfl (fun ac => ?_) fun ac => ?_)))))
      ·
       refine gM rfl (gM rfl (gg fun ae af aO => ?_))
       obtain ⟨aV, aW, bL, he⟩ := idx_form' h1 aO
       obtain ⟨rfl, _, rfl⟩ := sl3 he
       obtain ⟨_, _, aP, ag⟩ := ro_get' h1 aO
       have aG := ag
       obtain ⟨aX, rfl, -⟩ := id aG
       replace aG : GT.rep (hp w0) [aX] ae := aG
       replace aP : CellsAt (hp w0) aV (aW + (aD).toNat * 1) [aX] := aP
       refine gI st_99 af (idx_lt aO) rfl (gY (yl isAgg98 ((aP.mono hm.lez).cell (j := 0) rfl) rfl) (gM rfl (gg fun ah ai aQ => ?_)))
       obtain ⟨bM, bN, bO, he⟩ := idx_form aG aQ
       subst he
       refine gI st_98 ai (idx_lt aQ) rfl (gY (yl isAgg4 ((flat_cells (cs := [(.bool (ah))]) (hm.now aG) aQ rfl).cell (j := 0) rfl) rfl) (gKt rfl (gM rfl (gs 32 rfl (fun aj => ?_) fun aj => ?_))))
       ·
        refine gM rfl (gB rfl (gM rfl (gsd 35 rfl (fun ak => ?_) fun ak => ?_)))
        ·
         exact gO rfl (gO rfl (gO rfl (gO rfl (gO rfl (gO rfl (gO rfl (gKt rfl (gKt rfl (gE (gz hm [0] rfl))))))))))
        refine gM rfl (gM rfl (gg fun am an aY => ?_))
        obtain ⟨_, _, aR, ao⟩ := ro_get' h1 aY
        have aH := ao
        obtain ⟨aZ, rfl, -⟩ := id aH
        replace aH : GT.rep (hp w0) [aZ] am := aH
        replace aR : CellsAt (hp w0) aV (aW + (aF).toNat * 1) [aZ] := aR
        refine gI st_99 an (idx_lt aY) rfl (gY (yl isAgg98 ((aR.mono hm.lez).cell (j := 0) rfl) rfl) (gM rfl (gg fun ap aq aS => ?_)))
        obtain ⟨bP, bQ, bR, he⟩ := idx_form aH aS
        subst he
        exact gI st_98 aq (idx_lt aS) rfl (gY (yl isAgg4 ((flat_cells (cs := [(.bool (ap))]) (hm.now aH) aS rfl).cell (j := 0) rfl) rfl) (gKf rfl (gKt rfl (gE (gz hm [0] rfl)))))
       exact gO rfl (gO rfl (gO rfl (gO rfl (gO rfl (gO rfl (gO rfl (gO rfl (gO rfl (gO rfl (gO rfl (gKf rfl (gE (gz hm [0] rfl)))))))))))))
      exact gO rfl (gO rfl (gO rfl (gO rfl (gO rfl (gO rfl (gO rfl (gKf rfl (gM rfl (gO rfl (gO rfl (gO rfl (gO rfl (gO rfl (gO rfl (gO rfl (gO rfl (gO rfl (gO rfl (gO rfl (gKf rfl (gE (gz hm [0] rfl))))))))))))))))))))))
     repeat clear hm
     intro aL w hm
     refine gJ hm (fun aM => [(0, (.slice aI doms.length aJ)), (3, (.slice aB aA.length aC)), (4, (nV aE)), (5, (nV aM)), (6, (nV aD))]) (fun aM => [ow [(.slice aB aA.length aC)] aA]) (fun aM => ?_) ?_
     ·
      refine gs 44 rfl (fun ar => ?_) fun ar => ?_
      ·
       exact gct rfl (gR (gM rfl (gA rfl (gE (gz hm [0] rfl)))))
      exact gcf rfl (gSk (gz hm [0] rfl))
     repeat clear hm
     intro aM w hm
     exact gz hm [0] rfl
    repeat clear hm
    intro aK w hm
    exact gR (gM rfl (gP (by omega) (by omega) rfl (gA rfl (gE (gze hm [0] rfl)))))
   repeat clear hm
   intro bS aT w hm bT bU
   refine gS (gS (gR (gM rfl (gM rfl (gY (yV st_99 rfl) (gB rfl (gE (go _ 17 rfl (decide_eq_false (by omega)) (gcf rfl (gXt (gHh (gR (gM rfl (gM rfl (gf rfl (fun a hf => e_build (vs := #[(0, (nV aT))]) (cs := [(nV aT)]) et_57 hf hm rfl rfl (by kernel_rfl) rfl rfl) ?_)))))))))))))))
   rintro _ w ⟨bV, rfl, hm⟩
   replace hm := hm.lit (xs := ([aT] : List Int)) 0 rfl rfl rfl rfl
   refine gb fun bW au => ?_
   obtain ⟨aw, ax⟩ := appM_some.1 au
   refine gf rfl (fun a hf => e_append 1 et_57 hf hm rfl (hm.ow_rep 0 rfl) rfl rfl rfl aw) ?_
   rintro ay w hm
   rw [ax] at hm
   exact gA rfl (gE (gR (gM rfl (gP (by omega) (by omega) rfl (gA rfl (gE (gZe fun a hf => ⟨ay, hf.sb rfl, hm.pk [1] rfl rfl⟩)))))))
  repeat clear hm
  rintro bX bY a w ⟨az, hf, hm⟩ bZ b7
  refine gv hf (gS (gS (gR (gM rfl (gM rfl ?_)))))
  obtain ⟨b8, b9, rfl, ba⟩ := ro_slice h1
  exact gY (yV st_99 rfl) (gB rfl (gE (go _ 11 rfl (decide_eq_false (by omega)) (gcf rfl (gXt (gHh (gS (gR (gM rfl (gA rfl (gE (gRt (gr1 results226 rfl ⟨az, rfl, hm.pk [0] rfl rfl⟩)))))))))))))
theorem spec_l11Kids_ok (w0 : World) (idoms : List Int) (v1 : Value) (h1 : GT.rep (hp w0) [v1] idoms) (b_ : Int) :
    ConM Tryz.prog 275 [v1, (nV b_)] w0 (spec_l11Kids idoms b_) fun r v w' => ∃ (x1 : Value), v = x1 ∧ Mem w0 (hp w0) w' [ow [x1] r] := by
  unfold spec_l11Kids
  refine gcon func275 rfl fun r => ?_
  have hm := Mem.start w0
  refine gS (gR (gA rfl (gE (gS (gR (gf rfl (fun a hf => e_build0 (α := Int) et_57 hm rfl) ?_))))))
  rintro aX w hm
  refine gA rfl (gE (gS (gS (gR (gA rfl (gE ?_))))))
  obtain ⟨aJ, aK, rfl, aY⟩ := ro_slice (hm.ow_rep 0 rfl)
  refine gBk (gNg (fun aA aH a w => ∃ (aB : Value), St 25 [(0, v1), (1, (nV b_)), (5, aB), (6, (nV aA))] w0 (hp w0) [ow [aB] aH] a w) (fun a hf => ⟨(.slice aJ ([] : List Int).length aK), hf.sb rfl, hm.pk [0] rfl rfl⟩) ?_ ?_)
  ·
   repeat clear hm
   rintro _ _ aA aH a w ⟨aB, hf, hm⟩ aZ aa ab _
   refine gv hf (gS (gS (gR (gM rfl (gM rfl ?_)))))
   obtain ⟨aL, aI, rfl, ac⟩ := ro_slice h1
   refine gY (yV st_57 rfl) (gB rfl (gE (go _ 11 rfl (decide_eq_true (by omega)) (gct rfl (gSk (gS (gJg (fun aE a w => ∃ (aC : Value), St 25 [(0, (.slice aL idoms.length aI)), (1, (nV b_)), (5, aC), (6, (nV aA))] w0 (hp w0) [ow [aC] aE] a w) (fun aE => ?_) ?_)))))))
   ·
    refine gBk (gS (gR (gM rfl (gM rfl (gg fun aM aN aF => ?_)))))
    obtain ⟨aO, aP, ae, he⟩ := idx_form h1 aF
    obtain ⟨rfl, _, rfl⟩ := sl3 he
    refine gI st_57 aN (idx_lt aF) rfl (gY (yl isAgg3 ((flat_cells (cs := [(nV aM)]) (hm.now h1) aF rfl).cell (j := 0) rfl) rfl) (gM rfl (gB rfl (gE (gJg (fun aG a w => ∃ (aD : Value), St 25 [(0, (sV aO aP idoms.length aI)), (1, (nV b_)), (5, aD), (6, (nV aA))] w0 (hp w0) [ow [aD] aG] a w) (fun aG => ?_) ?_)))))
    ·
     refine gsd 19 rfl (fun aQ => ?_) fun aQ => ?_
     ·
      refine gct rfl (gR (gM rfl (gM rfl (gf rfl (fun a hf => e_build (vs := #[(0, (nV aA))]) (cs := [(nV aA)]) et_57 hf hm rfl rfl (by kernel_rfl) rfl rfl) ?_))))
      rintro _ w ⟨af, rfl, hm⟩
      replace hm := hm.lit (xs := ([aA] : List Int)) 0 rfl rfl rfl rfl
      refine gb fun ag aR => ?_
      obtain ⟨aS, aT⟩ := appM_some.1 aR
      refine gf rfl (fun a hf => e_append 1 et_57 hf hm rfl (hm.ow_rep 0 rfl) rfl rfl rfl aS) ?_
      rintro aV w hm
      rw [aT] at hm
      exact gA rfl (gE (gZ fun a hf => ⟨aV, hf.sb rfl, hm.pk [1] rfl rfl⟩))
     exact gcf rfl (gSk (gZ fun a hf => ⟨aB, hf.sb rfl, hm.pk [0] rfl rfl⟩))
    repeat clear hm
    rintro aG a w ⟨aD, hf, hm⟩
    exact gv hf (gZ fun a hf => ⟨aD, hf.sb rfl, hm.pk [0] rfl rfl⟩)
   repeat clear hm
   rintro aE a w ⟨aC, hf, hm⟩
   exact gv hf (gR (gM rfl (gP (by omega) (by omega) rfl (gA rfl (gE (gZe fun a hf => ⟨aC, hf.sb rfl, hm.pk [0] rfl rfl⟩))))))
  repeat clear hm
  rintro ah ai a w ⟨aW, hf, hm⟩ aj ak
  refine gv hf (gS (gS (gR (gM rfl (gM rfl ?_)))))
  obtain ⟨am, an, rfl, ao⟩ := ro_slice h1
  exact gY (yV st_57 rfl) (gB rfl (gE (go _ 11 rfl (decide_eq_false (by omega)) (gcf rfl (gXt (gHh (gS (gR (gM rfl (gA rfl (gE (gRt (gr1 results275 rfl ⟨aW, rfl, hm.pk [0] rfl rfl⟩)))))))))))))
theorem spec_l11Down_all (idoms : List Int) : ∀ (b_ : Int) (out : List Int) (r : (List Int)), spec_l11Down idoms b_ out = some r → ∀ (w0 : World) (hz : Heap) (v1 : Value) (h1 : GT.rep hz [v1] idoms) (v2 : Value) (hm0 : Mem w0 hz w0 [ow [v2] out]), Con Tryz.prog 232 [v1, (nV b_), v2] w0 (fun v w' => ∃ (x1 : Value), v = x1 ∧ Mem w0 hz w' [ow [x1] r]) := by
  refine spec_l11Down.partial_correctness idoms (motive := fun b_ out r => ∀ (w0 : World) (hz : Heap) (v1 : Value) (h1 : GT.rep hz [v1] idoms) (v2 : Value) (hm0 : Mem w0 hz w0 [ow [v2] out]), Con Tryz.prog 232 [v1, (nV b_), v2] w0 (fun v w' => ∃ (x1 : Value), v = x1 ∧ Mem w0 hz w' [ow [x1] r])) ?_
  intro rec_ ih_ b_ out r hq w0 hz v1 h1 v2 hm0
  have spec_l11Down_rec : ∀ (w0 : World) (hz : Heap) (_ : List Int) (v1 : Value) (h1 : GT.rep hz [v1] idoms) (b_ : Int) (out : List Int) (v2 : Value) (hm0 : Mem w0 hz w0 [ow [v2] out]) (r : (List Int)) (hq : rec_ b_ out = some r), Con Tryz.prog 232 [v1, (nV b_), v2] w0 (fun v w' => ∃ (x1 : Value), v = x1 ∧ Mem w0 hz w' [ow [x1] r]) := fun w0 hz _ v1 h1 b_ out v2 hm0 r hq => ih_ b_ out r hq w0 hz v1 h1 v2 hm0
  refine gconr (ρ := (List Int)) (R := fun r v w' => ∃ (x1 : Value), v = x1 ∧ Mem w0 hz w' [ow [x1] r]) func232 rfl hq ?_
  have hm := hm0
  refine gS (gR (gA rfl (gE (gS (gR (gM rfl (gM rfl (gf rfl (fun a hf => e_build (vs := #[(0, (nV b_))]) (cs := [(nV b_)]) et_57 hf hm rfl rfl (by kernel_rfl) rfl rfl) ?_))))))))
  rintro _ w ⟨aW, rfl, hm⟩
  replace hm := hm.lit (xs := ([b_] : List Int)) 0 rfl rfl rfl rfl
  refine gb fun aI aJ => ?_
  obtain ⟨aK, aL⟩ := appM_some.1 aJ
  refine gf rfl (fun a hf => e_append 1 et_57 hf hm rfl (hm.ow_rep 0 rfl) rfl rfl rfl aK) ?_
  rintro aX w hm
  rw [aL] at hm
  refine gA rfl (gE (gS (gR (gM rfl (gM rfl (gCg rfl call275 (spec_l11Kids_ok _ idoms v1 (hm.now h1) b_) ?_))))))
  rintro aA aY aZ w ⟨_, rfl, hB⟩
  replace hm := hm.give hB; clear hB
  refine gA rfl (gE (gS (gS (gR (gA rfl (gE ?_))))))
  obtain ⟨aM, aN, rfl, aa⟩ := ro_slice (hm.ow_rep 2 rfl)
  obtain ⟨aF, aD, rfl, ab⟩ := ro_slice (hm.ow_rep 0 rfl)
  refine gBk (gNg (fun aG aC a w => ∃ (aB : Value), St 30 [(0, v1), (2, aB), (7, (.slice aF aA.length aD)), (8, (nV aG))] w0 hz [ow [aB] aC, ow [(.slice aF aA.length aD)] aA] a w) (fun a hf => ⟨(.slice aM aI.length aN), hf.sb rfl, hm.pk [2, 0] rfl rfl⟩) ?_ ?_)
  ·
   repeat clear hm
   rintro _ _ aG aC a w ⟨aB, hf, hm⟩ ac ae af _
   refine gv hf (gS (gS (gR (gM rfl (gM rfl (gY (yV st_57 rfl) (gB rfl (gE (go _ 19 rfl (decide_eq_true (by omega)) (gct rfl (gSk (gS (gBk (gR (gM rfl (gM rfl (gM rfl (gg fun aH aO aE => ?_))))))))))))))))))
   obtain ⟨aP, aQ, ag, he⟩ := idx_form (hm.ow_rep 1 rfl) aE
   obtain ⟨rfl, _, rfl⟩ := sl3 he
   refine gI st_57 aO (idx_lt aE) rfl (gY (yl isAgg3 ((flat_cells (cs := [(nV aH)]) (hm.ow_rep 1 rfl) aE rfl).cell (j := 0) rfl) rfl) (gM rfl ?_))
   obtain ⟨aR, hle, hm1, hsub, aS⟩ := hm.take2 (L1 := [ow [aB] aC]) (L2 := [ow [(sV aP aQ aA.length aD)] aA]) [0] [1] (by decide) rfl rfl
   refine gCg rfl call232 (spec_l11Down_rec _ aR idoms v1 (GT.mono hle h1) aH aC aB hm1 ) ?_
   rintro ah ai aT w ⟨_, rfl, hB⟩
   replace hm := aS _ _ hB; clear hB
   exact gA rfl (gE (gR (gM rfl (gP (by omega) (by omega) rfl (gA rfl (gE (gZe fun a hf => ⟨aT, hf.sb rfl, hm.pk [0, 1] rfl rfl⟩)))))))
  repeat clear hm
  rintro aj ak a w ⟨aV, hf, hm⟩ am an
  exact gv hf (gS (gS (gR (gM rfl (gM rfl (gY (yV st_57 rfl) (gB rfl (gE (go _ 19 rfl (decide_eq_false (by omega)) (gcf rfl (gXt (gHh (gS (gR (gM rfl (gA rfl (gE (gRt (gr1 results232 rfl ⟨aV, rfl, hm.pk [0] rfl rfl⟩)))))))))))))))))))
theorem spec_l11Down_ok (w0 : World) (hz : Heap) (idoms : List Int) (v1 : Value) (h1 : GT.rep hz [v1] idoms) (b_ : Int) (out : List Int) (v2 : Value) (hm0 : Mem w0 hz w0 [ow [v2] out]) (r : (List Int)) (hq : spec_l11Down idoms b_ out = some r) : Con Tryz.prog 232 [v1, (nV b_), v2] w0 (fun v w' => ∃ (x1 : Value), v = x1 ∧ Mem w0 hz w' [ow [x1] r]) := spec_l11Down_all idoms b_ out r hq w0 hz v1 h1 v2 hm0
theorem spec_l7Insert_ok (w0 : World) (hz : Heap) (list : List Int) (v1 : Value) (n_ : Int) (hm0 : Mem w0 hz w0 [ow [v1] list]) :
    ConM Tryz.prog 272 [v1, (nV n_)] w0 (spec_l7Insert list n_) fun r v w' => ∃ (x1 : Value), v = x1 ∧ Mem w0 hz w' [ow [x1] r] := by
  unfold spec_l7Insert
  refine gcon func272 rfl fun r => ?_
  have hm := hm0
  refine gS (gR (gA rfl (gE (gS (gR (gA rfl (gE (gS ?_))))))))
  obtain ⟨aA, aB, rfl, ar⟩ := ro_slice (hm.ow_rep 0 rfl)
  refine gJ hm (fun aC => [(0, (.slice aA list.length aB)), (1, (nV n_)), (5, (nV aC))]) (fun aC => [ow [(.slice aA list.length aB)] list]) (fun aC => ?_) ?_
  ·
   refine gBk (gMf hm (fun aD => [(0, (.slice aA list.length aB)), (1, (nV n_)), (5, (nV aD))]) (fun aD => [ow [(.slice aA list.length aB)] list]) [0] rfl ?_)
   repeat clear hm
   intro au aM aD w hm aw aN
   refine gS (gS (gJ hm (fun aE => [(0, (.slice aA list.length aB)), (1, (nV n_)), (5, (nV aD)), (18, (.bool (aE)))]) (fun aE => [ow [(.slice aA list.length aB)] list]) (fun aE => ?_) ?_))
   ·
    refine gR (gM rfl (gM rfl (gY (yV st_57 rfl) (gB rfl (gM rfl (gsd 11 rfl (fun aO => ?_) fun aO => ?_))))))
    ·
     refine gM rfl (gM rfl (gg fun aP aQ aG => ?_))
     obtain ⟨ax, ay, az, he⟩ := idx_form (hm.ow_rep 0 rfl) aG
     obtain ⟨rfl, _, rfl⟩ := sl3 he
     exact gI st_57 aQ (idx_lt aG) rfl (gY (yl isAgg3 ((flat_cells (cs := [(nV aP)]) (hm.ow_rep 0 rfl) aG rfl).cell (j := 0) rfl) rfl) (gM rfl (gB rfl (gKt rfl (gE (gz hm [0] rfl))))))
    exact gO rfl (gO rfl (gO rfl (gO rfl (gO rfl (gO rfl (gKf rfl (gE (gz hm [0] rfl))))))))
   repeat clear hm
   intro aE w hm
   refine gs 18 rfl (fun aR => ?_) fun aR => ?_
   ·
    exact gct rfl (gSk (gBk (gR (gM rfl (gB rfl (gA rfl (gE (gze hm [0] rfl))))))))
   exact gcf rfl (gXt (gHh (gLp aN aM (gz hm [0] rfl))))
  repeat clear hm
  intro aC w hm
  refine gS (gS (gJ hm (fun aF => [(0, (.slice aA list.length aB)), (1, (nV n_)), (5, (nV aC)), (32, (.bool (aF)))]) (fun aF => [ow [(.slice aA list.length aB)] list]) (fun aF => ?_) ?_))
  ·
   refine gR (gM rfl (gM rfl (gY (yV st_57 rfl) (gB rfl (gM rfl (gsd 25 rfl (fun aS => ?_) fun aS => ?_))))))
   ·
    refine gM rfl (gM rfl (gg fun aT aV aH => ?_))
    obtain ⟨bA, bB, bC, he⟩ := idx_form (hm.ow_rep 0 rfl) aH
    obtain ⟨rfl, _, rfl⟩ := sl3 he
    exact gI st_57 aV (idx_lt aH) rfl (gY (yl isAgg3 ((flat_cells (cs := [(nV aT)]) (hm.ow_rep 0 rfl) aH rfl).cell (j := 0) rfl) rfl) (gM rfl (gB rfl (gKt rfl (gE (gz hm [0] rfl))))))
   exact gO rfl (gO rfl (gO rfl (gO rfl (gO rfl (gO rfl (gKf rfl (gE (gz hm [0] rfl))))))))
  repeat clear hm
  intro aF w hm
  refine gs 32 rfl (fun aW => ?_) fun aW => ?_
  ·
   exact gct rfl (gS (gR (gM rfl (gA rfl (gE (gRt (gr1 results272 rfl ⟨(.slice aA list.length aB), rfl, hm.pk [0] rfl rfl⟩)))))))
  refine gcf rfl (gSk (gS (gR (gf rfl (fun a hf => e_build0 (α := Int) et_57 hm rfl) ?_))))
  rintro bD w hm
  refine gM rfl (gM rfl (gb fun bE aX => ?_))
  obtain ⟨aI, aY⟩ := subM_some.1 aX
  have aZ := (hm.ow_rep 1 rfl)
  obtain ⟨bF, aJ⟩ : ∃ nv, nv = subV (GT.sz (Int)) (.slice aA list.length aB) (0 : Int).toNat (aC : Int).toNat := ⟨_, rfl⟩
  refine gY (yG rfl (yl_eq aJ (y_slcH (α := Int) st_57 aZ rfl rfl rfl aI _))) (gb fun aa ab => ?_)
  obtain ⟨ac, ae⟩ := appM_some.1 ab
  refine gf rfl (fun a hf => e_append 0 et_57 hf hm rfl (view_rep aJ aY aI (hm.ow_rep 1 rfl)) rfl rfl rfl ac) ?_
  rintro af w hm
  rw [ae] at hm
  refine gA rfl (gE (gS (gW (.p 0 (.p 1 (.p 4 (.p 5 (.p 6 (.e 2 (.e 3 (.e 7 (.p 8 .fin) .nil) .nil) .nil)))))) [] [0, 1, 4, 5, 6, 8] hm [0, 1] [ow [af] aa, ow [(.slice aA list.length aB)] list] rfl mxo (by kernel_rfl) (fun _ _ _ h => h.2) fun w hm hS => tP rfl (fun w => yM rfl) (tP rfl (fun w => yM rfl) (tP rfl (fun w => yM rfl) (tP rfl (fun w => yM rfl) (gb fun bG ag => ?_)))))))
  obtain ⟨aK, ah⟩ := subM_some.1 ag
  have ai := (hm.ow_rep 1 rfl)
  obtain ⟨bH, aL⟩ : ∃ nv, nv = subV (GT.sz (Int)) (.slice aA list.length aB) (aC : Int).toNat ((list.length : Int) : Int).toNat := ⟨_, rfl⟩
  refine tP rfl (fun w => yG rfl (yl_eq aL (y_slcL (α := Int) st_57 ai rfl rfl rfl aK _))) (tO (tf rfl rfl (fun a hf => e_build (vs := #[(0, (nV n_))]) (cs := [(nV n_)]) et_57 hf hm rfl rfl (by kernel_rfl) rfl rfl) ?_))
  rintro _ w ⟨bJ, rfl, hm⟩
  replace hm := hm.lit (xs := ([n_] : List Int)) 0 rfl rfl rfl rfl
  refine tAn rfl (tO (gb fun bK aj => ?_))
  obtain ⟨ak, am⟩ := appM_some.1 aj
  refine tf rfl rfl (fun a hf => e_append 1 et_57 hf hm rfl (hm.ow_rep 0 rfl) rfl rfl rfl ak) ?_
  rintro bL w hm
  rw [am] at hm
  refine tAn rfl (tO (gb fun bM an => ?_))
  obtain ⟨ao, ap⟩ := appM_some.1 an
  refine tf rfl rfl (fun a hf => e_append 1 et_57 hf hm rfl (view_rep aL ah aK (hm.ow_rep 2 rfl)) rfl rfl rfl ao) ?_
  rintro aq w hm
  rw [ap] at hm
  exact tAn rfl (tP rfl (fun w => yA rfl) (tE (gRt (gr1 results272 rfl ⟨aq, rfl, hm.pk [1] rfl rfl⟩))))
theorem spec_l17Heads_ok (w0 : World) (c_ : Code_) (v1 : Value) (h1 : GT.rep (hp w0) [v1] c_.blocks) (doms : List (List Bool)) (v2 : Value) (h2 : GT.rep (hp w0) [v2] doms) :
    ConM Tryz.prog 233 [(.agg #[(nV c_.params), (nV c_.regs), v1]), v2] w0 (spec_l17Heads c_ doms) fun r v w' => ∃ (x1 : Value), v = x1 ∧ Mem w0 (hp w0) w' [ow [x1] r] := by
  unfold spec_l17Heads
  refine gcon func233 rfl fun r => ?_
  have hm := Mem.start w0
  refine gS (gR (gBx hm rfl fun aB w hm => gA rfl (gE (gS (gR (gf rfl (fun a hf => e_build0 (α := Int) et_57 hm rfl) ?_))))))
  rintro ay w hm
  refine gA rfl (gE (gS (gS (gR (gA rfl (gE ?_))))))
  obtain ⟨ab, ac, rfl, az⟩ := ro_slice (hm.ow_rep 0 rfl)
  refine gBk (gNg (fun aC aN a w => ∃ (aO : Value), St 40 [(1, v2), (2, (pV aB)), (5, aO), (6, (nV aC))] w0 (hp w0) [blk aB [(nV c_.params), (nV c_.regs), v1] 44, ow [aO] aN] a w) (fun a hf => ⟨(.slice ab ([] : List Int).length ac), hf.sb rfl, hm.pk [1, 0] rfl rfl⟩) ?_ ?_)
  ·
   repeat clear hm
   rintro _ _ aC aN a w ⟨aO, hf, hm⟩ bA bB bC _
   refine gv hf (gS (gS (gR (gM rfl (gF fo_44_2 rfl (gL hm 0 isAgg42 rfl ?_))))))
   obtain ⟨aF, aG, rfl, bD⟩ := ro_slice h1
   refine gY (yV st_42 rfl) (gB rfl (gE (go _ 14 rfl (decide_eq_true (by omega)) (gct rfl (gSk (gS (gBk (gS (gR (gY (yn (hm.blk_at 0 rfl) isAgg44 sizeOf44 rfl) (gM rfl (gCg rfl call66 (spec_l7Preds_ok _ c_ (.slice aF c_.blocks.length aG) (hm.now h1) aC) ?_))))))))))))
   rintro aA bE bF w ⟨_, rfl, hB⟩
   replace hm := hm.give hB; clear hB
   refine gA rfl (gE (gS (gR (gA rfl (gE ?_)))))
   obtain ⟨ae, af, rfl, bG⟩ := ro_slice (hm.ow_rep 2 rfl)
   obtain ⟨aH, aD, rfl, bH⟩ := ro_slice (hm.ow_rep 0 rfl)
   refine gBk (gNg (fun aK aI a w => ∃ (aE : Value), St 40 [(1, v2), (2, (pV aB)), (5, aE), (6, (nV aC)), (7, (.slice aH aA.length aD)), (8, (nV aK))] w0 (hp w0) [blk aB [(nV c_.params), (nV c_.regs), (.slice aF c_.blocks.length aG)] 44, ow [aE] aI, ow [(.slice aH aA.length aD)] aA] a w) (fun a hf => ⟨(.slice ae aN.length af), hf.sb rfl, hm.pk [1, 2, 0] rfl rfl⟩) ?_ ?_)
   ·
    repeat clear hm
    rintro _ _ aK aI a w ⟨aE, hf, hm⟩ bJ bK bL _
    refine gv hf (gS (gS (gR (gM rfl (gM rfl (gY (yV st_57 rfl) (gB rfl (gE (go _ 23 rfl (decide_eq_true (by omega)) (gct rfl (gSk (gS (gJg (fun aP a w => ∃ (aL : Value), St 40 [(1, v2), (2, (pV aB)), (5, aL), (6, (nV aC)), (7, (.slice aH aA.length aD)), (8, (nV aK))] w0 (hp w0) [blk aB [(nV c_.params), (nV c_.regs), (.slice aF c_.blocks.length aG)] 44, ow [aL] aP, ow [(.slice aH aA.length aD)] aA] a w) (fun aP => ?_) ?_)))))))))))))
    ·
     refine gBk (gS (gW (.p 0 (.p 1 (.p 2 (.p 4 (.p 5 (.p 6 (.q 3 (.e 7 (.p 8 (.e 9 .fin .nil)) .nil)))))))) [7] [0, 1, 2, 4, 5, 6, 8] hm [0, 1, 2] [blk aB [(nV c_.params), (nV c_.regs), (.slice aF c_.blocks.length aG)] 44, ow [aE] aI, ow [(.slice aH aA.length aD)] aA] rfl mxo (by kernel_rfl) (fun _ _ _ h => h.2) fun w hm hS => tP rfl (fun w => yM rfl) (tP rfl (fun w => yM rfl) (gg fun ag ah aQ => ?_))))
     obtain ⟨aY, aZ, ai, he⟩ := idx_form' h2 aQ
     subst he
     obtain ⟨_, _, aR, aj⟩ := ro_get' h2 aQ
     have aJ := aj
     obtain ⟨aa, rfl, -⟩ := id aJ
     replace aJ : GT.rep (hp w0) [aa] ag := aJ
     replace aR : CellsAt (hp w0) aY (aZ + (aC).toNat * 1) [aa] := aR
     refine tP rfl (fun w => yI st_99 ah (idx_lt aQ) rfl) (tP rfl (fun w => yM rfl) (tP rfl (fun w => yM rfl) (gg fun ak am aS => ?_)))
     obtain ⟨aT, aV, bM, he⟩ := idx_form (hm.ow_rep 2 rfl) aS
     obtain ⟨rfl, _, rfl⟩ := sl3 he
     refine tP rfl (fun w => yI st_57 am (idx_lt aS) rfl) (tQ rfl hS (fun w hm => yl isAgg98 ((aR.mono hm.lez).cell (j := 0) rfl) rfl) (tO (tY rfl (yl isAgg3 ((flat_cells (cs := [(nV ak)]) (hm.ow_rep 2 rfl) aS rfl).cell (j := 0) rfl) rfl) (tAs hS (gg fun an ao aW => ?_)))))
     obtain ⟨bN, bO, bP, he⟩ := idx_form aJ aW
     subst he
     refine tP rfl (fun w => yI st_98 ao (idx_lt aW) rfl) (tO (tY rfl (yl isAgg4 ((flat_cells (cs := [(.bool (an))]) (hm.now aJ) aW rfl).cell (j := 0) rfl) rfl) (tAn rfl (tE (gJg (fun aX a w => ∃ (aM : Value), St 40 [(1, (sV aY aZ doms.length ai)), (2, (pV aB)), (5, aM), (6, (nV aC)), (7, (sV aT aV aA.length aD)), (8, (nV aK))] w0 (hp w0) [blk aB [(nV c_.params), (nV c_.regs), (.slice aF c_.blocks.length aG)] 44, ow [aM] aX, ow [(sV aT aV aA.length aD)] aA] a w) (fun aX => ?_) ?_)))))
     ·
      refine gs 35 rfl (fun ap => ?_) fun ap => ?_
      ·
       refine gct rfl (gR (gM rfl (gM rfl ?_)))
       obtain ⟨aq, hle, hm1, hsub, ar⟩ := hm.take2 (L1 := [ow [aE] aI]) (L2 := [blk aB [(nV c_.params), (nV c_.regs), (.slice aF c_.blocks.length aG)] 44, ow [(sV aT aV aA.length aD)] aA]) [1] [0, 2] (by decide) rfl rfl
       refine gCg rfl call272 (spec_l7Insert_ok _ aq aI aE aC hm1 ) ?_
       rintro bQ bR au w ⟨_, rfl, hB⟩
       replace hm := ar _ _ hB; clear hB
       exact gA rfl (gE (gZ fun a hf => ⟨au, hf.sb rfl, hm.pk [1, 0, 2] rfl rfl⟩))
      exact gcf rfl (gSk (gZ fun a hf => ⟨aE, hf.sb rfl, hm.pk [0, 1, 2] rfl rfl⟩))
     repeat clear hm
     rintro aX a w ⟨aM, hf, hm⟩
     exact gv hf (gZ fun a hf => ⟨aM, hf.sb rfl, hm.pk [0, 1, 2] rfl rfl⟩)
    repeat clear hm
    rintro aP a w ⟨aL, hf, hm⟩
    exact gv hf (gR (gM rfl (gP (by omega) (by omega) rfl (gA rfl (gE (gZe fun a hf => ⟨aL, hf.sb rfl, hm.pk [0, 1, 2] rfl rfl⟩))))))
   repeat clear hm
   rintro bS bT a w ⟨aw, hf, hm⟩ bU bV
   exact gv hf (gS (gS (gR (gM rfl (gM rfl (gY (yV st_57 rfl) (gB rfl (gE (go _ 23 rfl (decide_eq_false (by omega)) (gcf rfl (gXt (gHh (gR (gM rfl (gP (by omega) (by omega) rfl (gA rfl (gE (gZe fun a hf => ⟨aw, hf.sb rfl, hm.pk [0, 1] rfl rfl⟩))))))))))))))))))
  repeat clear hm
  rintro bW bX a w ⟨ax, hf, hm⟩ bY bZ
  refine gv hf (gS (gS (gR (gM rfl (gF fo_44_2 rfl (gL hm 0 isAgg42 rfl ?_))))))
  obtain ⟨b7, b8, rfl, b9⟩ := ro_slice h1
  exact gY (yV st_42 rfl) (gB rfl (gE (go _ 14 rfl (decide_eq_false (by omega)) (gcf rfl (gXt (gHh (gS (gR (gM rfl (gA rfl (gE (gRt (gr1 results233 rfl ⟨ax, rfl, hm.pk [1] rfl rfl⟩)))))))))))))
theorem spec_l10At_ok (w0 : World) (list : List Int) (v1 : Value) (h1 : GT.rep (hp w0) [v1] list) (n_ : Int) :
    ConM Tryz.prog 116 [v1, (nV n_)] w0 (spec_l10At list n_) fun r v w' => v = (nV r) ∧ Below w0.heap.size w0 w' := by
  unfold spec_l10At
  refine gcon func116 rfl fun r => ?_
  have hm := Mem.start w0
  refine gS (gR (gA rfl (gE (gS (gS (gR (gA rfl (gE (gBk (gNf hm (fun aA aC => [(0, v1), (1, (nV n_)), (5, (nV aA))]) (fun aA aC => []) [] rfl ?_ ?_))))))))))
  ·
   repeat clear hm
   intro aI aD aA aC w hm aJ aK aL aE
   refine gS (gS (gR (gM rfl (gM rfl ?_))))
   obtain ⟨aM, aN, rfl, aO⟩ := ro_slice h1
   refine gY (yV st_57 rfl) (gB rfl (gE (go _ 9 rfl (decide_eq_true (by omega)) (gct rfl (gSk (gS (gBk (gS (gR (gM rfl (gM rfl (gg fun aF aG aB => ?_))))))))))))
   obtain ⟨aP, aQ, aR, he⟩ := idx_form h1 aB
   obtain ⟨rfl, _, rfl⟩ := sl3 he
   refine gI st_57 aG (idx_lt aB) rfl (gY (yl isAgg3 ((flat_cells (cs := [(nV aF)]) (hm.now h1) aB rfl).cell (j := 0) rfl) rfl) (gM rfl (gB rfl (gE (gsd 17 rfl (fun aH => ?_) fun aH => ?_)))))
   ·
    exact gct rfl (gS (gR (gM rfl (gA rfl (gE (gRt (gLr aE aD (gr1 results116 rfl ⟨rfl, hm.below⟩))))))))
   exact gcf rfl (gSk (gR (gM rfl (gP (by omega) (by omega) rfl (gA rfl (gE (gze hm [] rfl)))))))
  repeat clear hm
  intro aS aT w hm aV aW
  refine gS (gS (gR (gM rfl (gM rfl ?_))))
  obtain ⟨aX, aY, rfl, aZ⟩ := ro_slice h1
  exact gY (yV st_57 rfl) (gB rfl (gE (go _ 9 rfl (decide_eq_false (by omega)) (gcf rfl (gXt (gHh (gS (gR (gA rfl (gE (gRt (gr1 results116 rfl ⟨rfl, hm.below⟩))))))))))))
theorem spec_l17Body_ok (w0 : World) (c_ : Code_) (v1 : Value) (h1 : GT.rep (hp w0) [v1] c_.blocks) (doms : List (List Bool)) (v2 : Value) (h2 : GT.rep (hp w0) [v2] doms) (h_ : Int) :
    ConM Tryz.prog 279 [(.agg #[(nV c_.params), (nV c_.regs), v1]), v2, (nV h_)] w0 (spec_l17Body c_ doms h_) fun r v w' => ∃ (x1 : Value), v = x1 ∧ Mem w0 (hp w0) w' [ow [x1] r] := by
  unfold spec_l17Body
  refine gcon func279 rfl fun r => ?_
  have hm := Mem.start w0
  refine gS (gR (gBx hm rfl fun aA w hm => gA rfl (gE (gS (gR (gM rfl (gf rfl (fun a hf => e_build (vs := #[(0, (nV h_))]) (cs := [(nV h_)]) et_57 hf hm rfl rfl (by kernel_rfl) rfl rfl) ?_)))))))
  rintro _ w ⟨aE, rfl, hm⟩
  replace hm := hm.lit (xs := ([h_] : List Int)) 0 rfl rfl rfl rfl
  refine gA rfl (gE (gS (gR (gf rfl (fun a hf => e_build0 (α := Int) et_57 hm rfl) ?_))))
  rintro bo w hm
  refine gA rfl (gE (gS (gR (gY (yn (hm.blk_at 2 rfl) isAgg44 sizeOf44 rfl) (gM rfl (gCg rfl call66 (spec_l7Preds_ok _ c_ v1 (hm.now h1) h_) ?_))))))
  rintro aB bp bq w ⟨_, rfl, hB⟩
  replace hm := hm.give hB; clear hB
  refine gA rfl (gE (gS (gS (gR (gA rfl (gE ?_))))))
  obtain ⟨az, bA, rfl, br⟩ := ro_slice (hm.ow_rep 1 rfl)
  obtain ⟨aH, aF, rfl, bs⟩ := ro_slice (hm.ow_rep 0 rfl)
  refine gBk (gNg (fun aO aY a w => ∃ (aI : Value), St 72 [(1, v2), (2, (nV h_)), (3, (pV aA)), (7, (sV aE 0 1 1)), (8, aI), (9, (.slice aH aB.length aF)), (10, (nV aO))] w0 (hp w0) [blk aA [(nV c_.params), (nV c_.regs), v1] 44, ow [(sV aE 0 1 1)] ([h_] : List Int), ow [aI] aY, ow [(.slice aH aB.length aF)] aB] a w) (fun a hf => ⟨(.slice az ([] : List Int).length bA), hf.sb rfl, hm.pk [3, 2, 1, 0] rfl rfl⟩) ?_ ?_)
  ·
   repeat clear hm
   rintro _ _ aO aY a w ⟨aI, hf, hm⟩ bt bu bv _
   refine gv hf (gS (gS (gR (gM rfl (gM rfl (gY (yV st_57 rfl) (gB rfl (gE (go _ 21 rfl (decide_eq_true (by omega)) (gct rfl (gSk (gS (gJg (fun aZ a w => ∃ (aP : Value), St 72 [(1, v2), (2, (nV h_)), (3, (pV aA)), (7, (sV aE 0 1 1)), (8, aP), (9, (.slice aH aB.length aF)), (10, (nV aO))] w0 (hp w0) [blk aA [(nV c_.params), (nV c_.regs), v1] 44, ow [(sV aE 0 1 1)] ([h_] : List Int), ow [aP] aZ, ow [(.slice aH aB.length aF)] aB] a w) (fun aZ => ?_) ?_)))))))))))))
   ·
    refine gBk (gS (gW (.p 0 (.p 1 (.p 2 (.p 4 (.p 5 (.p 6 (.q 3 (.e 7 (.p 8 (.e 9 .fin .nil)) .nil)))))))) [7] [0, 1, 2, 4, 5, 6, 8] hm [0, 1, 2, 3] [blk aA [(nV c_.params), (nV c_.regs), v1] 44, ow [(sV aE 0 1 1)] ([h_] : List Int), ow [aI] aY, ow [(.slice aH aB.length aF)] aB] rfl mxo (by kernel_rfl) (fun _ _ _ h => h.2) fun w hm hS => tP rfl (fun w => yM rfl) (tP rfl (fun w => yM rfl) (gg fun bB bC aa => ?_))))
    obtain ⟨ao, ap, bD, he⟩ := idx_form' h2 aa
    subst he
    obtain ⟨_, _, ab, bE⟩ := ro_get' h2 aa
    have aJ := bE
    obtain ⟨aq, rfl, -⟩ := id aJ
    replace aJ : GT.rep (hp w0) [aq] bB := aJ
    replace ab : CellsAt (hp w0) ao (ap + (h_).toNat * 1) [aq] := ab
    refine tP rfl (fun w => yI st_99 bC (idx_lt aa) rfl) (tP rfl (fun w => yM rfl) (tP rfl (fun w => yM rfl) (gg fun aK ar aL => ?_)))
    obtain ⟨au, aw, bw, he⟩ := idx_form (hm.ow_rep 3 rfl) aL
    obtain ⟨rfl, _, rfl⟩ := sl3 he
    refine tP rfl (fun w => yI st_57 ar (idx_lt aL) rfl) (tQ rfl hS (fun w hm => yl isAgg98 ((ab.mono hm.lez).cell (j := 0) rfl) rfl) (tO (tY rfl (yl isAgg3 ((flat_cells (cs := [(nV aK)]) (hm.ow_rep 3 rfl) aL rfl).cell (j := 0) rfl) rfl) (tAs hS (gg fun bF bG ac => ?_)))))
    obtain ⟨bx, bz, cA, he⟩ := idx_form aJ ac
    subst he
    refine tP rfl (fun w => yI st_98 bG (idx_lt ac) rfl) (tO (tY rfl (yl isAgg4 ((flat_cells (cs := [(.bool (bF))]) (hm.now aJ) ac rfl).cell (j := 0) rfl) rfl) (tAn rfl (tE (gJg (fun ae a w => ∃ (aQ : Value), St 72 [(1, (sV ao ap doms.length bD)), (2, (nV h_)), (3, (pV aA)), (7, (sV aE 0 1 1)), (8, aQ), (9, (sV au aw aB.length aF)), (10, (nV aO))] w0 (hp w0) [blk aA [(nV c_.params), (nV c_.regs), v1] 44, ow [(sV aE 0 1 1)] ([h_] : List Int), ow [aQ] ae, ow [(sV au aw aB.length aF)] aB] a w) (fun ae => ?_) ?_)))))
    ·
     refine gs 33 rfl (fun bH => ?_) fun bH => ?_
     ·
      refine gct rfl (gR (gM rfl (gM rfl (gM rfl (gI st_57 ar (idx_lt aL) rfl (gY (yl isAgg3 ((flat_cells (cs := [(nV aK)]) (hm.ow_rep 3 rfl) aL rfl).cell (j := 0) rfl) rfl) (gf rfl (fun a hf => e_build (vs := #[(0, (nV aK))]) (cs := [(nV aK)]) et_57 hf hm rfl rfl (by kernel_rfl) rfl rfl) ?_)))))))
      rintro _ w ⟨cB, rfl, hm⟩
      replace hm := hm.lit (xs := ([aK] : List Int)) 0 rfl rfl rfl rfl
      refine gb fun cC bJ => ?_
      obtain ⟨bK, bL⟩ := appM_some.1 bJ
      refine gf rfl (fun a hf => e_append 3 et_57 hf hm rfl (hm.ow_rep 0 rfl) rfl rfl rfl bK) ?_
      rintro bM w hm
      rw [bL] at hm
      exact gA rfl (gE (gZ fun a hf => ⟨bM, hf.sb rfl, hm.pk [1, 2, 3, 4] rfl rfl⟩))
     exact gcf rfl (gSk (gZ fun a hf => ⟨aI, hf.sb rfl, hm.pk [0, 1, 2, 3] rfl rfl⟩))
    repeat clear hm
    rintro ae a w ⟨aQ, hf, hm⟩
    exact gv hf (gZ fun a hf => ⟨aQ, hf.sb rfl, hm.pk [0, 1, 2, 3] rfl rfl⟩)
   repeat clear hm
   rintro aZ a w ⟨aP, hf, hm⟩
   exact gv hf (gR (gM rfl (gP (by omega) (by omega) rfl (gA rfl (gE (gZe fun a hf => ⟨aP, hf.sb rfl, hm.pk [0, 1, 2, 3] rfl rfl⟩))))))
  repeat clear hm
  rintro cD bN a w ⟨cE, hf, hm⟩ cF cG
  refine gv hf (gS (gS (gR (gM rfl (gM rfl (gY (yV st_57 rfl) (gB rfl (gE (go _ 21 rfl (decide_eq_false (by omega)) (gcf rfl (gXt (gHh (gS ?_)))))))))))))
  obtain ⟨bO, bP, rfl, cH⟩ := ro_slice (hm.ow_rep 2 rfl)
  refine gJg (fun af a w => ∃ (aR : Value), St 72 [(7, aR)] w0 (hp w0) [ow [aR] af] a w) (fun af => ?_) ?_
  ·
   refine gBk (gMg (fun aD a w => ∃ (aC ag : Value), St 72 [(1, v2), (3, (pV aA)), (7, aC), (8, ag)] w0 (hp w0) [blk aA [(nV c_.params), (nV c_.regs), v1] 44, ow [aC] aD.1, ow [ag] aD.2] a w) (fun a hf => ⟨(sV aE 0 1 1), (.slice bO bN.length bP), hf.sb rfl, hm.pk [0, 1, 2] rfl rfl⟩) ?_)
   repeat clear hm
   rintro cI bQ aD a w ⟨aC, ag, hf, hm⟩ cJ bR
   refine gv hf (gS (gS (gR (gM rfl ?_))))
   obtain ⟨cK, bS, rfl, cL⟩ := ro_slice (hm.ow_rep 2 rfl)
   refine gY (yV st_57 rfl) (gB rfl (gE (gsd 43 rfl (fun bT => ?_) fun bT => ?_)))
   ·
    refine gct rfl (gSk (gJg (fun aS a w => ∃ (aT aV : Value), St 72 [(1, v2), (3, (pV aA)), (7, aT), (8, aV)] w0 (hp w0) [blk aA [(nV c_.params), (nV c_.regs), v1] 44, ow [aT] aS.1, ow [aV] aS.2] a w) (fun aS => ?_) ?_))
    ·
     refine gBk (gS (gR (gM rfl (gg fun aG bU ah => ?_))))
     obtain ⟨bV, bW, cM, he⟩ := idx_form (hm.ow_rep 2 rfl) ah
     obtain ⟨rfl, _, rfl⟩ := sl3 he
     refine gI st_57 bU (idx_lt ah) rfl (gY (yl isAgg3 ((flat_cells (cs := [(nV aG)]) (hm.ow_rep 2 rfl) ah rfl).cell (j := 0) rfl) rfl) (gA rfl (gE (gS (gR (gM rfl (gb fun aW bX => ?_)))))))
     obtain ⟨bY, ax⟩ := subM_some.1 bX
     have bZ := (hm.ow_rep 2 rfl)
     obtain ⟨aX, ai⟩ : ∃ nv, nv = subV (GT.sz (Int)) (sV bV bW aD.2.length bS) (1 : Int).toNat ((aD.2.length : Int) : Int).toNat := ⟨_, rfl⟩
     refine gY (yG rfl (yl_eq ai (y_slcL (α := Int) st_57 bZ rfl rfl rfl bY _))) (gA rfl (gE (gS (gS (gJg (fun aj a w => ∃ (aM : Value), St 72 [(1, v2), (3, (pV aA)), (7, aC), (8, aM), (11, (nV aG)), (62, (.bool (aj)))] w0 (hp w0) [blk aA [(nV c_.params), (nV c_.regs), v1] 44, ow [aC] aD.1, ow [aM] aW] a w) (fun aj => ?_) ?_)))))
     ·
      refine gR (gM rfl (gM rfl (gC hm rfl call116 (spec_l10At_ok _ aD.1 aC (hm.ow_rep 1 rfl) aG) fun cN cO w hm => gB rfl (gM rfl (gsd 53 rfl (fun b7 => ?_) fun b7 => ?_)))))
      ·
       refine gO rfl (gO rfl (gO rfl (gO rfl (gO rfl (gO rfl (gO rfl (gO rfl (gKt rfl (gE ?_)))))))))
       replace hm := hm.imp (c' := ow [aX] aW) 2 rfl (fun F h0 => by rw [ai, ← ax]; exact own_subV h0 (by omega) (by omega))
       exact gZ fun a hf => ⟨aX, hf.sb rfl, hm.pk [0, 1, 2] rfl rfl⟩
      refine gM rfl (gM rfl (gg fun b8 b9 ak => ?_))
      obtain ⟨ba, bb, cP, he⟩ := idx_form' h2 ak
      subst he
      obtain ⟨_, _, am, bc⟩ := ro_get' h2 ak
      have aN := bc
      obtain ⟨ay, rfl, -⟩ := id aN
      replace aN : GT.rep (hp w0) [ay] b8 := aN
      replace am : CellsAt (hp w0) ba (bb + (aG).toNat * 1) [ay] := am
      refine gI st_99 b9 (idx_lt ak) rfl (gY (yl isAgg98 ((am.mono hm.lez).cell (j := 0) rfl) rfl) (gM rfl (gg fun bd be an => ?_)))
      obtain ⟨cQ, cR, cS, he⟩ := idx_form aN an
      subst he
      refine gI st_98 be (idx_lt an) rfl (gY (yl isAgg4 ((flat_cells (cs := [(.bool (bd))]) (hm.now aN) an rfl).cell (j := 0) rfl) rfl) (gN rfl (gKf rfl (gE ?_))))
      replace hm := hm.imp (c' := ow [aX] aW) 2 rfl (fun F h0 => by rw [ai, ← ax]; exact own_subV h0 (by omega) (by omega))
      exact gZ fun a hf => ⟨aX, hf.sb rfl, hm.pk [0, 1, 2] rfl rfl⟩
     repeat clear hm
     rintro aj a w ⟨aM, hf, hm⟩
     refine gv hf (gs 62 rfl (fun bf => ?_) fun bf => ?_)
     ·
      exact gct rfl (gXt (gHh (gZ fun a hf => ⟨aC, aM, hf.sb rfl, hm.pk [0, 1, 2] rfl rfl⟩)))
     refine gcf rfl (gSk (gS (gR (gM rfl (gM rfl ?_)))))
     obtain ⟨bg, hle, hm1, hsub, bh⟩ := hm.take2 (L1 := [ow [aC] aD.1]) (L2 := [blk aA [(nV c_.params), (nV c_.regs), v1] 44, ow [aM] aW]) [1] [0, 2] (by decide) rfl rfl
     refine gCg rfl call272 (spec_l7Insert_ok _ bg aD.1 aC aG hm1 ) ?_
     rintro cT cU bi w ⟨_, rfl, hB⟩
     replace hm := bh _ _ hB; clear hB
     refine gA rfl (gE (gR (gM rfl (gY (yn (hm.blk_at 1 rfl) isAgg44 sizeOf44 rfl) (gM rfl (gCg rfl call66 (spec_l7Preds_ok _ c_ v1 (hm.now h1) aG) ?_))))))
     rintro cV cW cX w ⟨_, rfl, hB⟩
     replace hm := hm.give hB; clear hB
     refine gb fun cY bj => ?_
     obtain ⟨bk, bl⟩ := appM_some.1 bj
     refine gf rfl (fun a hf => e_append 3 et_57 hf hm rfl (hm.ow_rep 0 rfl) rfl rfl rfl bk) ?_
     rintro bm w hm
     rw [bl] at hm
     exact gA rfl (gE (gZ fun a hf => ⟨bi, bm, hf.sb rfl, hm.pk [2, 1, 3] rfl rfl⟩))
    repeat clear hm
    rintro aS a w ⟨aT, aV, hf, hm⟩
    exact gv hf (gZe fun a hf => ⟨aT, aV, hf.sb rfl, hm.pk [0, 1, 2] rfl rfl⟩)
   exact gcf rfl (gXt (gHh (gLp bR bQ (gZ fun a hf => ⟨aC, hf.sb rfl, hm.pk [1] rfl rfl⟩))))
  repeat clear hm
  rintro af a w ⟨aR, hf, hm⟩
  exact gv hf (gS (gR (gM rfl (gA rfl (gE (gRt (gr1 results279 rfl ⟨aR, rfl, hm.pk [0] rfl rfl⟩)))))))
theorem spec_l8Pure_ok (w0 : World) (op : Int) :
    ConM Tryz.prog 306 [(nV op)] w0 (spec_l8Pure op) fun r v w' => v = (.bool (r)) ∧ Below w0.heap.size w0 w' := by
  unfold spec_l8Pure
  refine gcon func306 rfl fun r => ?_
  have hm := Mem.start w0
  exact gS (gR (gA rfl (gE (gS (gR (gM rfl (gC hm rfl call39 (spec_l1In_ok _ op 1 10) fun aA aB w hm => gA rfl (gE (gRt (gr1 results306 rfl ⟨rfl, hm.below⟩))))))))))
theorem spec_l12Quiet_ok (w0 : World) (op : Int) :
    ConM Tryz.prog 295 [(nV op)] w0 (spec_l12Quiet op) fun r v w' => v = (.bool (r)) ∧ Below w0.heap.size w0 w' := by
  unfold spec_l12Quiet
  refine gcon func295 rfl fun r => ?_
  have hm := Mem.start w0
  refine gS (gR (gA rfl (gE (gS (gJ hm (fun aA => [(2, (.bool (aA)))]) (fun aA => []) (fun aA => ?_) ?_)))))
  ·
   refine gR (gM rfl (gC hm rfl call306 (spec_l8Pure_ok _ op) fun aD aE w hm => gM rfl (gs 5 rfl (fun aB => ?_) fun aB => ?_)))
   ·
    refine gM rfl (gB rfl (gKt rfl (gM rfl (gsd 9 rfl (fun aC => ?_) fun aC => ?_))))
    ·
     exact gM rfl (gB rfl (gKt rfl (gA rfl (gE (gz hm [] rfl)))))
    exact gO rfl (gO rfl (gKf rfl (gA rfl (gE (gz hm [] rfl)))))
   exact gO rfl (gO rfl (gKf rfl (gM rfl (gO rfl (gO rfl (gKf rfl (gA rfl (gE (gz hm [] rfl)))))))))
  repeat clear hm
  intro aA w hm
  exact gRt (gr1 results295 rfl ⟨rfl, hm.below⟩)
theorem spec_l17Same_ok (w0 : World) (c_ : Code_) (v1 : Value) (sets : List (List (List Int))) (v2 : Value) (h2 : GT.rep (hp w0) [v2] sets) (body : List Int) (v3 : Value) (h3 : GT.rep (hp w0) [v3] body) (x_ : Ins_) (v4 : Value) (h4 : GT.rep (hp w0) [v4] x_.args) :
    ConM Tryz.prog 280 [(.agg #[(nV c_.params), (nV c_.regs), v1]), v2, v3, (.agg #[(nV x_.op), (nV x_.to), v4, (nV x_.n_)])] w0 (spec_l17Same c_ sets body x_) fun r v w' => v = (.bool (r)) ∧ Below w0.heap.size w0 w' := by
  unfold spec_l17Same
  refine gcon func280 rfl fun r => ?_
  have hm := Mem.start w0
  refine gS (gR (gBx hm rfl fun aC w hm => gBx hm rfl fun aD w hm => gA rfl (gE (gS (gS (gR (gF fo_61_0 rfl (gL hm 0 isAgg3 rfl (gC hm rfl call295 (spec_l12Quiet_ok _ x_.op) fun ao ap w hm => gN rfl (gE (gsn 14 rfl (fun aR => ?_) fun aR => ?_)))))))))))
  ·
   exact gct rfl (gS (gR (gA rfl (gE (gRt (gr1 results280 rfl ⟨rfl, hm.below⟩))))))
  refine gcf rfl (gSk (gS (gS (gR (gA rfl (gE (gBk (gNf hm (fun aE aM => [(1, v2), (2, v3), (4, (pV aC)), (7, (pV aD)), (9, (nV aE))]) (fun aE aM => [blk aC [(nV c_.params), (nV c_.regs), v1] 44, blk aD [(nV x_.op), (nV x_.to), v4, (nV x_.n_)] 61]) [1, 0] rfl ?_ ?_))))))))
  ·
   repeat clear hm
   intro aq aS aE aM w hm ar au aw aT
   refine gS (gS (gR (gM rfl (gF fo_61_2 rfl (gL hm 1 isAgg57 rfl ?_)))))
   obtain ⟨ax, aV, rfl, ay⟩ := ro_slice h4
   refine gY (yV st_57 rfl) (gB rfl (gE (go _ 19 rfl (decide_eq_true (by omega)) (gct rfl (gSk (gS (gBk (gS (gR (gF fo_61_2 rfl (gL hm 1 isAgg57 rfl (gM rfl (gg fun aN aW aG => ?_)))))))))))))
   obtain ⟨aX, aY, az, he⟩ := idx_form h4 aG
   obtain ⟨rfl, _, rfl⟩ := sl3 he
   refine gI st_57 aW (idx_lt aG) rfl (gY (yl isAgg3 ((flat_cells (cs := [(nV aN)]) (hm.now h4) aG rfl).cell (j := 0) rfl) rfl) (gA rfl (gE (gS (gJ hm (fun aF => [(1, v2), (2, v3), (4, (pV aC)), (7, (pV aD)), (9, (nV aE)), (43, (.bool (aF)))]) (fun aF => [blk aC [(nV c_.params), (nV c_.regs), v1] 44, blk aD [(nV x_.op), (nV x_.to), (sV aX aY x_.args.length aV), (nV x_.n_)] 61]) (fun aF => ?_) ?_)))))
   ·
    refine gR (gM rfl (gF fo_44_0 rfl (gL hm 0 isAgg3 rfl (gB rfl (gM rfl (gsd 31 rfl (fun aZ => ?_) fun aZ => ?_))))))
    ·
     refine gM rfl (gM rfl (gM rfl (gg fun aa ab aH => ?_)))
     obtain ⟨ac, ae, bA, he⟩ := idx_form' h2 aH
     subst he
     obtain ⟨_, _, aI, af⟩ := ro_get' h2 aH
     have aA := af
     obtain ⟨aO, rfl, -⟩ := id aA
     replace aA : GT.rep (hp w0) [aO] aa := aA
     replace aI : CellsAt (hp w0) ac (ae + (aN).toNat * 1) [aO] := aI
     refine gI st_70 ab (idx_lt aH) rfl (gY (yl isAgg64 ((aI.mono hm.lez).cell (j := 0) rfl) rfl) (gg fun ag ah aJ => ?_))
     obtain ⟨ai, aj, bB, he⟩ := idx_form' aA aJ
     subst he
     obtain ⟨_, _, aK, ak⟩ := ro_get' aA aJ
     have aB := ak
     obtain ⟨aP, rfl, -⟩ := id aB
     replace aB : GT.rep (hp w0) [aP] ag := aB
     replace aK : CellsAt (hp w0) ai (aj + (0 : Int).toNat * 1) [aP] := aK
     refine gI st_64 ah (idx_lt aJ) rfl (gY (yl isAgg57 ((aK.mono hm.lez).cell (j := 0) rfl) rfl) (gg fun aQ am aL => ?_))
     obtain ⟨bC, bD, bE, he⟩ := idx_form aB aL
     subst he
     exact gI st_57 am (idx_lt aL) rfl (gY (yl isAgg3 ((flat_cells (cs := [(nV aQ)]) (hm.now aB) aL rfl).cell (j := 0) rfl) rfl) (gC hm rfl call116 (spec_l10At_ok _ body v3 (hm.now h3) aQ) fun bF bG w hm => gB rfl (gKt rfl (gE (gz hm [0, 1] rfl)))))
    exact gO rfl (gO rfl (gO rfl (gO rfl (gO rfl (gO rfl (gO rfl (gO rfl (gO rfl (gO rfl (gO rfl (gKf rfl (gE (gz hm [0, 1] rfl)))))))))))))
   repeat clear hm
   intro aF w hm
   refine gs 43 rfl (fun an => ?_) fun an => ?_
   ·
    exact gct rfl (gS (gR (gA rfl (gE (gRt (gLr aT aS (gr1 results280 rfl ⟨rfl, hm.below⟩)))))))
   exact gcf rfl (gSk (gR (gM rfl (gP (by omega) (by omega) rfl (gA rfl (gE (gze hm [0, 1] rfl)))))))
  repeat clear hm
  intro bH bJ w hm bK bL
  refine gS (gS (gR (gM rfl (gF fo_61_2 rfl (gL hm 1 isAgg57 rfl ?_)))))
  obtain ⟨bM, bN, rfl, bO⟩ := ro_slice h4
  exact gY (yV st_57 rfl) (gB rfl (gE (go _ 19 rfl (decide_eq_false (by omega)) (gcf rfl (gXt (gHh (gS (gR (gA rfl (gE (gRt (gr1 results280 rfl ⟨rfl, hm.below⟩))))))))))))
end Go.Proofs.YtcfdnpmajkhokaaGreat
