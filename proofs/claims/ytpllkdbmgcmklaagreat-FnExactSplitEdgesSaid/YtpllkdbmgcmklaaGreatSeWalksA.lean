/- A part of the proof of FnExactSplitEdgesSaid. -/
import Derived.Test.YtpllkdbmgcmklaaGreatSeModels
import Derived.Test.YtpllkdbmgcmklaaGreatChecked
import Derived.Test.YtpllkdbmgcmklaaGreatSeLays
import Derived.Test.YtpllkdbmgcmklaaGreatWkAd
namespace Go.Proofs.YtpllkdbmgcmklaaGreat
open Go Go.Wk Go.RowKit
set_option maxRecDepth 4000
set_option maxHeartbeats 4000000

open Tryz
theorem mxo : Tryz.prog.follows .mixedOrders = true := by kernel_rfl
theorem fo_24_0 : FieldOff Tryz.prog 24 0 0 := by have h := FieldOff.mk (k := 0) underlying24 rfl sizeOf22; exact h
theorem fo_30_0 : FieldOff Tryz.prog 30 0 0 := by have h := FieldOff.mk (k := 0) underlying30 rfl sizeOf28; exact h
theorem fo_57_0 : FieldOff Tryz.prog 57 0 0 := by have h := FieldOff.mk (k := 0) underlying57 rfl sizeOf3; exact h
theorem fo_57_1 : FieldOff Tryz.prog 57 1 1 := by have h := FieldOff.mk (k := 1) underlying57 rfl sizeOf3; exact h
theorem fo_57_2 : FieldOff Tryz.prog 57 2 2 := by have h := FieldOff.mk (k := 2) underlying57 rfl sizeOf55; exact h
theorem fo_97_0 : FieldOff Tryz.prog 97 0 0 := by have h := FieldOff.mk (k := 0) underlying97 rfl sizeOf3; exact h
theorem fo_97_1 : FieldOff Tryz.prog 97 1 1 := by have h := FieldOff.mk (k := 1) underlying97 rfl sizeOf3; exact h
theorem fo_97_2 : FieldOff Tryz.prog 97 2 2 := by have h := FieldOff.mk (k := 2) underlying97 rfl sizeOf95; exact h
theorem fo_104_0 : FieldOff Tryz.prog 104 0 0 := by have h := FieldOff.mk (k := 0) underlying104 rfl sizeOf101; exact h
theorem fo_104_1 : FieldOff Tryz.prog 104 1 1 := by have h := FieldOff.mk (k := 1) underlying104 rfl sizeOf102; exact h
theorem fo_104_2 : FieldOff Tryz.prog 104 2 2 := by have h := FieldOff.mk (k := 2) underlying104 rfl sizeOf3; exact h
theorem fo_104_3 : FieldOff Tryz.prog 104 3 3 := by have h := FieldOff.mk (k := 3) underlying104 rfl sizeOf3; exact h
theorem fo_104_4 : FieldOff Tryz.prog 104 4 4 := by have h := FieldOff.mk (k := 4) underlying104 rfl sizeOf37; exact h
theorem fo_106_0 : FieldOff Tryz.prog 106 0 0 := by have h := FieldOff.mk (k := 0) underlying106 rfl sizeOf3; exact h
theorem fo_106_1 : FieldOff Tryz.prog 106 1 1 := by have h := FieldOff.mk (k := 1) underlying106 rfl sizeOf3; exact h
theorem fo_106_2 : FieldOff Tryz.prog 106 2 2 := by have h := FieldOff.mk (k := 2) underlying106 rfl sizeOf37; exact h
theorem fo_106_3 : FieldOff Tryz.prog 106 3 3 := by have h := FieldOff.mk (k := 3) underlying106 rfl sizeOf3; exact h
theorem fo_143_0 : FieldOff Tryz.prog 143 0 0 := by have h := FieldOff.mk (k := 0) underlying143 rfl sizeOf3; exact h
theorem fo_143_1 : FieldOff Tryz.prog 143 1 1 := by have h := FieldOff.mk (k := 1) underlying143 rfl sizeOf37; exact h
theorem fo_196_0 : FieldOff Tryz.prog 196 0 0 := by have h := FieldOff.mk (k := 0) underlying196 rfl sizeOf193; exact h
theorem fo_196_1 : FieldOff Tryz.prog 196 1 1 := by have h := FieldOff.mk (k := 1) underlying196 rfl sizeOf194; exact h
theorem fo_196_2 : FieldOff Tryz.prog 196 2 2 := by have h := FieldOff.mk (k := 2) underlying196 rfl sizeOf3; exact h
theorem fo_196_3 : FieldOff Tryz.prog 196 3 3 := by have h := FieldOff.mk (k := 3) underlying196 rfl sizeOf3; exact h
theorem fo_196_4 : FieldOff Tryz.prog 196 4 4 := by have h := FieldOff.mk (k := 4) underlying196 rfl sizeOf37; exact h
theorem fo_268_0 : FieldOff Tryz.prog 268 0 0 := by have h := FieldOff.mk (k := 0) underlying268 rfl sizeOf3; exact h
theorem fo_268_1 : FieldOff Tryz.prog 268 1 1 := by have h := FieldOff.mk (k := 1) underlying268 rfl sizeOf37; exact h
theorem fo_270_0 : FieldOff Tryz.prog 270 0 0 := by have h := FieldOff.mk (k := 0) underlying270 rfl sizeOf3; exact h
theorem fo_270_1 : FieldOff Tryz.prog 270 1 1 := by have h := FieldOff.mk (k := 1) underlying270 rfl sizeOf3; exact h
theorem fo_270_2 : FieldOff Tryz.prog 270 2 2 := by have h := FieldOff.mk (k := 2) underlying270 rfl sizeOf37; exact h
theorem fo_270_3 : FieldOff Tryz.prog 270 3 3 := by have h := FieldOff.mk (k := 3) underlying270 rfl sizeOf3; exact h
theorem st_22 : SliceTy Tryz.prog 22 97 3 := ⟨underlying22, sizeOf97⟩
theorem st_28 : SliceTy Tryz.prog 28 57 3 := ⟨underlying28, sizeOf57⟩
theorem st_37 : SliceTy Tryz.prog 37 3 1 := ⟨underlying37, sizeOf3⟩
theorem st_55 : SliceTy Tryz.prog 55 104 5 := ⟨underlying55, sizeOf104⟩
theorem st_95 : SliceTy Tryz.prog 95 196 5 := ⟨underlying95, sizeOf196⟩
theorem st_101 : SliceTy Tryz.prog 101 143 2 := ⟨underlying101, sizeOf143⟩
theorem st_102 : SliceTy Tryz.prog 102 106 4 := ⟨underlying102, sizeOf106⟩
theorem st_132 : SliceTy Tryz.prog 132 135 1 := ⟨underlying132, sizeOf135⟩
theorem st_135 : SliceTy Tryz.prog 135 136 1 := ⟨underlying135, sizeOf136⟩
theorem st_193 : SliceTy Tryz.prog 193 268 2 := ⟨underlying193, sizeOf268⟩
theorem st_194 : SliceTy Tryz.prog 194 270 4 := ⟨underlying194, sizeOf270⟩
theorem et_28 : ElemTy Tryz.prog 28 57 3 (.agg #[(.int .i64 (0)), (.int .i64 (0)), (.slice none 0 0)]) := ⟨underlying28, ⟨_, (by kernel_rfl : Tryz.prog.info? 57 = some t57), rfl, by decide, rfl⟩, rfl, by decide⟩
theorem et_37 : ElemTy Tryz.prog 37 3 1 (.int .i64 (0)) := ⟨underlying37, ⟨_, (by kernel_rfl : Tryz.prog.info? 3 = some t3), rfl, by decide, rfl⟩, rfl, by decide⟩
theorem et_55 : ElemTy Tryz.prog 55 104 5 (.agg #[(.slice none 0 0), (.slice none 0 0), (.int .i64 (0)), (.int .i64 (0)), (.slice none 0 0)]) := ⟨underlying55, ⟨_, (by kernel_rfl : Tryz.prog.info? 104 = some t104), rfl, by decide, rfl⟩, rfl, by decide⟩
theorem et_101 : ElemTy Tryz.prog 101 143 2 (.agg #[(.int .i64 (0)), (.slice none 0 0)]) := ⟨underlying101, ⟨_, (by kernel_rfl : Tryz.prog.info? 143 = some t143), rfl, by decide, rfl⟩, rfl, by decide⟩
theorem et_102 : ElemTy Tryz.prog 102 106 4 (.agg #[(.int .i64 (0)), (.int .i64 (0)), (.slice none 0 0), (.int .i64 (0))]) := ⟨underlying102, ⟨_, (by kernel_rfl : Tryz.prog.info? 106 = some t106), rfl, by decide, rfl⟩, rfl, by decide⟩
theorem et_132 : ElemTy Tryz.prog 132 135 1 (.slice none 0 0) := ⟨underlying132, ⟨_, (by kernel_rfl : Tryz.prog.info? 135 = some t135), rfl, by decide, rfl⟩, rfl, by decide⟩
theorem et_135 : ElemTy Tryz.prog 135 136 1 (.map none) := ⟨underlying135, ⟨_, (by kernel_rfl : Tryz.prog.info? 136 = some t136), rfl, by decide, rfl⟩, rfl, by decide⟩

theorem laws_szIntS_ok (w0 : World) (a_ : List Int) (v1 : Value) (h1 : GT.rep (hp w0) [v1] a_) (left : Int) :
    ConM Tryz.prog 268 [v1, (nV left)] w0 (laws_szIntS a_ left) fun r v w' => v = (nV r) ∧ Below w0.heap.size w0 w' := by
  unfold laws_szIntS
  refine gcon func268 rfl fun r => ?_
  have hm := Mem.start w0
  refine gS (gR (gA rfl (gE (gS (gR (gM rfl (gM rfl ?_)))))))
  obtain ⟨p0_1, c0_1, rfl, hl0_1⟩ := ro_slice h1
  refine gY (yV st_37 rfl) (gB rfl (gA rfl (gE (gS (gS (gR (gM rfl (gB rfl (gE (gsd 10 rfl (fun h0_1 => ?_) fun h0_1 => ?_))))))))))
  ·
   exact gct rfl (gS (gR (gA rfl (gE (gRt (gr1 results268 rfl ⟨rfl, hm.below⟩))))))
  exact gcf rfl (gSk (gS (gR (gM rfl (gA rfl (gE (gRt (gr1 results268 rfl ⟨rfl, hm.below⟩))))))))

theorem laws_szPhi_ok (w0 : World) (a_ : Phi_) (v1 : Value) (h1 : GT.rep (hp w0) [v1] a_.args) (left : Int) :
    ConM Tryz.prog 301 [(.agg #[(nV a_.to), v1]), (nV left)] w0 (laws_szPhi a_ left) fun r v w' => v = (nV r) ∧ Below w0.heap.size w0 w' := by
  unfold laws_szPhi
  refine gcon func301 rfl fun r => ?_
  have hm := Mem.start w0
  refine gS (gR (gBx hm rfl fun b0_1 w hm => gA rfl (gE (gS (gR (gF fo_268_1 rfl (gL hm 0 isAgg37 rfl (gM rfl (gC hm rfl call268 (laws_szIntS_ok _ a_.args v1 (hm.now h1) left) fun r0_1 hx0_1 w hm => gA rfl (gE (gS (gS (gR (gM rfl (gB rfl (gE (gsd 10 rfl (fun h0_1 => ?_) fun h0_1 => ?_)))))))))))))))))
  ·
   exact gct rfl (gS (gR (gA rfl (gE (gRt (gr1 results301 rfl ⟨rfl, hm.below⟩))))))
  exact gcf rfl (gSk (gS (gR (gM rfl (gA rfl (gE (gRt (gr1 results301 rfl ⟨rfl, hm.below⟩))))))))

theorem laws_szPhiS_ok (w0 : World) (a_ : List Phi_) (v1 : Value) (h1 : GT.rep (hp w0) [v1] a_) (left : Int) :
    ConM Tryz.prog 266 [v1, (nV left)] w0 (laws_szPhiS a_ left) fun r v w' => v = (nV r) ∧ Below w0.heap.size w0 w' := by
  unfold laws_szPhiS
  refine gcon func266 rfl fun r => ?_
  have hm := Mem.start w0
  refine gS (gR (gA rfl (gE (gS (gR (gM rfl (gM rfl ?_)))))))
  obtain ⟨p0_1, c0_1, rfl, hl0_1⟩ := ro_slice h1
  refine gY (yV st_193 rfl) (gB rfl (gA rfl (gE (gS (gS (gR (gM rfl (gB rfl (gE (gsd 11 rfl (fun h0_1 => ?_) fun h0_1 => ?_))))))))))
  ·
   exact gct rfl (gS (gR (gA rfl (gE (gRt (gr1 results266 rfl ⟨rfl, hm.below⟩))))))
  refine gcf rfl (gSk (gS (gS (gR (gA rfl (gE (gBk (gNg (fun i1_1 xs1_1 a w => 0 ≤ xs1_1 ∧ St 27 [(0, (.slice p0_1 a_.length c0_1)), (1, (nV xs1_1)), (5, (nV i1_1))] w0 (hp w0) [] a w) (fun a hf => ⟨(by first | omega | (dsimp only; omega)), hf.sb rfl, hm.pk [] rfl rfl⟩) ?_ ?_))))))))
  ·
   repeat clear hm
   rintro r0_1 hq0_1 i1_1 xs1_1 a w ⟨hn0_1, hf, hm⟩ hi0_1 hi0_2 q0_1 ho0_1
   refine gv hf (gS (gS (gR (gM rfl (gM rfl (gY (yV st_193 rfl) (gB rfl (gE (go _ 15 rfl (decide_eq_true (by omega)) (gct rfl (gSk (gS (gBk (gS (gR (gM rfl (gM rfl (gg fun x1_1 h1_1 hx1_2 => ?_))))))))))))))))))
   obtain ⟨b1_1, o1_1, c1_1, he⟩ := idx_form' h1 hx1_2
   simp only [Value.slice.injEq, Option.some.injEq] at he; obtain ⟨rfl, _, rfl⟩ := he
   obtain ⟨v1_1, hc1_1, h1_2⟩ := rk_Phi_ h1 hx1_2
   refine gI st_193 h1_1 (idx_lt hx1_2) rfl (gY (yn (hc1_1.mono hm.lez) isAgg268 sizeOf268 rfl) (gM rfl (gC hm rfl call301 (laws_szPhi_ok _ x1_1 v1_1 (hm.now h1_2) xs1_1) fun r1_1 hx1_3 w hm => gA rfl (gE (gS (gR (gM rfl (gB rfl (gE (gsd 25 rfl (fun h1_3 => ?_) fun h1_3 => ?_))))))))))
   ·
    exact gct rfl (gS (gR (gA rfl (gE (gRt (gLr ho0_1 hq0_1 (gr1 results266 rfl ⟨rfl, hm.below⟩)))))))
   exact gcf rfl (gSk (gR (gM rfl (gP (by omega) (by omega) rfl (gA rfl (gE (gZe fun a hf => ⟨(by first | omega | (dsimp only; omega)), hf.sb rfl, hm.pk [] rfl rfl⟩)))))))
  repeat clear hm
  rintro i0_1 xs0_1 a w ⟨hn0_2, hf, hm⟩ hi0_3 hi0_4
  exact gv hf (gS (gS (gR (gM rfl (gM rfl (gY (yV st_193 rfl) (gB rfl (gE (go _ 15 rfl (decide_eq_false (by omega)) (gcf rfl (gXt (gHh (gS (gR (gM rfl (gA rfl (gE (gRt (gr1 results266 rfl ⟨rfl, hm.below⟩)))))))))))))))))))

theorem laws_szIns_ok (w0 : World) (a_ : Ins_) (v1 : Value) (h1 : GT.rep (hp w0) [v1] a_.args) (left : Int) :
    ConM Tryz.prog 302 [(.agg #[(nV a_.op), (nV a_.to), v1, (nV a_.n_)]), (nV left)] w0 (laws_szIns a_ left) fun r v w' => v = (nV r) ∧ Below w0.heap.size w0 w' := by
  unfold laws_szIns
  refine gcon func302 rfl fun r => ?_
  have hm := Mem.start w0
  refine gS (gR (gBx hm rfl fun b0_1 w hm => gA rfl (gE (gS (gR (gF fo_270_2 rfl (gL hm 0 isAgg37 rfl (gM rfl (gC hm rfl call268 (laws_szIntS_ok _ a_.args v1 (hm.now h1) left) fun r0_1 hx0_1 w hm => gA rfl (gE (gS (gS (gR (gM rfl (gB rfl (gE (gsd 10 rfl (fun h0_1 => ?_) fun h0_1 => ?_)))))))))))))))))
  ·
   exact gct rfl (gS (gR (gA rfl (gE (gRt (gr1 results302 rfl ⟨rfl, hm.below⟩))))))
  exact gcf rfl (gSk (gS (gR (gM rfl (gA rfl (gE (gRt (gr1 results302 rfl ⟨rfl, hm.below⟩))))))))

theorem laws_szInsS_ok (w0 : World) (a_ : List Ins_) (v1 : Value) (h1 : GT.rep (hp w0) [v1] a_) (left : Int) :
    ConM Tryz.prog 267 [v1, (nV left)] w0 (laws_szInsS a_ left) fun r v w' => v = (nV r) ∧ Below w0.heap.size w0 w' := by
  unfold laws_szInsS
  refine gcon func267 rfl fun r => ?_
  have hm := Mem.start w0
  refine gS (gR (gA rfl (gE (gS (gR (gM rfl (gM rfl ?_)))))))
  obtain ⟨p0_1, c0_1, rfl, hl0_1⟩ := ro_slice h1
  refine gY (yV st_194 rfl) (gB rfl (gA rfl (gE (gS (gS (gR (gM rfl (gB rfl (gE (gsd 11 rfl (fun h0_1 => ?_) fun h0_1 => ?_))))))))))
  ·
   exact gct rfl (gS (gR (gA rfl (gE (gRt (gr1 results267 rfl ⟨rfl, hm.below⟩))))))
  refine gcf rfl (gSk (gS (gS (gR (gA rfl (gE (gBk (gNg (fun i1_1 xs1_1 a w => 0 ≤ xs1_1 ∧ St 27 [(0, (.slice p0_1 a_.length c0_1)), (1, (nV xs1_1)), (5, (nV i1_1))] w0 (hp w0) [] a w) (fun a hf => ⟨(by first | omega | (dsimp only; omega)), hf.sb rfl, hm.pk [] rfl rfl⟩) ?_ ?_))))))))
  ·
   repeat clear hm
   rintro r0_1 hq0_1 i1_1 xs1_1 a w ⟨hn0_1, hf, hm⟩ hi0_1 hi0_2 q0_1 ho0_1
   refine gv hf (gS (gS (gR (gM rfl (gM rfl (gY (yV st_194 rfl) (gB rfl (gE (go _ 15 rfl (decide_eq_true (by omega)) (gct rfl (gSk (gS (gBk (gS (gR (gM rfl (gM rfl (gg fun x1_1 h1_1 hx1_2 => ?_))))))))))))))))))
   obtain ⟨b1_1, o1_1, c1_1, he⟩ := idx_form' h1 hx1_2
   simp only [Value.slice.injEq, Option.some.injEq] at he; obtain ⟨rfl, _, rfl⟩ := he
   obtain ⟨v1_1, hc1_1, h1_2⟩ := rk_Ins_ h1 hx1_2
   refine gI st_194 h1_1 (idx_lt hx1_2) rfl (gY (yn (hc1_1.mono hm.lez) isAgg270 sizeOf270 rfl) (gM rfl (gC hm rfl call302 (laws_szIns_ok _ x1_1 v1_1 (hm.now h1_2) xs1_1) fun r1_1 hx1_3 w hm => gA rfl (gE (gS (gR (gM rfl (gB rfl (gE (gsd 25 rfl (fun h1_3 => ?_) fun h1_3 => ?_))))))))))
   ·
    exact gct rfl (gS (gR (gA rfl (gE (gRt (gLr ho0_1 hq0_1 (gr1 results267 rfl ⟨rfl, hm.below⟩)))))))
   exact gcf rfl (gSk (gR (gM rfl (gP (by omega) (by omega) rfl (gA rfl (gE (gZe fun a hf => ⟨(by first | omega | (dsimp only; omega)), hf.sb rfl, hm.pk [] rfl rfl⟩)))))))
  repeat clear hm
  rintro i0_1 xs0_1 a w ⟨hn0_2, hf, hm⟩ hi0_3 hi0_4
  exact gv hf (gS (gS (gR (gM rfl (gM rfl (gY (yV st_194 rfl) (gB rfl (gE (go _ 15 rfl (decide_eq_false (by omega)) (gcf rfl (gXt (gHh (gS (gR (gM rfl (gA rfl (gE (gRt (gr1 results267 rfl ⟨rfl, hm.below⟩)))))))))))))))))))

theorem laws_szBlock_ok (w0 : World) (a_ : Block_) (v1 : Value) (h1 : GT.rep (hp w0) [v1] a_.phis) (v2 : Value) (h2 : GT.rep (hp w0) [v2] a_.ins) (v3 : Value) (h3 : GT.rep (hp w0) [v3] a_.next_) (left : Int) :
    ConM Tryz.prog 205 [(.agg #[v1, v2, (nV a_.jump), (nV a_.on), v3]), (nV left)] w0 (laws_szBlock a_ left) fun r v w' => v = (nV r) ∧ Below w0.heap.size w0 w' := by
  unfold laws_szBlock
  refine gcon func205 rfl fun r => ?_
  have hm := Mem.start w0
  refine gS (gR (gBx hm rfl fun b0_1 w hm => gA rfl (gE (gS (gR (gF fo_196_0 rfl (gL hm 0 isAgg193 rfl (gM rfl (gC hm rfl call266 (laws_szPhiS_ok _ a_.phis v1 (hm.now h1) left) fun r0_1 hx0_1 w hm => gA rfl (gE (gS (gS (gR (gM rfl (gB rfl (gE (gsd 10 rfl (fun h0_1 => ?_) fun h0_1 => ?_)))))))))))))))))
  ·
   exact gct rfl (gS (gR (gA rfl (gE (gRt (gr1 results205 rfl ⟨rfl, hm.below⟩))))))
  refine gcf rfl (gSk (gS (gR (gF fo_196_1 rfl (gL hm 0 isAgg194 rfl (gM rfl (gC hm rfl call267 (laws_szInsS_ok _ a_.ins v2 (hm.now h2) r0_1) fun r0_2 hx0_2 w hm => gA rfl (gE (gS (gS (gR (gM rfl (gB rfl (gE (gsd 16 rfl (fun h0_2 => ?_) fun h0_2 => ?_)))))))))))))))
  ·
   exact gct rfl (gS (gR (gA rfl (gE (gRt (gr1 results205 rfl ⟨rfl, hm.below⟩))))))
  refine gcf rfl (gSk (gS (gR (gF fo_196_4 rfl (gL hm 0 isAgg37 rfl (gM rfl (gC hm rfl call268 (laws_szIntS_ok _ a_.next_ v3 (hm.now h3) r0_2) fun r0_3 hx0_3 w hm => gA rfl (gE (gS (gS (gR (gM rfl (gB rfl (gE (gsd 22 rfl (fun h0_3 => ?_) fun h0_3 => ?_)))))))))))))))
  ·
   exact gct rfl (gS (gR (gA rfl (gE (gRt (gr1 results205 rfl ⟨rfl, hm.below⟩))))))
  exact gcf rfl (gSk (gS (gR (gM rfl (gA rfl (gE (gRt (gr1 results205 rfl ⟨rfl, hm.below⟩))))))))

theorem laws_szBlockS_ok (w0 : World) (a_ : List Block_) (v1 : Value) (h1 : GT.rep (hp w0) [v1] a_) (left : Int) :
    ConM Tryz.prog 136 [v1, (nV left)] w0 (laws_szBlockS a_ left) fun r v w' => v = (nV r) ∧ Below w0.heap.size w0 w' := by
  unfold laws_szBlockS
  refine gcon func136 rfl fun r => ?_
  have hm := Mem.start w0
  refine gS (gR (gA rfl (gE (gS (gR (gM rfl (gM rfl ?_)))))))
  obtain ⟨p0_1, c0_1, rfl, hl0_1⟩ := ro_slice h1
  refine gY (yV st_95 rfl) (gB rfl (gA rfl (gE (gS (gS (gR (gM rfl (gB rfl (gE (gsd 11 rfl (fun h0_1 => ?_) fun h0_1 => ?_))))))))))
  ·
   exact gct rfl (gS (gR (gA rfl (gE (gRt (gr1 results136 rfl ⟨rfl, hm.below⟩))))))
  refine gcf rfl (gSk (gS (gS (gR (gA rfl (gE (gBk (gNg (fun i1_1 xs1_1 a w => 0 ≤ xs1_1 ∧ St 27 [(0, (.slice p0_1 a_.length c0_1)), (1, (nV xs1_1)), (5, (nV i1_1))] w0 (hp w0) [] a w) (fun a hf => ⟨(by first | omega | (dsimp only; omega)), hf.sb rfl, hm.pk [] rfl rfl⟩) ?_ ?_))))))))
  ·
   repeat clear hm
   rintro r0_1 hq0_1 i1_1 xs1_1 a w ⟨hn0_1, hf, hm⟩ hi0_1 hi0_2 q0_1 ho0_1
   refine gv hf (gS (gS (gR (gM rfl (gM rfl (gY (yV st_95 rfl) (gB rfl (gE (go _ 15 rfl (decide_eq_true (by omega)) (gct rfl (gSk (gS (gBk (gS (gR (gM rfl (gM rfl (gg fun x1_1 h1_1 hx1_2 => ?_))))))))))))))))))
   obtain ⟨b1_1, o1_1, c1_1, he⟩ := idx_form' h1 hx1_2
   simp only [Value.slice.injEq, Option.some.injEq] at he; obtain ⟨rfl, _, rfl⟩ := he
   obtain ⟨v1_1, v1_2, v1_3, hc1_1, h1_2, h1_3, h1_4⟩ := rk_Block_ h1 hx1_2
   refine gI st_95 h1_1 (idx_lt hx1_2) rfl (gY (yn (hc1_1.mono hm.lez) isAgg196 sizeOf196 rfl) (gM rfl (gC hm rfl call205 (laws_szBlock_ok _ x1_1 v1_1 (hm.now h1_2) v1_2 (hm.now h1_3) v1_3 (hm.now h1_4) xs1_1) fun r1_1 hx1_3 w hm => gA rfl (gE (gS (gR (gM rfl (gB rfl (gE (gsd 25 rfl (fun h1_5 => ?_) fun h1_5 => ?_))))))))))
   ·
    exact gct rfl (gS (gR (gA rfl (gE (gRt (gLr ho0_1 hq0_1 (gr1 results136 rfl ⟨rfl, hm.below⟩)))))))
   exact gcf rfl (gSk (gR (gM rfl (gP (by omega) (by omega) rfl (gA rfl (gE (gZe fun a hf => ⟨(by first | omega | (dsimp only; omega)), hf.sb rfl, hm.pk [] rfl rfl⟩)))))))
  repeat clear hm
  rintro i0_1 xs0_1 a w ⟨hn0_2, hf, hm⟩ hi0_3 hi0_4
  exact gv hf (gS (gS (gR (gM rfl (gM rfl (gY (yV st_95 rfl) (gB rfl (gE (go _ 15 rfl (decide_eq_false (by omega)) (gcf rfl (gXt (gHh (gS (gR (gM rfl (gA rfl (gE (gRt (gr1 results136 rfl ⟨rfl, hm.below⟩)))))))))))))))))))

theorem laws_szCode_ok (w0 : World) (a_ : Code_) (v1 : Value) (h1 : GT.rep (hp w0) [v1] a_.blocks) (left : Int) :
    ConM Tryz.prog 88 [(.agg #[(nV a_.params), (nV a_.regs), v1]), (nV left)] w0 (laws_szCode a_ left) fun r v w' => v = (nV r) ∧ Below w0.heap.size w0 w' := by
  unfold laws_szCode
  refine gcon func88 rfl fun r => ?_
  have hm := Mem.start w0
  refine gS (gR (gBx hm rfl fun b0_1 w hm => gA rfl (gE (gS (gR (gF fo_97_2 rfl (gL hm 0 isAgg95 rfl (gM rfl (gC hm rfl call136 (laws_szBlockS_ok _ a_.blocks v1 (hm.now h1) left) fun r0_1 hx0_1 w hm => gA rfl (gE (gS (gS (gR (gM rfl (gB rfl (gE (gsd 10 rfl (fun h0_1 => ?_) fun h0_1 => ?_)))))))))))))))))
  ·
   exact gct rfl (gS (gR (gA rfl (gE (gRt (gr1 results88 rfl ⟨rfl, hm.below⟩))))))
  exact gcf rfl (gSk (gS (gR (gM rfl (gA rfl (gE (gRt (gr1 results88 rfl ⟨rfl, hm.below⟩))))))))

theorem laws_szCodeS_ok (w0 : World) (a_ : List Code_) (v1 : Value) (h1 : GT.rep (hp w0) [v1] a_) (left : Int) :
    ConM Tryz.prog 48 [v1, (nV left)] w0 (laws_szCodeS a_ left) fun r v w' => v = (nV r) ∧ Below w0.heap.size w0 w' := by
  unfold laws_szCodeS
  refine gcon func48 rfl fun r => ?_
  have hm := Mem.start w0
  refine gS (gR (gA rfl (gE (gS (gR (gM rfl (gM rfl ?_)))))))
  obtain ⟨p0_1, c0_1, rfl, hl0_1⟩ := ro_slice h1
  refine gY (yV st_22 rfl) (gB rfl (gA rfl (gE (gS (gS (gR (gM rfl (gB rfl (gE (gsd 11 rfl (fun h0_1 => ?_) fun h0_1 => ?_))))))))))
  ·
   exact gct rfl (gS (gR (gA rfl (gE (gRt (gr1 results48 rfl ⟨rfl, hm.below⟩))))))
  refine gcf rfl (gSk (gS (gS (gR (gA rfl (gE (gBk (gNg (fun i1_1 xs1_1 a w => 0 ≤ xs1_1 ∧ St 27 [(0, (.slice p0_1 a_.length c0_1)), (1, (nV xs1_1)), (5, (nV i1_1))] w0 (hp w0) [] a w) (fun a hf => ⟨(by first | omega | (dsimp only; omega)), hf.sb rfl, hm.pk [] rfl rfl⟩) ?_ ?_))))))))
  ·
   repeat clear hm
   rintro r0_1 hq0_1 i1_1 xs1_1 a w ⟨hn0_1, hf, hm⟩ hi0_1 hi0_2 q0_1 ho0_1
   refine gv hf (gS (gS (gR (gM rfl (gM rfl (gY (yV st_22 rfl) (gB rfl (gE (go _ 15 rfl (decide_eq_true (by omega)) (gct rfl (gSk (gS (gBk (gS (gR (gM rfl (gM rfl (gg fun x1_1 h1_1 hx1_2 => ?_))))))))))))))))))
   obtain ⟨b1_1, o1_1, c1_1, he⟩ := idx_form' h1 hx1_2
   simp only [Value.slice.injEq, Option.some.injEq] at he; obtain ⟨rfl, _, rfl⟩ := he
   obtain ⟨v1_1, hc1_1, h1_2⟩ := rk_Code_ h1 hx1_2
   refine gI st_22 h1_1 (idx_lt hx1_2) rfl (gY (yn (hc1_1.mono hm.lez) isAgg97 sizeOf97 rfl) (gM rfl (gC hm rfl call88 (laws_szCode_ok _ x1_1 v1_1 (hm.now h1_2) xs1_1) fun r1_1 hx1_3 w hm => gA rfl (gE (gS (gR (gM rfl (gB rfl (gE (gsd 25 rfl (fun h1_3 => ?_) fun h1_3 => ?_))))))))))
   ·
    exact gct rfl (gS (gR (gA rfl (gE (gRt (gLr ho0_1 hq0_1 (gr1 results48 rfl ⟨rfl, hm.below⟩)))))))
   exact gcf rfl (gSk (gR (gM rfl (gP (by omega) (by omega) rfl (gA rfl (gE (gZe fun a hf => ⟨(by first | omega | (dsimp only; omega)), hf.sb rfl, hm.pk [] rfl rfl⟩)))))))
  repeat clear hm
  rintro i0_1 xs0_1 a w ⟨hn0_2, hf, hm⟩ hi0_3 hi0_4
  exact gv hf (gS (gS (gR (gM rfl (gM rfl (gY (yV st_22 rfl) (gB rfl (gE (go _ 15 rfl (decide_eq_false (by omega)) (gcf rfl (gXt (gHh (gS (gR (gM rfl (gA rfl (gE (gRt (gr1 results48 rfl ⟨rfl, hm.below⟩)))))))))))))))))))

theorem laws_szUnit_ok (w0 : World) (a_ : Unit_) (v1 : Value) (h1 : GT.rep (hp w0) [v1] a_.codes) (left : Int) :
    ConM Tryz.prog 14 [(.agg #[v1]), (nV left)] w0 (laws_szUnit a_ left) fun r v w' => v = (nV r) ∧ Below w0.heap.size w0 w' := by
  unfold laws_szUnit
  refine gcon func14 rfl fun r => ?_
  have hm := Mem.start w0
  refine gS (gR (gBx hm rfl fun b0_1 w hm => gA rfl (gE (gS (gR (gF fo_24_0 rfl (gL hm 0 isAgg22 rfl (gM rfl (gC hm rfl call48 (laws_szCodeS_ok _ a_.codes v1 (hm.now h1) left) fun r0_1 hx0_1 w hm => gA rfl (gE (gS (gS (gR (gM rfl (gB rfl (gE (gsd 10 rfl (fun h0_1 => ?_) fun h0_1 => ?_)))))))))))))))))
  ·
   exact gct rfl (gS (gR (gA rfl (gE (gRt (gr1 results14 rfl ⟨rfl, hm.below⟩))))))
  exact gcf rfl (gSk (gS (gR (gM rfl (gA rfl (gE (gRt (gr1 results14 rfl ⟨rfl, hm.below⟩))))))))

theorem laws_toIntS_ok (w0 : World) (a_ : List Int) (v1 : Value) (h1 : GT.rep (hp w0) [v1] a_) :
    ConM Tryz.prog 24 [v1] w0 (laws_toIntS a_) fun r v w' => ∃ (x1 : Value), v = x1 ∧ Mem w0 (hp w0) w' [ow [x1] r] := by
  unfold laws_toIntS
  refine gcon func24 rfl fun r => ?_
  have hm := Mem.start w0
  refine gS (gR (gA rfl (gE (gS (gR (gM rfl ?_))))))
  obtain ⟨p0_1, c0_1, rfl, hl0_1⟩ := ro_slice h1
  refine gY (yV st_37 rfl) (gb fun ys0_1 hx0_1 => ?_)
  obtain ⟨⟨h0_11, h0_12⟩, h0_1e⟩ := makeM_some.1 hx0_1
  refine gf rfl (fun a hf => e_make (x0 := (0 : Int)) et_37 (fun _ => (Flat.own_iff.2 rfl)) hf hm rfl rfl rfl h0_11 (Int.le_refl _) h0_12) ?_
  rintro v0_1 w hm
  rw [h0_1e] at hm
  have h0_1l : (ys0_1.length : Int) = (a_.length : Int) := by rw [← h0_1e]; simp only [List.length_replicate]; omega
  refine gA rfl (gE (gS (gS (gR (gA rfl (gE ?_))))))
  obtain ⟨p0_2, c0_2, rfl, hl0_2⟩ := ro_slice (hm.ow_rep 0 rfl)
  refine gBk (gNf hm (fun i1_1 xs1_1 => [(0, (.slice p0_1 a_.length c0_1)), (3, (.slice p0_2 ys0_1.length c0_2)), (4, (nV i1_1))]) (fun i1_1 xs1_1 => [ow [(.slice p0_2 ys0_1.length c0_2)] xs1_1]) [0] rfl ?_ ?_)
  ·
   repeat clear hm
   intro _ _ i1_1 xs1_1 w hm hi0_1 hi0_2 q0_1 _
   refine gS (gS (gR (gM rfl (gM rfl (gY (yV st_37 rfl) (gB rfl (gE (go _ 11 rfl (decide_eq_true (by omega)) (gct rfl (gSk (gS (gBk (gR (gM rfl (gM rfl (gM rfl (gM rfl (gg fun x1_1 h1_1 hx1_2 => ?_))))))))))))))))))
   obtain ⟨b1_1, o1_1, c1_1, he⟩ := idx_form h1 hx1_2
   simp only [Value.slice.injEq, Option.some.injEq] at he; obtain ⟨rfl, _, rfl⟩ := he
   refine gI st_37 h1_1 (idx_lt hx1_2) rfl (gY (yl isAgg3 ((flat_cells (cs := [(nV x1_1)]) (hm.now h1) hx1_2 rfl).cell (j := 0) rfl) rfl) (gg fun x1_2 h1_2 hx1_4 => ?_))
   obtain ⟨b1_2, o1_2, c1_2, he⟩ := idx_form (hm.ow_rep 0 rfl) hx1_4
   simp only [Value.slice.injEq, Option.some.injEq] at he; obtain ⟨rfl, _, rfl⟩ := he
   have hL1_1 := rep_slice_len (hm.ow_rep 0 rfl)
   refine gI st_37 h1_2 (idx_lt2 hx1_4 hL1_1) rfl (gf0 rfl (fun a hf => e_setElem (x1 := x1_1) (j := 0) (vs := [(nV x1_1)]) 0 hf hm rfl hx1_4 rfl sizeOf3 rfl rfl rfl (one_cons rfl one_nil) rfl rfl) ?_)
   rintro _ w hm
   have hx1_5 := List.getElem?_set_self (a := x1_1) (idx_lt hx1_4)
   exact gE (gR (gM rfl (gP (by omega) (by omega) rfl (gA rfl (gE (gze hm [0] rfl))))))
  repeat clear hm
  intro i0_1 xs0_1 w hm hi0_3 hi0_4
  exact gS (gS (gR (gM rfl (gM rfl (gY (yV st_37 rfl) (gB rfl (gE (go _ 11 rfl (decide_eq_false (by omega)) (gcf rfl (gXt (gHh (gS (gR (gM rfl (gA rfl (gE (gRt (gr1 results24 rfl ⟨(.slice p0_2 ys0_1.length c0_2), rfl, hm.pk [0] rfl rfl⟩))))))))))))))))))

theorem laws_toPhi_ok (w0 : World) (a_ : Phi_) (v1 : Value) (h1 : GT.rep (hp w0) [v1] a_.args) :
    ConM Tryz.prog 303 [(.agg #[(nV a_.to), v1])] w0 (laws_toPhi a_) fun r v w' => ∃ (x1 : Value), v = (.agg #[(nV r.to), x1]) ∧ Mem w0 (hp w0) w' [ow [x1] r.args] := by
  unfold laws_toPhi
  refine gcon func303 rfl fun r => ?_
  have hm := Mem.start w0
  refine gS (gR (gBx hm rfl fun b0_1 w hm => gAl hm zeroValue143 rfl fun b0_2 w hm => gE (gS (gR (gAl hm zeroValue143 rfl fun b0_3 w hm => gE (gS (gR (gF fo_268_0 rfl (gL hm 2 isAgg3 rfl (gF fo_143_0 rfl (gS1 hm 0 sizeOf3 rfl rfl fun w hm => gE (gS (gR (gF fo_268_1 rfl (gL hm 2 isAgg37 rfl (gCg rfl call24 (laws_toIntS_ok _ a_.args v1 (hm.now h1)) ?_))))))))))))))))
  rintro r0_1 hx0_1 v0_1 w ⟨_, rfl, hB⟩
  replace hm := hm.give hB; clear hB
  exact gF fo_143_1 rfl (gS1 hm 1 sizeOf37 (rep_one (hm.ow_rep 0 rfl)) rfl fun w hm => gE (gS (gR (gY (yn (hm.blk_at 1 rfl) isAgg143 sizeOf143 rfl) (gSN hm 2 sizeOf143 (one_cons rfl (one_cons (rep_one (hm.ow_rep 0 rfl)) one_nil)) rfl fun w hm => gE (gRt (grc 2 results303 hm rfl isAgg143 sizeOf143 ⟨v0_1, rfl, hm.pk [0] rfl rfl⟩)))))))

theorem laws_toPhiS_ok (w0 : World) (a_ : List Phi_) (v1 : Value) (h1 : GT.rep (hp w0) [v1] a_) :
    ConM Tryz.prog 269 [v1] w0 (laws_toPhiS a_) fun r v w' => ∃ (x1 : Value), v = x1 ∧ Mem w0 (hp w0) w' [ow [x1] r] := by
  unfold laws_toPhiS
  refine gcon func269 rfl fun r => ?_
  have hm := Mem.start w0
  refine gS (gR (gA rfl (gE (gS (gR (gM rfl ?_))))))
  obtain ⟨p0_1, c0_1, rfl, hl0_1⟩ := ro_slice h1
  refine gY (yV st_193 rfl) (gb fun ys0_1 hx0_1 => ?_)
  obtain ⟨⟨h0_11, h0_12⟩, h0_1e⟩ := makeM_some.1 hx0_1
  refine gf rfl (fun a hf => e_make (x0 := ((⟨0, []⟩ : Phi_) : Phi_)) et_101 (fun _ => ⟨[(nV 0)], [(.slice none 0 0)], rfl, fun _ => False, fun _ => False, fun _ h => h.elim, fun _ h => h.elim, fun _ h => h.elim, (Flat.own_iff.2 rfl), (own_list.2 (.inl ⟨rfl, rfl⟩))⟩) hf hm rfl rfl rfl h0_11 (Int.le_refl _) h0_12) ?_
  rintro v0_1 w hm
  rw [h0_1e] at hm
  have h0_1l : (ys0_1.length : Int) = (a_.length : Int) := by rw [← h0_1e]; simp only [List.length_replicate]; omega
  refine gA rfl (gE (gS (gS (gR (gA rfl (gE ?_))))))
  obtain ⟨p0_2, c0_2, rfl, hl0_2⟩ := ro_slice (hm.ow_rep 0 rfl)
  refine gBk (gNf hm (fun i1_1 xs1_1 => [(0, (.slice p0_1 a_.length c0_1)), (3, (.slice p0_2 ys0_1.length c0_2)), (4, (nV i1_1))]) (fun i1_1 xs1_1 => [ow [(.slice p0_2 ys0_1.length c0_2)] xs1_1]) [0] rfl ?_ ?_)
  ·
   repeat clear hm
   intro _ _ i1_1 xs1_1 w hm hi0_1 hi0_2 q0_1 _
   refine gS (gS (gR (gM rfl (gM rfl (gY (yV st_193 rfl) (gB rfl (gE (go _ 11 rfl (decide_eq_true (by omega)) (gct rfl (gSk (gS (gBk (gR (gM rfl (gM rfl (gM rfl (gM rfl (gg fun x1_1 h1_1 hx1_2 => ?_))))))))))))))))))
   obtain ⟨b1_1, o1_1, c1_1, he⟩ := idx_form' h1 hx1_2
   simp only [Value.slice.injEq, Option.some.injEq] at he; obtain ⟨rfl, _, rfl⟩ := he
   obtain ⟨v1_1, hc1_1, h1_2⟩ := rk_Phi_ h1 hx1_2
   refine gI st_193 h1_1 (idx_lt hx1_2) rfl (gY (yn (hc1_1.mono hm.lez) isAgg268 sizeOf268 rfl) (gCg rfl call303 (laws_toPhi_ok _ x1_1 v1_1 (hm.now h1_2)) ?_))
   rintro r1_1 hx1_3 v1_2 w ⟨v1_3, rfl, hB⟩
   replace hm := hm.give hB; clear hB
   refine gg fun x1_2 h1_3 hx1_5 => ?_
   obtain ⟨b1_2, o1_2, c1_2, he⟩ := idx_form' (hm.ow_rep 1 rfl) hx1_5
   simp only [Value.slice.injEq, Option.some.injEq] at he; obtain ⟨rfl, _, rfl⟩ := he
   obtain ⟨v1_4, hc1_2, h1_4⟩ := rk_Phi_ (hm.ow_rep 1 rfl) hx1_5
   have hL1_1 := rep_slice_len (hm.ow_rep 1 rfl)
   refine gI st_101 h1_3 (idx_lt2 hx1_5 hL1_1) rfl ?_
   replace hm : Mem w0 (hp w0) _ [ow [(nV r1_1.to), v1_3] (r1_1 : Phi_), ow [(sV b1_2 o1_2 ys0_1.length c0_2)] xs1_1] := mk_Phi_ r1_1.to hm 0 rfl
   replace hm := (hm.both 1 0 (by decide) rfl rfl).pk (L' := [both (ow [(sV b1_2 o1_2 ys0_1.length c0_2)] xs1_1) (ow [(nV r1_1.to), v1_3] (r1_1 : Phi_))]) [1] rfl rfl
   refine gf0 rfl (fun a hf => e_putElem (x1 := (r1_1 : Phi_)) (vs := [(nV r1_1.to), v1_3]) 0 hf hm rfl hx1_5 rfl sizeOf143 rfl rfl rfl rfl) ?_
   rintro _ w hm
   have hx1_6 := List.getElem?_set_self (a := (r1_1 : Phi_)) (idx_lt hx1_5)
   exact gE (gR (gM rfl (gP (by omega) (by omega) rfl (gA rfl (gE (gze hm [0] rfl))))))
  repeat clear hm
  intro i0_1 xs0_1 w hm hi0_3 hi0_4
  exact gS (gS (gR (gM rfl (gM rfl (gY (yV st_193 rfl) (gB rfl (gE (go _ 11 rfl (decide_eq_false (by omega)) (gcf rfl (gXt (gHh (gS (gR (gM rfl (gA rfl (gE (gRt (gr1 results269 rfl ⟨(.slice p0_2 ys0_1.length c0_2), rfl, hm.pk [0] rfl rfl⟩))))))))))))))))))

theorem laws_toIns_ok (w0 : World) (a_ : Ins_) (v1 : Value) (h1 : GT.rep (hp w0) [v1] a_.args) :
    ConM Tryz.prog 304 [(.agg #[(nV a_.op), (nV a_.to), v1, (nV a_.n_)])] w0 (laws_toIns a_) fun r v w' => ∃ (x1 : Value), v = (.agg #[(nV r.op), (nV r.to), x1, (nV r.n_)]) ∧ Mem w0 (hp w0) w' [ow [x1] r.args] := by
  unfold laws_toIns
  refine gcon func304 rfl fun r => ?_
  have hm := Mem.start w0
  refine gS (gR (gBx hm rfl fun b0_1 w hm => gAl hm zeroValue106 rfl fun b0_2 w hm => gE (gS (gR (gAl hm zeroValue106 rfl fun b0_3 w hm => gE (gS (gR (gF fo_270_0 rfl (gL hm 2 isAgg3 rfl (gF fo_106_0 rfl (gS1 hm 0 sizeOf3 rfl rfl fun w hm => gE (gS (gR (gF fo_270_1 rfl (gL hm 2 isAgg3 rfl (gF fo_106_1 rfl (gS1 hm 0 sizeOf3 rfl rfl fun w hm => gE (gS (gR (gF fo_270_2 rfl (gL hm 2 isAgg37 rfl (gCg rfl call24 (laws_toIntS_ok _ a_.args v1 (hm.now h1)) ?_))))))))))))))))))))))
  rintro r0_1 hx0_1 v0_1 w ⟨_, rfl, hB⟩
  replace hm := hm.give hB; clear hB
  exact gF fo_106_2 rfl (gS1 hm 1 sizeOf37 (rep_one (hm.ow_rep 0 rfl)) rfl fun w hm => gE (gS (gR (gF fo_270_3 rfl (gL hm 3 isAgg3 rfl (gF fo_106_3 rfl (gS1 hm 1 sizeOf3 rfl rfl fun w hm => gE (gS (gR (gY (yn (hm.blk_at 1 rfl) isAgg106 sizeOf106 rfl) (gSN hm 2 sizeOf106 (one_cons rfl (one_cons rfl (one_cons (rep_one (hm.ow_rep 0 rfl)) (one_cons rfl one_nil)))) rfl fun w hm => gE (gRt (grc 2 results304 hm rfl isAgg106 sizeOf106 ⟨v0_1, rfl, hm.pk [0] rfl rfl⟩)))))))))))))

theorem laws_toInsS_ok (w0 : World) (a_ : List Ins_) (v1 : Value) (h1 : GT.rep (hp w0) [v1] a_) :
    ConM Tryz.prog 270 [v1] w0 (laws_toInsS a_) fun r v w' => ∃ (x1 : Value), v = x1 ∧ Mem w0 (hp w0) w' [ow [x1] r] := by
  unfold laws_toInsS
  refine gcon func270 rfl fun r => ?_
  have hm := Mem.start w0
  refine gS (gR (gA rfl (gE (gS (gR (gM rfl ?_))))))
  obtain ⟨p0_1, c0_1, rfl, hl0_1⟩ := ro_slice h1
  refine gY (yV st_194 rfl) (gb fun ys0_1 hx0_1 => ?_)
  obtain ⟨⟨h0_11, h0_12⟩, h0_1e⟩ := makeM_some.1 hx0_1
  refine gf rfl (fun a hf => e_make (x0 := ((⟨0, 0, [], 0⟩ : Ins_) : Ins_)) et_102 (fun _ => ⟨[(nV 0)], [(nV 0), (.slice none 0 0), (nV 0)], rfl, fun _ => False, fun _ => False, fun _ h => h.elim, fun _ h => h.elim, fun _ h => h.elim, (Flat.own_iff.2 rfl), ⟨[(nV 0)], [(.slice none 0 0), (nV 0)], rfl, fun _ => False, fun _ => False, fun _ h => h.elim, fun _ h => h.elim, fun _ h => h.elim, (Flat.own_iff.2 rfl), ⟨[(.slice none 0 0)], [(nV 0)], rfl, fun _ => False, fun _ => False, fun _ h => h.elim, fun _ h => h.elim, fun _ h => h.elim, (own_list.2 (.inl ⟨rfl, rfl⟩)), (Flat.own_iff.2 rfl)⟩⟩⟩) hf hm rfl rfl rfl h0_11 (Int.le_refl _) h0_12) ?_
  rintro v0_1 w hm
  rw [h0_1e] at hm
  have h0_1l : (ys0_1.length : Int) = (a_.length : Int) := by rw [← h0_1e]; simp only [List.length_replicate]; omega
  refine gA rfl (gE (gS (gS (gR (gA rfl (gE ?_))))))
  obtain ⟨p0_2, c0_2, rfl, hl0_2⟩ := ro_slice (hm.ow_rep 0 rfl)
  refine gBk (gNf hm (fun i1_1 xs1_1 => [(0, (.slice p0_1 a_.length c0_1)), (3, (.slice p0_2 ys0_1.length c0_2)), (4, (nV i1_1))]) (fun i1_1 xs1_1 => [ow [(.slice p0_2 ys0_1.length c0_2)] xs1_1]) [0] rfl ?_ ?_)
  ·
   repeat clear hm
   intro _ _ i1_1 xs1_1 w hm hi0_1 hi0_2 q0_1 _
   refine gS (gS (gR (gM rfl (gM rfl (gY (yV st_194 rfl) (gB rfl (gE (go _ 11 rfl (decide_eq_true (by omega)) (gct rfl (gSk (gS (gBk (gR (gM rfl (gM rfl (gM rfl (gM rfl (gg fun x1_1 h1_1 hx1_2 => ?_))))))))))))))))))
   obtain ⟨b1_1, o1_1, c1_1, he⟩ := idx_form' h1 hx1_2
   simp only [Value.slice.injEq, Option.some.injEq] at he; obtain ⟨rfl, _, rfl⟩ := he
   obtain ⟨v1_1, hc1_1, h1_2⟩ := rk_Ins_ h1 hx1_2
   refine gI st_194 h1_1 (idx_lt hx1_2) rfl (gY (yn (hc1_1.mono hm.lez) isAgg270 sizeOf270 rfl) (gCg rfl call304 (laws_toIns_ok _ x1_1 v1_1 (hm.now h1_2)) ?_))
   rintro r1_1 hx1_3 v1_2 w ⟨v1_3, rfl, hB⟩
   replace hm := hm.give hB; clear hB
   refine gg fun x1_2 h1_3 hx1_5 => ?_
   obtain ⟨b1_2, o1_2, c1_2, he⟩ := idx_form' (hm.ow_rep 1 rfl) hx1_5
   simp only [Value.slice.injEq, Option.some.injEq] at he; obtain ⟨rfl, _, rfl⟩ := he
   obtain ⟨v1_4, hc1_2, h1_4⟩ := rk_Ins_ (hm.ow_rep 1 rfl) hx1_5
   have hL1_1 := rep_slice_len (hm.ow_rep 1 rfl)
   refine gI st_102 h1_3 (idx_lt2 hx1_5 hL1_1) rfl ?_
   replace hm : Mem w0 (hp w0) _ [ow [(nV r1_1.op), (nV r1_1.to), v1_3, (nV r1_1.n_)] (r1_1 : Ins_), ow [(sV b1_2 o1_2 ys0_1.length c0_2)] xs1_1] := mk_Ins_ r1_1.op r1_1.to r1_1.n_ hm 0 rfl
   replace hm := (hm.both 1 0 (by decide) rfl rfl).pk (L' := [both (ow [(sV b1_2 o1_2 ys0_1.length c0_2)] xs1_1) (ow [(nV r1_1.op), (nV r1_1.to), v1_3, (nV r1_1.n_)] (r1_1 : Ins_))]) [1] rfl rfl
   refine gf0 rfl (fun a hf => e_putElem (x1 := (r1_1 : Ins_)) (vs := [(nV r1_1.op), (nV r1_1.to), v1_3, (nV r1_1.n_)]) 0 hf hm rfl hx1_5 rfl sizeOf106 rfl rfl rfl rfl) ?_
   rintro _ w hm
   have hx1_6 := List.getElem?_set_self (a := (r1_1 : Ins_)) (idx_lt hx1_5)
   exact gE (gR (gM rfl (gP (by omega) (by omega) rfl (gA rfl (gE (gze hm [0] rfl))))))
  repeat clear hm
  intro i0_1 xs0_1 w hm hi0_3 hi0_4
  exact gS (gS (gR (gM rfl (gM rfl (gY (yV st_194 rfl) (gB rfl (gE (go _ 11 rfl (decide_eq_false (by omega)) (gcf rfl (gXt (gHh (gS (gR (gM rfl (gA rfl (gE (gRt (gr1 results270 rfl ⟨(.slice p0_2 ys0_1.length c0_2), rfl, hm.pk [0] rfl rfl⟩))))))))))))))))))

theorem laws_toBlock_ok (w0 : World) (a_ : Block_) (v1 : Value) (h1 : GT.rep (hp w0) [v1] a_.phis) (v2 : Value) (h2 : GT.rep (hp w0) [v2] a_.ins) (v3 : Value) (h3 : GT.rep (hp w0) [v3] a_.next_) :
    ConM Tryz.prog 207 [(.agg #[v1, v2, (nV a_.jump), (nV a_.on), v3])] w0 (laws_toBlock a_) fun r v w' => ∃ (x1 : Value) (x2 : Value) (x3 : Value), v = (.agg #[x1, x2, (nV r.jump), (nV r.on), x3]) ∧ Mem w0 (hp w0) w' [ow [x1] r.phis, ow [x2] r.ins, ow [x3] r.next_] := by
  unfold laws_toBlock
  refine gcon func207 rfl fun r => ?_
  have hm := Mem.start w0
  refine gS (gR (gBx hm rfl fun b0_1 w hm => gAl hm zeroValue104 rfl fun b0_2 w hm => gE (gS (gR (gAl hm zeroValue104 rfl fun b0_3 w hm => gE (gS (gR (gF fo_196_0 rfl (gL hm 2 isAgg193 rfl (gCg rfl call269 (laws_toPhiS_ok _ a_.phis v1 (hm.now h1)) ?_))))))))))
  rintro r0_1 hx0_1 v0_1 w ⟨_, rfl, hB⟩
  replace hm := hm.give hB; clear hB
  refine gF fo_104_0 rfl (gS1 hm 1 sizeOf101 (rep_one (hm.ow_rep 0 rfl)) rfl fun w hm => gE (gS (gR (gF fo_196_1 rfl (gL hm 3 isAgg194 rfl (gCg rfl call270 (laws_toInsS_ok _ a_.ins v2 (hm.now h2)) ?_))))))
  rintro r0_2 hx0_2 v0_3 w ⟨_, rfl, hB⟩
  replace hm := hm.give hB; clear hB
  refine gF fo_104_1 rfl (gS1 hm 2 sizeOf102 (rep_one (hm.ow_rep 0 rfl)) rfl fun w hm => gE (gS (gR (gF fo_196_2 rfl (gL hm 4 isAgg3 rfl (gF fo_104_2 rfl (gS1 hm 2 sizeOf3 rfl rfl fun w hm => gE (gS (gR (gF fo_196_3 rfl (gL hm 4 isAgg3 rfl (gF fo_104_3 rfl (gS1 hm 2 sizeOf3 rfl rfl fun w hm => gE (gS (gR (gF fo_196_4 rfl (gL hm 4 isAgg37 rfl (gCg rfl call24 (laws_toIntS_ok _ a_.next_ v3 (hm.now h3)) ?_))))))))))))))))))
  rintro r0_3 hx0_3 v0_5 w ⟨_, rfl, hB⟩
  replace hm := hm.give hB; clear hB
  exact gF fo_104_4 rfl (gS1 hm 3 sizeOf37 (rep_one (hm.ow_rep 0 rfl)) rfl fun w hm => gE (gS (gR (gY (yn (hm.blk_at 3 rfl) isAgg104 sizeOf104 rfl) (gSN hm 4 sizeOf104 (one_cons (rep_one (hm.ow_rep 2 rfl)) (one_cons (rep_one (hm.ow_rep 1 rfl)) (one_cons rfl (one_cons rfl (one_cons (rep_one (hm.ow_rep 0 rfl)) one_nil))))) rfl fun w hm => gE (gRt (grc 4 results207 hm rfl isAgg104 sizeOf104 ⟨v0_1, v0_3, v0_5, rfl, hm.pk [2, 1, 0] rfl rfl⟩)))))))

theorem laws_toBlockS_ok (w0 : World) (a_ : List Block_) (v1 : Value) (h1 : GT.rep (hp w0) [v1] a_) :
    ConM Tryz.prog 139 [v1] w0 (laws_toBlockS a_) fun r v w' => ∃ (x1 : Value), v = x1 ∧ Mem w0 (hp w0) w' [ow [x1] r] := by
  unfold laws_toBlockS
  refine gcon func139 rfl fun r => ?_
  have hm := Mem.start w0
  refine gS (gR (gA rfl (gE (gS (gR (gM rfl ?_))))))
  obtain ⟨p0_1, c0_1, rfl, hl0_1⟩ := ro_slice h1
  refine gY (yV st_95 rfl) (gb fun ys0_1 hx0_1 => ?_)
  obtain ⟨⟨h0_11, h0_12⟩, h0_1e⟩ := makeM_some.1 hx0_1
  refine gf rfl (fun a hf => e_make (x0 := ((⟨[], [], 0, 0, []⟩ : Block_) : Block_)) et_55 (fun _ => ⟨[(.slice none 0 0)], [(.slice none 0 0), (nV 0), (nV 0), (.slice none 0 0)], rfl, fun _ => False, fun _ => False, fun _ h => h.elim, fun _ h => h.elim, fun _ h => h.elim, (own_list.2 (.inl ⟨rfl, rfl⟩)), ⟨[(.slice none 0 0)], [(nV 0), (nV 0), (.slice none 0 0)], rfl, fun _ => False, fun _ => False, fun _ h => h.elim, fun _ h => h.elim, fun _ h => h.elim, (own_list.2 (.inl ⟨rfl, rfl⟩)), ⟨[(nV 0)], [(nV 0), (.slice none 0 0)], rfl, fun _ => False, fun _ => False, fun _ h => h.elim, fun _ h => h.elim, fun _ h => h.elim, (Flat.own_iff.2 rfl), ⟨[(nV 0)], [(.slice none 0 0)], rfl, fun _ => False, fun _ => False, fun _ h => h.elim, fun _ h => h.elim, fun _ h => h.elim, (Flat.own_iff.2 rfl), (own_list.2 (.inl ⟨rfl, rfl⟩))⟩⟩⟩⟩) hf hm rfl rfl rfl h0_11 (Int.le_refl _) h0_12) ?_
  rintro v0_1 w hm
  rw [h0_1e] at hm
  have h0_1l : (ys0_1.length : Int) = (a_.length : Int) := by rw [← h0_1e]; simp only [List.length_replicate]; omega
  refine gA rfl (gE (gS (gS (gR (gA rfl (gE ?_))))))
  obtain ⟨p0_2, c0_2, rfl, hl0_2⟩ := ro_slice (hm.ow_rep 0 rfl)
  refine gBk (gNf hm (fun i1_1 xs1_1 => [(0, (.slice p0_1 a_.length c0_1)), (3, (.slice p0_2 ys0_1.length c0_2)), (4, (nV i1_1))]) (fun i1_1 xs1_1 => [ow [(.slice p0_2 ys0_1.length c0_2)] xs1_1]) [0] rfl ?_ ?_)
  ·
   repeat clear hm
   intro _ _ i1_1 xs1_1 w hm hi0_1 hi0_2 q0_1 _
   refine gS (gS (gR (gM rfl (gM rfl (gY (yV st_95 rfl) (gB rfl (gE (go _ 11 rfl (decide_eq_true (by omega)) (gct rfl (gSk (gS (gBk (gR (gM rfl (gM rfl (gM rfl (gM rfl (gg fun x1_1 h1_1 hx1_2 => ?_))))))))))))))))))
   obtain ⟨b1_1, o1_1, c1_1, he⟩ := idx_form' h1 hx1_2
   simp only [Value.slice.injEq, Option.some.injEq] at he; obtain ⟨rfl, _, rfl⟩ := he
   obtain ⟨v1_1, v1_2, v1_3, hc1_1, h1_2, h1_3, h1_4⟩ := rk_Block_ h1 hx1_2
   refine gI st_95 h1_1 (idx_lt hx1_2) rfl (gY (yn (hc1_1.mono hm.lez) isAgg196 sizeOf196 rfl) (gCg rfl call207 (laws_toBlock_ok _ x1_1 v1_1 (hm.now h1_2) v1_2 (hm.now h1_3) v1_3 (hm.now h1_4)) ?_))
   rintro r1_1 hx1_3 v1_4 w ⟨v1_5, v1_6, v1_7, rfl, hB⟩
   replace hm := hm.give hB; clear hB
   refine gg fun x1_2 h1_5 hx1_5 => ?_
   obtain ⟨b1_2, o1_2, c1_2, he⟩ := idx_form' (hm.ow_rep 3 rfl) hx1_5
   simp only [Value.slice.injEq, Option.some.injEq] at he; obtain ⟨rfl, _, rfl⟩ := he
   obtain ⟨v1_8, v1_9, v1_10, hc1_2, h1_6, h1_7, h1_8⟩ := rk_Block_ (hm.ow_rep 3 rfl) hx1_5
   have hL1_1 := rep_slice_len (hm.ow_rep 3 rfl)
   refine gI st_55 h1_5 (idx_lt2 hx1_5 hL1_1) rfl ?_
   replace hm := (mk_Block_ r1_1.jump r1_1.on hm 0 1 2 rfl).pk (L' := [ow [v1_5, v1_6, (nV r1_1.jump), (nV r1_1.on), v1_7] (r1_1 : Block_), ow [(sV b1_2 o1_2 ys0_1.length c0_2)] xs1_1]) [0, 3] rfl rfl
   replace hm := (hm.both 1 0 (by decide) rfl rfl).pk (L' := [both (ow [(sV b1_2 o1_2 ys0_1.length c0_2)] xs1_1) (ow [v1_5, v1_6, (nV r1_1.jump), (nV r1_1.on), v1_7] (r1_1 : Block_))]) [1] rfl rfl
   refine gf0 rfl (fun a hf => e_putElem (x1 := (r1_1 : Block_)) (vs := [v1_5, v1_6, (nV r1_1.jump), (nV r1_1.on), v1_7]) 0 hf hm rfl hx1_5 rfl sizeOf104 rfl rfl rfl rfl) ?_
   rintro _ w hm
   have hx1_6 := List.getElem?_set_self (a := (r1_1 : Block_)) (idx_lt hx1_5)
   exact gE (gR (gM rfl (gP (by omega) (by omega) rfl (gA rfl (gE (gze hm [0] rfl))))))
  repeat clear hm
  intro i0_1 xs0_1 w hm hi0_3 hi0_4
  exact gS (gS (gR (gM rfl (gM rfl (gY (yV st_95 rfl) (gB rfl (gE (go _ 11 rfl (decide_eq_false (by omega)) (gcf rfl (gXt (gHh (gS (gR (gM rfl (gA rfl (gE (gRt (gr1 results139 rfl ⟨(.slice p0_2 ys0_1.length c0_2), rfl, hm.pk [0] rfl rfl⟩))))))))))))))))))

theorem laws_toCode_ok (w0 : World) (a_ : Code_) (v1 : Value) (h1 : GT.rep (hp w0) [v1] a_.blocks) :
    ConM Tryz.prog 93 [(.agg #[(nV a_.params), (nV a_.regs), v1])] w0 (laws_toCode a_) fun r v w' => ∃ (x1 : Value), v = (.agg #[(nV r.params), (nV r.regs), x1]) ∧ Mem w0 (hp w0) w' [ow [x1] r.blocks] := by
  unfold laws_toCode
  refine gcon func93 rfl fun r => ?_
  have hm := Mem.start w0
  refine gS (gR (gBx hm rfl fun b0_1 w hm => gAl hm zeroValue57 rfl fun b0_2 w hm => gE (gS (gR (gAl hm zeroValue57 rfl fun b0_3 w hm => gE (gS (gR (gF fo_97_0 rfl (gL hm 2 isAgg3 rfl (gF fo_57_0 rfl (gS1 hm 0 sizeOf3 rfl rfl fun w hm => gE (gS (gR (gF fo_97_1 rfl (gL hm 2 isAgg3 rfl (gF fo_57_1 rfl (gS1 hm 0 sizeOf3 rfl rfl fun w hm => gE (gS (gR (gF fo_97_2 rfl (gL hm 2 isAgg95 rfl (gCg rfl call139 (laws_toBlockS_ok _ a_.blocks v1 (hm.now h1)) ?_))))))))))))))))))))))
  rintro r0_1 hx0_1 v0_1 w ⟨_, rfl, hB⟩
  replace hm := hm.give hB; clear hB
  exact gF fo_57_2 rfl (gS1 hm 1 sizeOf55 (rep_one (hm.ow_rep 0 rfl)) rfl fun w hm => gE (gS (gR (gY (yn (hm.blk_at 1 rfl) isAgg57 sizeOf57 rfl) (gSN hm 2 sizeOf57 (one_cons rfl (one_cons rfl (one_cons (rep_one (hm.ow_rep 0 rfl)) one_nil))) rfl fun w hm => gE (gRt (grc 2 results93 hm rfl isAgg57 sizeOf57 ⟨v0_1, rfl, hm.pk [0] rfl rfl⟩)))))))

theorem laws_toCodeS_ok (w0 : World) (a_ : List Code_) (v1 : Value) (h1 : GT.rep (hp w0) [v1] a_) :
    ConM Tryz.prog 51 [v1] w0 (laws_toCodeS a_) fun r v w' => ∃ (x1 : Value), v = x1 ∧ Mem w0 (hp w0) w' [ow [x1] r] := by
  unfold laws_toCodeS
  refine gcon func51 rfl fun r => ?_
  have hm := Mem.start w0
  refine gS (gR (gA rfl (gE (gS (gR (gM rfl ?_))))))
  obtain ⟨p0_1, c0_1, rfl, hl0_1⟩ := ro_slice h1
  refine gY (yV st_22 rfl) (gb fun ys0_1 hx0_1 => ?_)
  obtain ⟨⟨h0_11, h0_12⟩, h0_1e⟩ := makeM_some.1 hx0_1
  refine gf rfl (fun a hf => e_make (x0 := ((⟨0, 0, []⟩ : Code_) : Code_)) et_28 (fun _ => ⟨[(nV 0)], [(nV 0), (.slice none 0 0)], rfl, fun _ => False, fun _ => False, fun _ h => h.elim, fun _ h => h.elim, fun _ h => h.elim, (Flat.own_iff.2 rfl), ⟨[(nV 0)], [(.slice none 0 0)], rfl, fun _ => False, fun _ => False, fun _ h => h.elim, fun _ h => h.elim, fun _ h => h.elim, (Flat.own_iff.2 rfl), (own_list.2 (.inl ⟨rfl, rfl⟩))⟩⟩) hf hm rfl rfl rfl h0_11 (Int.le_refl _) h0_12) ?_
  rintro v0_1 w hm
  rw [h0_1e] at hm
  have h0_1l : (ys0_1.length : Int) = (a_.length : Int) := by rw [← h0_1e]; simp only [List.length_replicate]; omega
  refine gA rfl (gE (gS (gS (gR (gA rfl (gE ?_))))))
  obtain ⟨p0_2, c0_2, rfl, hl0_2⟩ := ro_slice (hm.ow_rep 0 rfl)
  refine gBk (gNf hm (fun i1_1 xs1_1 => [(0, (.slice p0_1 a_.length c0_1)), (3, (.slice p0_2 ys0_1.length c0_2)), (4, (nV i1_1))]) (fun i1_1 xs1_1 => [ow [(.slice p0_2 ys0_1.length c0_2)] xs1_1]) [0] rfl ?_ ?_)
  ·
   repeat clear hm
   intro _ _ i1_1 xs1_1 w hm hi0_1 hi0_2 q0_1 _
   refine gS (gS (gR (gM rfl (gM rfl (gY (yV st_22 rfl) (gB rfl (gE (go _ 11 rfl (decide_eq_true (by omega)) (gct rfl (gSk (gS (gBk (gR (gM rfl (gM rfl (gM rfl (gM rfl (gg fun x1_1 h1_1 hx1_2 => ?_))))))))))))))))))
   obtain ⟨b1_1, o1_1, c1_1, he⟩ := idx_form' h1 hx1_2
   simp only [Value.slice.injEq, Option.some.injEq] at he; obtain ⟨rfl, _, rfl⟩ := he
   obtain ⟨v1_1, hc1_1, h1_2⟩ := rk_Code_ h1 hx1_2
   refine gI st_22 h1_1 (idx_lt hx1_2) rfl (gY (yn (hc1_1.mono hm.lez) isAgg97 sizeOf97 rfl) (gCg rfl call93 (laws_toCode_ok _ x1_1 v1_1 (hm.now h1_2)) ?_))
   rintro r1_1 hx1_3 v1_2 w ⟨v1_3, rfl, hB⟩
   replace hm := hm.give hB; clear hB
   refine gg fun x1_2 h1_3 hx1_5 => ?_
   obtain ⟨b1_2, o1_2, c1_2, he⟩ := idx_form' (hm.ow_rep 1 rfl) hx1_5
   simp only [Value.slice.injEq, Option.some.injEq] at he; obtain ⟨rfl, _, rfl⟩ := he
   obtain ⟨v1_4, hc1_2, h1_4⟩ := rk_Code_ (hm.ow_rep 1 rfl) hx1_5
   have hL1_1 := rep_slice_len (hm.ow_rep 1 rfl)
   refine gI st_28 h1_3 (idx_lt2 hx1_5 hL1_1) rfl ?_
   replace hm : Mem w0 (hp w0) _ [ow [(nV r1_1.params), (nV r1_1.regs), v1_3] (r1_1 : Code_), ow [(sV b1_2 o1_2 ys0_1.length c0_2)] xs1_1] := mk_Code_ r1_1.params r1_1.regs hm 0 rfl
   replace hm := (hm.both 1 0 (by decide) rfl rfl).pk (L' := [both (ow [(sV b1_2 o1_2 ys0_1.length c0_2)] xs1_1) (ow [(nV r1_1.params), (nV r1_1.regs), v1_3] (r1_1 : Code_))]) [1] rfl rfl
   refine gf0 rfl (fun a hf => e_putElem (x1 := (r1_1 : Code_)) (vs := [(nV r1_1.params), (nV r1_1.regs), v1_3]) 0 hf hm rfl hx1_5 rfl sizeOf57 rfl rfl rfl rfl) ?_
   rintro _ w hm
   have hx1_6 := List.getElem?_set_self (a := (r1_1 : Code_)) (idx_lt hx1_5)
   exact gE (gR (gM rfl (gP (by omega) (by omega) rfl (gA rfl (gE (gze hm [0] rfl))))))
  repeat clear hm
  intro i0_1 xs0_1 w hm hi0_3 hi0_4
  exact gS (gS (gR (gM rfl (gM rfl (gY (yV st_22 rfl) (gB rfl (gE (go _ 11 rfl (decide_eq_false (by omega)) (gcf rfl (gXt (gHh (gS (gR (gM rfl (gA rfl (gE (gRt (gr1 results51 rfl ⟨(.slice p0_2 ys0_1.length c0_2), rfl, hm.pk [0] rfl rfl⟩))))))))))))))))))

theorem laws_toUnit_ok (w0 : World) (a_ : Unit_) (v1 : Value) (h1 : GT.rep (hp w0) [v1] a_.codes) :
    ConM Tryz.prog 16 [(.agg #[v1])] w0 (laws_toUnit a_) fun r v w' => ∃ (x1 : Value), v = (.agg #[x1]) ∧ Mem w0 (hp w0) w' [ow [x1] r.codes] := by
  unfold laws_toUnit
  refine gcon func16 rfl fun r => ?_
  have hm := Mem.start w0
  refine gS (gR (gBx hm rfl fun b0_1 w hm => gAl hm zeroValue30 rfl fun b0_2 w hm => gE (gS (gR (gAl hm zeroValue30 rfl fun b0_3 w hm => gE (gS (gR (gF fo_24_0 rfl (gL hm 2 isAgg22 rfl (gCg rfl call51 (laws_toCodeS_ok _ a_.codes v1 (hm.now h1)) ?_))))))))))
  rintro r0_1 hx0_1 v0_1 w ⟨_, rfl, hB⟩
  replace hm := hm.give hB; clear hB
  exact gF fo_30_0 rfl (gS1 hm 1 sizeOf28 (rep_one (hm.ow_rep 0 rfl)) rfl fun w hm => gE (gS (gR (gY (yn (hm.blk_at 1 rfl) isAgg30 sizeOf30 rfl) (gSN hm 2 sizeOf30 (one_cons (rep_one (hm.ow_rep 0 rfl)) one_nil) rfl fun w hm => gE (gRt (grc 2 results16 hm rfl isAgg30 sizeOf30 ⟨v0_1, rfl, hm.pk [0] rfl rfl⟩)))))))

theorem spec_l1In_ok (w0 : World) (n_ : Int) (low : Int) (high : Int) :
    ConM Tryz.prog 61 [(nV n_), (nV low), (nV high)] w0 (spec_l1In n_ low high) fun r v w' => v = (.bool (r)) ∧ Below w0.heap.size w0 w' := by
  unfold spec_l1In
  refine gcon func61 rfl fun r => ?_
  have hm := Mem.start w0
  refine gS (gR (gA rfl (gE (gS (gJ hm (fun s0_1 => [(6, (.bool (s0_1)))]) (fun s0_1 => []) (fun s0_1 => ?_) ?_)))))
  ·
   refine gR (gM rfl (gM rfl (gB rfl (gM rfl (gsd 10 rfl (fun h1_1 => ?_) fun h1_1 => ?_)))))
   ·
    exact gM rfl (gM rfl (gB rfl (gKt rfl (gA rfl (gE (gz hm [] rfl))))))
   exact gO rfl (gO rfl (gO rfl (gKf rfl (gA rfl (gE (gz hm [] rfl))))))
  repeat clear hm
  intro s0_1 w hm
  exact gRt (gr1 results61 rfl ⟨rfl, hm.below⟩)

theorem spec_l7Regs_ok (w0 : World) (c_ : Code_) (v1 : Value) (h1 : GT.rep (hp w0) [v1] c_.blocks) (list : List Int) (v2 : Value) (h2 : GT.rep (hp w0) [v2] list) :
    ConM Tryz.prog 154 [(.agg #[(nV c_.params), (nV c_.regs), v1]), v2] w0 (spec_l7Regs c_ list) fun r v w' => v = (.bool (r)) ∧ Below w0.heap.size w0 w' := by
  unfold spec_l7Regs
  refine gcon func154 rfl fun r => ?_
  have hm := Mem.start w0
  refine gS (gR (gBx hm rfl fun b0_1 w hm => gA rfl (gE (gS (gS (gR (gA rfl (gE (gBk (gNf hm (fun i1_1 xs1_1 => [(1, v2), (2, (pV b0_1)), (5, (nV i1_1))]) (fun i1_1 xs1_1 => [blk b0_1 [(nV c_.params), (nV c_.regs), v1] 57]) [0] rfl ?_ ?_))))))))))
  ·
   repeat clear hm
   intro r0_1 hq0_1 i1_1 xs1_1 w hm hi0_1 hi0_2 q0_1 ho0_1
   refine gS (gS (gR (gM rfl (gM rfl ?_))))
   obtain ⟨p1_1, c1_1, rfl, hl1_1⟩ := ro_slice h2
   refine gY (yV st_37 rfl) (gB rfl (gE (go _ 9 rfl (decide_eq_true (by omega)) (gct rfl (gSk (gS (gBk (gS (gW (.p 0 (.p 1 (.p 2 (.p 4 (.q 3 (.e 5 (.p 6 (.e 7 (.p 8 .fin) .nil)) .nil)))))) [5] [0, 1, 2, 4, 6, 8] hm [0] [blk b0_1 [(nV c_.params), (nV c_.regs), v1] 57] rfl mxo (by kernel_rfl) (fun _ _ _ h => h.2) fun w hm hS => tP rfl (fun w => yM rfl) (tP rfl (fun w => yM rfl) (gg fun x1_1 h1_1 hx1_2 => ?_)))))))))))
   obtain ⟨b1_1, o1_1, c1_2, he⟩ := idx_form h2 hx1_2
   simp only [Value.slice.injEq, Option.some.injEq] at he; obtain ⟨rfl, _, rfl⟩ := he
   refine tP rfl (fun w => yI st_37 h1_1 (idx_lt hx1_2) rfl) (tP rfl (fun w => yF fo_57_1 rfl) (tQ rfl hS (fun w hm => yl isAgg3 ((flat_cells (cs := [(nV x1_1)]) (hm.now h2) hx1_2 rfl).cell (j := 0) rfl) rfl) (tO (tY rfl (yL hm 0 isAgg3 rfl) (tAs hS (tP rfl (fun w => yB rfl) (tO (gb fun r1_1 hx1_3 => tf rfl rfl (fun a hf => e_call hf rfl call61 rfl (spec_l1In_ok _ x1_1 0 (w64 (c_.regs - 1)) _ hx1_3)) ?_))))))))
   rintro v1_1 w ⟨rfl, hB⟩
   replace hm := hm.below' hB; clear hB
   refine tAn rfl (tP rfl (fun w => yN rfl) (tE (gsn 20 rfl (fun h1_2 => ?_) fun h1_2 => ?_)))
   ·
    exact gct rfl (gS (gR (gA rfl (gE (gRt (gLr ho0_1 hq0_1 (gr1 results154 rfl ⟨rfl, hm.below⟩)))))))
   exact gcf rfl (gSk (gR (gM rfl (gP (by omega) (by omega) rfl (gA rfl (gE (gze hm [0] rfl)))))))
  repeat clear hm
  intro i0_1 xs0_1 w hm hi0_3 hi0_4
  refine gS (gS (gR (gM rfl (gM rfl ?_))))
  obtain ⟨p0_1, c0_1, rfl, hl0_1⟩ := ro_slice h2
  exact gY (yV st_37 rfl) (gB rfl (gE (go _ 9 rfl (decide_eq_false (by omega)) (gcf rfl (gXt (gHh (gS (gR (gA rfl (gE (gRt (gr1 results154 rfl ⟨rfl, hm.below⟩))))))))))))

theorem spec_l7Makes_ok (w0 : World) (op : Int) :
    ConM Tryz.prog 91 [(nV op)] w0 (spec_l7Makes op) fun r v w' => v = (.bool (r)) ∧ Below w0.heap.size w0 w' := by
  unfold spec_l7Makes
  refine gcon func91 rfl fun r => ?_
  have hm := Mem.start w0
  refine gS (gR (gA rfl (gE (gS (gJ hm (fun s0_1 => [(2, (.bool (s0_1)))]) (fun s0_1 => []) (fun s0_1 => ?_) ?_)))))
  ·
   refine gR (gM rfl (gC hm rfl call61 (spec_l1In_ok _ op 1 14) fun r1_1 hx1_1 w hm => gM rfl (gs 5 rfl (fun h1_1 => ?_) fun h1_1 => ?_)))
   ·
    refine gM rfl (gB rfl (gKt rfl (gM rfl (gsd 9 rfl (fun h1_2 => ?_) fun h1_2 => ?_))))
    ·
     exact gM rfl (gB rfl (gKt rfl (gA rfl (gE (gz hm [] rfl)))))
    exact gO rfl (gO rfl (gKf rfl (gA rfl (gE (gz hm [] rfl)))))
   exact gO rfl (gO rfl (gKf rfl (gM rfl (gO rfl (gO rfl (gKf rfl (gA rfl (gE (gz hm [] rfl)))))))))
  repeat clear hm
  intro s0_1 w hm
  exact gRt (gr1 results91 rfl ⟨rfl, hm.below⟩)

theorem spec_l7Args_ok (w0 : World) (op : Int) :
    ConM Tryz.prog 221 [(nV op)] w0 (spec_l7Args op) fun r v w' => v = (nV r) ∧ Below w0.heap.size w0 w' := by
  unfold spec_l7Args
  refine gcon func221 rfl fun r => ?_
  have hm := Mem.start w0
  refine gS (gR (gA rfl (gE (gS (gBk (gS (gR (gM rfl (gB rfl (gA rfl (gE (gsd 3 rfl (fun h0_1 => ?_) fun h0_1 => ?_))))))))))))
  ·
   exact gct rfl (gS (gR (gA rfl (gE (gRt (gr1 results221 rfl ⟨rfl, hm.below⟩))))))
  refine gcf rfl (gS (gJ hm (fun s0_1 => [(0, (nV op)), (6, (.bool (s0_1)))]) (fun s0_1 => []) (fun s0_1 => ?_) ?_))
  ·
   refine gR (gM rfl (gB rfl (gM rfl (gsd 9 rfl (fun h1_1 => ?_) fun h1_1 => ?_))))
   ·
    exact gO rfl (gO rfl (gKt rfl (gM rfl (gO rfl (gO rfl (gKt rfl (gM rfl (gO rfl (gO rfl (gKt rfl (gA rfl (gE (gz hm [] rfl)))))))))))))
   refine gM rfl (gB rfl (gKf rfl (gM rfl (gsd 13 rfl (fun h1_2 => ?_) fun h1_2 => ?_))))
   ·
    exact gO rfl (gO rfl (gKt rfl (gM rfl (gO rfl (gO rfl (gKt rfl (gA rfl (gE (gz hm [] rfl)))))))))
   refine gM rfl (gB rfl (gKf rfl (gM rfl (gsd 17 rfl (fun h1_3 => ?_) fun h1_3 => ?_))))
   ·
    exact gO rfl (gO rfl (gKt rfl (gA rfl (gE (gz hm [] rfl)))))
   exact gM rfl (gB rfl (gKf rfl (gA rfl (gE (gz hm [] rfl)))))
  repeat clear hm
  intro s0_1 w hm
  refine gs 6 rfl (fun h0_2 => ?_) fun h0_2 => ?_
  ·
   exact gct rfl (gS (gR (gA rfl (gE (gRt (gr1 results221 rfl ⟨rfl, hm.below⟩))))))
  refine gcf rfl (gS (gJ hm (fun s0_2 => [(21, (.bool (s0_2)))]) (fun s0_2 => []) (fun s0_2 => ?_) ?_))
  ·
   refine gR (gM rfl (gC hm rfl call61 (spec_l1In_ok _ op 3 9) fun r1_1 hx1_1 w hm => gM rfl (gs 24 rfl (fun h1_4 => ?_) fun h1_4 => ?_)))
   ·
    exact gO rfl (gO rfl (gKt rfl (gA rfl (gE (gz hm [] rfl)))))
   exact gM rfl (gB rfl (gKf rfl (gA rfl (gE (gz hm [] rfl)))))
  repeat clear hm
  intro s0_2 w hm
  refine gs 21 rfl (fun h0_3 => ?_) fun h0_3 => ?_
  ·
   exact gct rfl (gS (gR (gA rfl (gE (gRt (gr1 results221 rfl ⟨rfl, hm.below⟩))))))
  exact gcf rfl (gSk (gS (gR (gA rfl (gE (gRt (gr1 results221 rfl ⟨rfl, hm.below⟩)))))))

theorem spec_l7Ins_ok (w0 : World) (u : Unit_) (v1 : Value) (h1 : GT.rep (hp w0) [v1] u.codes) (k_ : Int) (x_ : Ins_) (v2 : Value) (h2 : GT.rep (hp w0) [v2] x_.args) :
    ConM Tryz.prog 152 [(.agg #[v1]), (nV k_), (.agg #[(nV x_.op), (nV x_.to), v2, (nV x_.n_)])] w0 (spec_l7Ins u k_ x_) fun r v w' => v = (.bool (r)) ∧ Below w0.heap.size w0 w' := by
  unfold spec_l7Ins
  refine gcon func152 rfl fun r => ?_
  have hm := Mem.start w0
  refine gS (gR (gBx hm rfl fun b0_1 w hm => gBx hm rfl fun b0_2 w hm => gA rfl (gE (gS (gR (gF fo_30_0 rfl (gL hm 1 isAgg28 rfl (gM rfl (gg fun x0_1 h0_1 hx0_2 => ?_)))))))))
  obtain ⟨b0_3, o0_1, c0_1, he⟩ := idx_form' h1 hx0_2
  subst he
  obtain ⟨v0_1, hc0_1, h0_2⟩ := rk_Code_ h1 hx0_2
  refine gI st_28 h0_1 (idx_lt hx0_2) rfl (gY (yn (hc0_1.mono hm.lez) isAgg57 sizeOf57 rfl) (gAl hm zeroValue57 rfl fun b0_4 w hm => gSN hm 0 sizeOf57 (one_cons rfl (one_cons rfl (one_cons (rep_one h0_2) one_nil))) rfl fun w hm => gE (gS (gS (gJ hm (fun s0_1 => [(1, (nV k_)), (3, (pV b0_1)), (5, (pV b0_2)), (7, (pV b0_4)), (23, (.bool (s0_1)))]) (fun s0_1 => [blk b0_1 [(sV b0_3 o0_1 u.codes.length c0_1)] 30, blk b0_2 [(nV x_.op), (nV x_.to), v2, (nV x_.n_)] 106, blk b0_4 [(nV x0_1.params), (nV x0_1.regs), v0_1] 57]) (fun s0_1 => ?_) ?_)))))
  ·
   refine gR (gF fo_106_0 rfl (gL hm 1 isAgg3 rfl (gC hm rfl call61 (spec_l1In_ok _ x_.op 1 14) fun r1_1 hx1_1 w hm => gN rfl (gM rfl (gsn 17 rfl (fun h1_1 => ?_) fun h1_1 => ?_)))))
   ·
    exact gO rfl (gO rfl (gO rfl (gO rfl (gO rfl (gKt rfl (gE (gz hm [2, 1, 0] rfl)))))))
   exact gY (yn (hm.blk_at 0 rfl) isAgg57 sizeOf57 rfl) (gF fo_106_2 rfl (gL hm 1 isAgg37 rfl (gC hm rfl call154 (spec_l7Regs_ok _ x0_1 v0_1 (hm.now h0_2) x_.args v2 (hm.now h2)) fun r1_2 hx1_2 w hm => gN rfl (gKf rfl (gE (gz hm [2, 1, 0] rfl))))))
  repeat clear hm
  intro s0_1 w hm
  refine gs 23 rfl (fun h0_3 => ?_) fun h0_3 => ?_
  ·
   exact gct rfl (gS (gR (gA rfl (gE (gRt (gr1 results152 rfl ⟨rfl, hm.below⟩))))))
  refine gcf rfl (gSk (gS (gS (gJ hm (fun s0_2 => [(1, (nV k_)), (3, (pV b0_1)), (5, (pV b0_2)), (44, (.bool (s0_2)))]) (fun s0_2 => [blk b0_1 [(sV b0_3 o0_1 u.codes.length c0_1)] 30, blk b0_2 [(nV x_.op), (nV x_.to), v2, (nV x_.n_)] 106]) (fun s0_2 => ?_) ?_))))
  ·
   refine gW (.p 0 (.p 3 (.p 5 (.q 1 (.q 4 (.q 6 (.p 7 (.e 2 (.e 8 (.p 9 (.p 10 (.p 11 (.e 12 (.e 13 (.p 14 (.p 15 (.p 16 (.e 17 (.p 18 (.p 19 (.p 20 .fin))) .nil)))) .nil) .nil)))) .nil) .nil)))))))) [1, 2, 4, 6] [0, 3, 5, 7, 9, 10, 11, 14, 15, 16, 18, 19, 20] hm [0, 1, 2] [blk b0_1 [(sV b0_3 o0_1 u.codes.length c0_1)] 30, blk b0_2 [(nV x_.op), (nV x_.to), v2, (nV x_.n_)] 106, blk b0_4 [(nV x0_1.params), (nV x0_1.regs), v0_1] 57] rfl mxo (by kernel_rfl) (fun _ _ _ h => h.2) fun w hm hS => tP rfl (fun w => yF fo_106_0 rfl) (tP rfl (fun w => yF fo_106_1 rfl) (tP rfl (fun w => yF fo_57_1 rfl) (tQ rfl hS (fun w hm => yL hm 1 isAgg3 rfl) (tQ rfl hS (fun w hm => yL hm 1 isAgg3 rfl) (tQ rfl hS (fun w hm => yL hm 2 isAgg3 rfl) (tP rfl (fun w => yB rfl) (tO (gb fun r1_3 hx1_3 => tf rfl rfl (fun a hf => e_call hf rfl call91 rfl (spec_l7Makes_ok _ x_.op _ hx1_3)) ?_))))))))
   rintro v1_3 w ⟨rfl, hB⟩
   replace hm := hm.below' hB; clear hB
   refine tAk hm [0, 1, 2] rfl fun hS => tO (gb fun r1_4 hx1_4 => tf rfl rfl (fun a hf => e_call hf rfl call61 rfl (spec_l1In_ok _ x_.to 0 (w64 (x0_1.regs - 1)) _ hx1_4)) ?_)
   rintro v1_4 w ⟨rfl, hB⟩
   replace hm := hm.below' hB; clear hB
   refine tAn rfl (tP rfl (fun w => yG rfl (y_neqb underlying4 rfl rfl rfl)) (tP rfl (fun w => yM rfl) (gsd 34 rfl (fun h1_2 => ?_) fun h1_2 => ?_)))
   ·
    exact tPo rfl rfl (tO (tEo rfl rfl (tAn rfl (tO (tEo rfl rfl (tAn rfl (tPo rfl rfl (tPo rfl rfl (tPo rfl rfl (tO (tEo rfl rfl (tAn rfl (tPo rfl rfl (tPo rfl rfl (tP rfl (fun w => yKt rfl) (tE (gz hm [0, 1] rfl)))))))))))))))))
   refine tP rfl (fun w => yF fo_106_0 rfl) (tO (tY rfl (yL hm 1 isAgg3 rfl) (tAn rfl (tO (gb fun r1_5 hx1_5 => tf rfl rfl (fun a hf => e_call hf rfl call91 rfl (spec_l7Makes_ok _ x_.op _ hx1_5)) ?_)))))
   rintro v1_5 w ⟨rfl, hB⟩
   replace hm := hm.below' hB; clear hB
   refine tAn rfl (tP rfl (fun w => yN rfl) (tP rfl (fun w => yM rfl) (gsn 39 rfl (fun h1_3 => ?_) fun h1_3 => ?_)))
   ·
    exact tP rfl (fun w => yF fo_106_1 rfl) (tO (tY rfl (yL hm 1 isAgg3 rfl) (tAn rfl (tP rfl (fun w => yB rfl) (tP rfl (fun w => yKt rfl) (tP rfl (fun w => yKf rfl) (tE (gz hm [0, 1] rfl))))))))
   exact tPo rfl rfl (tO (tEo rfl rfl (tAn rfl (tPo rfl rfl (tP rfl (fun w => yKf rfl) (tP rfl (fun w => yKf rfl) (tE (gz hm [0, 1] rfl))))))))
  repeat clear hm
  intro s0_2 w hm
  refine gs 44 rfl (fun h0_4 => ?_) fun h0_4 => ?_
  ·
   exact gct rfl (gS (gR (gA rfl (gE (gRt (gr1 results152 rfl ⟨rfl, hm.below⟩))))))
  refine gcf rfl (gSk (gS (gS (gR (gF fo_106_0 rfl (gL hm 1 isAgg3 rfl (gB rfl (gE (gsd 47 rfl (fun h0_5 => ?_) fun h0_5 => ?_)))))))))
  ·
   refine gct rfl (gS (gJ hm (fun s0_3 => [(6, (.bool (s0_3)))]) (fun s0_3 => []) (fun s0_3 => ?_) ?_))
   ·
    refine gW (.p 0 (.p 2 (.p 3 (.e 1 (.e 4 (.p 5 (.p 6 (.p 9 (.p 11 (.q 7 (.p 8 (.q 10 (.e 12 (.p 13 (.p 14 (.e 15 (.p 16 (.p 17 (.p 18 .fin))) .nil))) .nil)))))))) .nil) .nil)))) [7, 10, 12, 15] [0, 2, 3, 5, 6, 8, 9, 11, 13, 14, 16, 17, 18] hm [0, 1] [blk b0_1 [(sV b0_3 o0_1 u.codes.length c0_1)] 30, blk b0_2 [(nV x_.op), (nV x_.to), v2, (nV x_.n_)] 106] rfl mxo (by kernel_rfl) (fun _ _ _ h => h.2) fun w hm hS => tP rfl (fun w => yF fo_106_3 rfl) (tP rfl (fun w => yM rfl) (tP rfl (fun w => yB rfl) (tO (tY rfl (yL hm 1 isAgg3 rfl) (tAn rfl (tO (gb fun r1_6 hx1_6 => tf rfl rfl (fun a hf => e_call hf rfl call61 rfl (spec_l1In_ok _ x_.n_ 0 (w64 (k_ - 1)) _ hx1_6)) ?_)))))))
    rintro v1_6 w ⟨rfl, hB⟩
    replace hm := hm.below' hB; clear hB
    refine tAk hm [0, 1] rfl fun hS => tP rfl (fun w => yM rfl) (gs 53 rfl (fun h1_4 => ?_) fun h1_4 => ?_)
    ·
     refine tP rfl (fun w => yF fo_106_2 rfl) (tP rfl (fun w => yF fo_30_0 rfl) (tP rfl (fun w => yF fo_106_3 rfl) (tQ rfl hS (fun w hm => yL hm 1 isAgg37 rfl) ?_)))
     obtain ⟨p1_1, c1_1, rfl, hl1_1⟩ := ro_slice h2
     refine tP rfl (fun w => yV st_37 rfl) (tQ rfl hS (fun w hm => yL hm 0 isAgg28 rfl) (tO (tY rfl (yL hm 1 isAgg3 rfl) (tAs hS (gg fun x1_1 h1_5 hx1_8 => ?_)))))
     obtain ⟨v1_7, hc1_1, h1_6⟩ := rk_Code_ h1 hx1_8
     exact tP rfl (fun w => yI st_28 h1_5 (idx_lt hx1_8) rfl) (tP rfl (fun w => yF fo_57_0 rfl) (tO (tY rfl (yl isAgg3 ((hc1_1.mono hm.lez).cell (j := 0) rfl) rfl) (tAs hS (tP rfl (fun w => yB rfl) (tP rfl (fun w => yKt rfl) (tP rfl (fun w => yA rfl) (tE (gz hm [] rfl)))))))))
    exact tPo rfl rfl (tPo rfl rfl (tPo rfl rfl (tQo rfl hS rfl (tPo rfl rfl (tQo rfl hS rfl (tO (tEo rfl rfl (tAs hS (tPo rfl rfl (tPo rfl rfl (tO (tEo rfl rfl (tAs hS (tPo rfl rfl (tP rfl (fun w => yKf rfl) (tP rfl (fun w => yA rfl) (tE (gz hm [] rfl))))))))))))))))))
   repeat clear hm
   intro s0_3 w hm
   exact gRt (gr1 results152 rfl ⟨rfl, hm.below⟩)
  refine gcf rfl (gSk (gS (gJ hm (fun s0_4 => [(6, (.bool (s0_4)))]) (fun s0_4 => []) (fun s0_4 => ?_) ?_)))
  ·
   refine gW (.p 0 (.p 3 (.q 1 (.p 2 (.e 4 (.e 5 (.p 6 (.p 7 (.p 8 (.e 9 (.e 10 (.p 11 (.p 12 (.p 13 (.e 14 (.p 15 (.p 16 (.p 17 (.e 18 (.p 19 (.p 20 (.p 21 (.p 22 .fin)))) .nil)))) .nil)))) .nil) .nil)))) .nil) .nil))))) [4, 5] [0, 2, 3, 6, 7, 8, 11, 12, 13, 15, 16, 17, 19, 20, 21, 22] hm [0, 1] [blk b0_1 [(sV b0_3 o0_1 u.codes.length c0_1)] 30, blk b0_2 [(nV x_.op), (nV x_.to), v2, (nV x_.n_)] 106] rfl mxo (by kernel_rfl) (fun _ _ _ h => h.2) fun w hm hS => tP rfl (fun w => yF fo_106_2 rfl) (tP rfl (fun w => yF fo_106_0 rfl) (tQ rfl hS (fun w hm => yL hm 1 isAgg37 rfl) ?_))
   obtain ⟨p1_2, c1_2, rfl, hl1_2⟩ := ro_slice h2
   refine tP rfl (fun w => yV st_37 rfl) (tO (tY rfl (yL hm 1 isAgg3 rfl) (tAs hS (tO (gb fun r1_7 hx1_9 => tf rfl rfl (fun a hf => e_call hf rfl call221 rfl (spec_l7Args_ok _ x_.op _ hx1_9)) ?_)))))
   rintro v1_8 w ⟨rfl, hB⟩
   replace hm := hm.below' hB; clear hB
   refine tAk hm [0, 1] rfl fun hS => tP rfl (fun w => yB rfl) (tP rfl (fun w => yM rfl) (gsd 73 rfl (fun h1_7 => ?_) fun h1_7 => ?_))
   ·
    refine tP rfl (fun w => yF fo_106_3 rfl) (tO (tY rfl (yL hm 1 isAgg3 rfl) (tAn rfl (tO (gb fun r1_8 hx1_10 => tf rfl rfl (fun a hf => e_call hf rfl call61 rfl (spec_l1In_ok _ x_.n_ 0 255 _ hx1_10)) ?_)))))
    rintro v1_9 w ⟨rfl, hB⟩
    replace hm := hm.below' hB; clear hB
    refine tAn rfl (tP rfl (fun w => yKt rfl) (tP rfl (fun w => yM rfl) (gs 78 rfl (fun h1_8 => ?_) fun h1_8 => ?_)))
    ·
     refine tP rfl (fun w => yF fo_106_3 rfl) (tO (tY rfl (yL hm 1 isAgg3 rfl) (tAn rfl (tP rfl (fun w => yB rfl) (tP rfl (fun w => yM rfl) (gsd 82 rfl (fun h1_9 => ?_) fun h1_9 => ?_))))))
     ·
      exact tPo rfl rfl (tO (tEo rfl rfl (tAn rfl (tPo rfl rfl (tP rfl (fun w => yKt rfl) (tP rfl (fun w => yKt rfl) (tP rfl (fun w => yA rfl) (tE (gz hm [] rfl)))))))))
     exact tP rfl (fun w => yF fo_106_0 rfl) (tO (tY rfl (yL hm 1 isAgg3 rfl) (tAn rfl (tP rfl (fun w => yB rfl) (tP rfl (fun w => yKf rfl) (tP rfl (fun w => yKt rfl) (tP rfl (fun w => yA rfl) (tE (gz hm [] rfl)))))))))
    exact tPo rfl rfl (tO (tEo rfl rfl (tAn rfl (tPo rfl rfl (tPo rfl rfl (tPo rfl rfl (tO (tEo rfl rfl (tAn rfl (tPo rfl rfl (tPo rfl rfl (tP rfl (fun w => yKf rfl) (tP rfl (fun w => yA rfl) (tE (gz hm [] rfl)))))))))))))))
   exact tPo rfl rfl (tO (tEo rfl rfl (tAn rfl (tO (tEo rfl rfl (tAn rfl (tP rfl (fun w => yKf rfl) (tP rfl (fun w => yM rfl) (tPo rfl rfl (tO (tEo rfl rfl (tAn rfl (tPo rfl rfl (tPo rfl rfl (tPo rfl rfl (tO (tEo rfl rfl (tAn rfl (tPo rfl rfl (tPo rfl rfl (tP rfl (fun w => yKf rfl) (tP rfl (fun w => yA rfl) (tE (gz hm [] rfl))))))))))))))))))))))))
  repeat clear hm
  intro s0_4 w hm
  exact gRt (gr1 results152 rfl ⟨rfl, hm.below⟩)

theorem spec_l7Preds_ok (w0 : World) (c_ : Code_) (v1 : Value) (h1 : GT.rep (hp w0) [v1] c_.blocks) (b_ : Int) :
    ConM Tryz.prog 153 [(.agg #[(nV c_.params), (nV c_.regs), v1]), (nV b_)] w0 (spec_l7Preds c_ b_) fun r v w' => ∃ (x1 : Value), v = x1 ∧ Mem w0 (hp w0) w' [ow [x1] r] := by
  unfold spec_l7Preds
  refine gcon func153 rfl fun r => ?_
  have hm := Mem.start w0
  refine gS (gR (gBx hm rfl fun b0_1 w hm => gA rfl (gE (gS (gR (gf rfl (fun a hf => e_build0 (α := Int) et_37 hm rfl) ?_))))))
  rintro v0_1 w hm
  refine gA rfl (gE (gS (gS (gR (gA rfl (gE ?_))))))
  obtain ⟨p0_1, c0_1, rfl, hl0_1⟩ := ro_slice (hm.ow_rep 0 rfl)
  refine gBk (gNg (fun i1_1 xs1_1 a w => ∃ (v1_1 : Value), St 43 [(1, (nV b_)), (2, (pV b0_1)), (5, v1_1), (6, (nV i1_1))] w0 (hp w0) [blk b0_1 [(nV c_.params), (nV c_.regs), v1] 57, ow [v1_1] xs1_1] a w) (fun a hf => ⟨(.slice p0_1 ([] : List Int).length c0_1), hf.sb rfl, hm.pk [1, 0] rfl rfl⟩) ?_ ?_)
  ·
   repeat clear hm
   rintro _ _ i1_1 xs1_1 a w ⟨v1_1, hf, hm⟩ hi0_1 hi0_2 q0_1 _
   refine gv hf (gS (gS (gR (gM rfl (gF fo_57_2 rfl (gL hm 0 isAgg55 rfl ?_))))))
   obtain ⟨p1_1, c1_1, rfl, hl1_1⟩ := ro_slice h1
   refine gY (yV st_55 rfl) (gB rfl (gE (go _ 13 rfl (decide_eq_true (by omega)) (gct rfl (gSk (gS (gBk (gS (gR (gA rfl (gE ?_)))))))))))
   obtain ⟨p1_2, c1_2, rfl, hl1_2⟩ := ro_slice (hm.ow_rep 1 rfl)
   refine gJg (fun s1_1 a w => ∃ (v1_2 : Value), St 43 [(1, (nV b_)), (2, (pV b0_1)), (5, v1_2), (6, (nV i1_1))] w0 (hp w0) [blk b0_1 [(nV c_.params), (nV c_.regs), (.slice p1_1 c_.blocks.length c1_1)] 57, ow [v1_2] s1_1] a w) (fun s1_1 => ?_) ?_
   ·
    refine gBk (gMf hm (fun xs3_1 => [(1, (nV b_)), (2, (pV b0_1)), (5, (.slice p1_2 xs1_1.length c1_2)), (6, (nV i1_1)), (7, (nV xs3_1))]) (fun xs3_1 => [blk b0_1 [(nV c_.params), (nV c_.regs), (.slice p1_1 c_.blocks.length c1_1)] 57, ow [(.slice p1_2 xs1_1.length c1_2)] xs1_1]) [0, 1] rfl ?_)
    repeat clear hm
    intro r2_1 hq2_1 xs3_1 w hm q2_1 ho2_1
    refine gS (gS (gR (gM rfl (gF fo_57_2 rfl (gL hm 0 isAgg55 rfl (gM rfl (gg fun x3_1 h3_1 hx3_2 => ?_)))))))
    obtain ⟨b3_1, o3_1, c3_1, he⟩ := idx_form' h1 hx3_2
    simp only [Value.slice.injEq, Option.some.injEq] at he; obtain ⟨rfl, _, rfl⟩ := he
    obtain ⟨v3_1, v3_2, v3_3, hc3_1, h3_2, h3_3, h3_4⟩ := rk_Block_ h1 hx3_2
    refine gI st_55 h3_1 (idx_lt hx3_2) rfl (gF fo_104_4 rfl (gY (yl isAgg37 ((hc3_1.mono hm.lez).cell (j := 4) rfl) rfl) ?_))
    obtain ⟨p3_1, c3_2, rfl, hl3_1⟩ := ro_slice h3_4
    refine gY (yV st_37 rfl) (gB rfl (gE (gsd 24 rfl (fun h3_5 => ?_) fun h3_5 => ?_)))
    ·
     refine gct rfl (gSk (gS (gBk (gS (gR (gF fo_57_2 rfl (gL hm 0 isAgg55 rfl (gM rfl (gI st_55 h3_1 (idx_lt hx3_2) rfl (gF fo_104_4 rfl (gY (yl isAgg37 ((hc3_1.mono hm.lez).cell (j := 4) rfl) rfl) (gM rfl (gg fun x3_2 h3_6 hx3_4 => ?_)))))))))))))
     obtain ⟨b3_2, o3_2, c3_3, he⟩ := idx_form h3_4 hx3_4
     simp only [Value.slice.injEq, Option.some.injEq] at he; obtain ⟨rfl, _, rfl⟩ := he
     refine gI st_37 h3_6 (idx_lt hx3_4) rfl (gY (yl isAgg3 ((flat_cells (cs := [(nV x3_2)]) (hm.now h3_4) hx3_4 rfl).cell (j := 0) rfl) rfl) (gM rfl (gB rfl (gE (gsd 37 rfl (fun h3_7 => ?_) fun h3_7 => ?_)))))
     ·
      refine gct rfl (gS (gR (gM rfl (gM rfl (gf rfl (fun a hf => e_build (vs := #[(0, (nV i1_1))]) (cs := [(nV i1_1)]) et_37 hf hm rfl rfl (by kernel_rfl) rfl rfl) ?_)))))
      rintro _ w ⟨b3_3, rfl, hm⟩
      replace hm := hm.lit (xs := ([i1_1] : List Int)) 0 rfl rfl rfl rfl
      refine gb fun ys3_1 hx3_5 => ?_
      obtain ⟨h3_8, h3_8e⟩ := appM_some.1 hx3_5
      refine gf rfl (fun a hf => e_append 2 et_37 hf hm rfl (hm.ow_rep 0 rfl) rfl rfl rfl h3_8) ?_
      rintro v3_4 w hm
      rw [h3_8e] at hm
      exact gA rfl (gE (gXt (gHm rfl (gHh (gLp ho2_1 hq2_1 (gZ fun a hf => ⟨v3_4, hf.sb rfl, hm.pk [1, 2] rfl rfl⟩))))))
     exact gcf rfl (gSk (gR (gM rfl (gB rfl (gA rfl (gE (gze hm [0, 1] rfl)))))))
    exact gcf rfl (gXt (gHh (gLp ho2_1 hq2_1 (gZ fun a hf => ⟨(.slice p1_2 xs1_1.length c1_2), hf.sb rfl, hm.pk [0, 1] rfl rfl⟩))))
   repeat clear hm
   rintro s1_1 a w ⟨v1_2, hf, hm⟩
   exact gv hf (gR (gM rfl (gP (by omega) (by omega) rfl (gA rfl (gE (gZe fun a hf => ⟨v1_2, hf.sb rfl, hm.pk [0, 1] rfl rfl⟩))))))
  repeat clear hm
  rintro i0_1 xs0_1 a w ⟨v0_2, hf, hm⟩ hi0_3 hi0_4
  refine gv hf (gS (gS (gR (gM rfl (gF fo_57_2 rfl (gL hm 0 isAgg55 rfl ?_))))))
  obtain ⟨p0_2, c0_2, rfl, hl0_2⟩ := ro_slice h1
  exact gY (yV st_55 rfl) (gB rfl (gE (go _ 13 rfl (decide_eq_false (by omega)) (gcf rfl (gXt (gHh (gS (gR (gM rfl (gA rfl (gE (gRt (gr1 results153 rfl ⟨v0_2, rfl, hm.pk [1] rfl rfl⟩)))))))))))))

theorem spec_l7Block_ok (w0 : World) (u : Unit_) (v1 : Value) (h1 : GT.rep (hp w0) [v1] u.codes) (k_ : Int) (b_ : Int) :
    ConM Tryz.prog 108 [(.agg #[v1]), (nV k_), (nV b_)] w0 (spec_l7Block u k_ b_) fun r v w' => v = (.bool (r)) ∧ Below w0.heap.size w0 w' := by
  unfold spec_l7Block
  refine gcon func108 rfl fun r => ?_
  have hm := Mem.start w0
  refine gS (gR (gBx hm rfl fun b0_1 w hm => gA rfl (gE (gS (gR (gF fo_30_0 rfl (gL hm 0 isAgg28 rfl (gM rfl (gg fun x0_1 h0_1 hx0_2 => ?_)))))))))
  obtain ⟨b0_2, o0_1, c0_1, he⟩ := idx_form' h1 hx0_2
  subst he
  obtain ⟨v0_1, hc0_1, h0_2⟩ := rk_Code_ h1 hx0_2
  refine gI st_28 h0_1 (idx_lt hx0_2) rfl (gY (yn (hc0_1.mono hm.lez) isAgg57 sizeOf57 rfl) (gAl hm zeroValue57 rfl fun b0_3 w hm => gSN hm 0 sizeOf57 (one_cons rfl (one_cons rfl (one_cons (rep_one h0_2) one_nil))) rfl fun w hm => gE (gS (gR (gF fo_57_2 rfl (gL hm 0 isAgg55 rfl (gM rfl (gg fun x0_2 h0_3 hx0_4 => ?_))))))))
  obtain ⟨b0_4, o0_2, c0_2, he⟩ := idx_form' h0_2 hx0_4
  subst he
  obtain ⟨v0_2, v0_3, v0_4, hc0_2, h0_4, h0_5, h0_6⟩ := rk_Block_ h0_2 hx0_4
  refine gI st_55 h0_3 (idx_lt hx0_4) rfl (gY (yn (hc0_2.mono hm.lez) isAgg104 sizeOf104 rfl) (gAl hm zeroValue104 rfl fun b0_5 w hm => gSN hm 0 sizeOf104 (one_cons (rep_one h0_4) (one_cons (rep_one h0_5) (one_cons rfl (one_cons rfl (one_cons (rep_one h0_6) one_nil))))) rfl fun w hm => gE (gS (gR (gA rfl (gE (gS (gS (gR (gF fo_104_2 rfl (gL hm 0 isAgg3 rfl (gE (gJge (fun s0_1 a w => 0 ≤ x0_2.jump ∧ x0_2.jump ≤ 3 ∧ 0 ≤ s0_1 ∧ s0_1 ≤ 2 ∧ St 136 [(1, (nV k_)), (2, (nV b_)), (3, (pV b0_1)), (7, (pV b0_3)), (8, (pV b0_5)), (9, (nV s0_1))] w0 (hp w0) [blk b0_1 [(sV b0_2 o0_1 u.codes.length c0_1)] 30, blk b0_3 [(nV x0_1.params), (nV x0_1.regs), (sV b0_4 o0_2 x0_1.blocks.length c0_2)] 57, blk b0_5 [v0_2, v0_3, (nV x0_2.jump), (nV x0_2.on), v0_4] 104] a w) (fun c0_3 hq0_1 => ?_) ?_)))))))))))))
  ·
   refine gBk (gS (gR (gB rfl (gA rfl (gE (gJge (fun s1_1 a w => 0 ≤ x0_2.jump ∧ x0_2.jump ≤ 3 ∧ 0 ≤ s1_1 ∧ s1_1 ≤ 2 ∧ St 136 [(1, (nV k_)), (2, (nV b_)), (3, (pV b0_1)), (7, (pV b0_3)), (8, (pV b0_5)), (9, (nV s1_1))] w0 (hp w0) [blk b0_1 [(sV b0_2 o0_1 u.codes.length c0_1)] 30, blk b0_3 [(nV x0_1.params), (nV x0_1.regs), (sV b0_4 o0_2 x0_1.blocks.length c0_2)] 57, blk b0_5 [v0_2, v0_3, (nV x0_2.jump), (nV x0_2.on), v0_4] 104] a w) (fun c1_1 hq1_1 => ?_) ?_))))))
   ·
    refine gsd 26 rfl (fun h2_1 => ?_) fun h2_1 => ?_
    ·
     refine gct rfl (gS (gR (gF fo_104_3 rfl (gL hm 0 isAgg3 rfl (gB rfl (gE (gsd 30 rfl (fun h2_2 => ?_) fun h2_2 => ?_)))))))
     ·
      exact gct rfl (gS (gR (gA rfl (gE (gRt (gEr hq1_1 (gEr hq0_1 (gr1 results108 rfl ⟨rfl, hm.below⟩))))))))
     exact gcf rfl (gSk (gZe fun a hf => ⟨(by first | omega | (dsimp only; omega)), (by first | omega | (dsimp only; omega)), (by first | omega | (dsimp only; omega)), (by first | omega | (dsimp only; omega)), hf.sb rfl, hm.pk [2, 1, 0] rfl rfl⟩))
    refine gcf rfl (gS (gR (gB rfl (gA rfl (gE (gJge (fun s2_1 a w => 0 ≤ x0_2.jump ∧ x0_2.jump ≤ 3 ∧ 0 ≤ s2_1 ∧ s2_1 ≤ 2 ∧ St 136 [(1, (nV k_)), (2, (nV b_)), (3, (pV b0_1)), (7, (pV b0_3)), (8, (pV b0_5)), (9, (nV s2_1))] w0 (hp w0) [blk b0_1 [(sV b0_2 o0_1 u.codes.length c0_1)] 30, blk b0_3 [(nV x0_1.params), (nV x0_1.regs), (sV b0_4 o0_2 x0_1.blocks.length c0_2)] 57, blk b0_5 [v0_2, v0_3, (nV x0_2.jump), (nV x0_2.on), v0_4] 104] a w) (fun c2_1 hq2_1 => ?_) ?_))))))
    ·
     refine gsd 31 rfl (fun h3_1 => ?_) fun h3_1 => ?_
     ·
      exact gct rfl (gR (gA rfl (gE (gZe fun a hf => ⟨(by first | omega | (dsimp only; omega)), (by first | omega | (dsimp only; omega)), (by first | omega | (dsimp only; omega)), (by first | omega | (dsimp only; omega)), hf.sb rfl, hm.pk [2, 1, 0] rfl rfl⟩))))
     refine gcf rfl (gS (gR (gB rfl (gA rfl (gE (gsd 33 rfl (fun h3_2 => ?_) fun h3_2 => ?_))))))
     ·
      exact gct rfl (gR (gA rfl (gE (gZe fun a hf => ⟨(by first | omega | (dsimp only; omega)), (by first | omega | (dsimp only; omega)), (by first | omega | (dsimp only; omega)), (by first | omega | (dsimp only; omega)), hf.sb rfl, hm.pk [2, 1, 0] rfl rfl⟩))))
     exact gcf rfl (gS (gR (gA rfl (gE (gRt (gEr hq2_1 (gEr hq1_1 (gEr hq0_1 (gr1 results108 rfl ⟨rfl, hm.below⟩)))))))))
    repeat clear hm
    rintro s2_1 a w ⟨hn2_1, hn2_2, hn2_3, hn2_4, hf, hm⟩
    exact gv hf (gZe fun a hf => ⟨(by first | omega | (dsimp only; omega)), (by first | omega | (dsimp only; omega)), (by first | omega | (dsimp only; omega)), (by first | omega | (dsimp only; omega)), hf.sb rfl, hm.pk [0, 1, 2] rfl rfl⟩)
   repeat clear hm
   rintro s1_1 a w ⟨hn1_1, hn1_2, hn1_3, hn1_4, hf, hm⟩
   exact gv hf (gZe fun a hf => ⟨(by first | omega | (dsimp only; omega)), (by first | omega | (dsimp only; omega)), (by first | omega | (dsimp only; omega)), (by first | omega | (dsimp only; omega)), hf.sb rfl, hm.pk [0, 1, 2] rfl rfl⟩)
  repeat clear hm
  rintro s0_1 a w ⟨hn0_1, hn0_2, hn0_3, hn0_4, hf, hm⟩
  refine gv hf (gS (gS (gJg (fun s0_2 a w => 0 ≤ x0_2.jump ∧ x0_2.jump ≤ 3 ∧ St 136 [(1, (nV k_)), (2, (nV b_)), (3, (pV b0_1)), (7, (pV b0_3)), (8, (pV b0_5)), (53, (.bool (s0_2)))] w0 (hp w0) [blk b0_1 [(sV b0_2 o0_1 u.codes.length c0_1)] 30, blk b0_3 [(nV x0_1.params), (nV x0_1.regs), (sV b0_4 o0_2 x0_1.blocks.length c0_2)] 57, blk b0_5 [v0_2, v0_3, (nV x0_2.jump), (nV x0_2.on), v0_4] 104] a w) (fun s0_2 => ?_) ?_)))
  ·
   refine gR (gF fo_104_4 rfl (gL hm 2 isAgg37 rfl ?_))
   obtain ⟨p1_1, c1_2, rfl, hl1_1⟩ := ro_slice h0_6
   refine gY (yV st_37 rfl) (gM rfl (gB rfl (gM rfl (gsd 40 rfl (fun h1_1 => ?_) fun h1_1 => ?_))))
   ·
    exact gO rfl (gO rfl (gO rfl (gO rfl (gO rfl (gO rfl (gO rfl (gO rfl (gO rfl (gO rfl (gO rfl (gO rfl (gKt rfl (gE (gZ fun a hf => ⟨(by first | omega | (dsimp only; omega)), (by first | omega | (dsimp only; omega)), hf.sb rfl, hm.pk [0, 1, 2] rfl rfl⟩))))))))))))))
   refine gF fo_104_2 rfl (gL hm 2 isAgg3 rfl (gB rfl (gM rfl (gsd 44 rfl (fun h1_2 => ?_) fun h1_2 => ?_))))
   ·
    exact gF fo_104_3 rfl (gL hm 2 isAgg3 rfl (gF fo_57_1 rfl (gL hm 1 isAgg3 rfl (gB rfl (gC hm rfl call61 (spec_l1In_ok _ x0_2.on 0 (w64 (x0_1.regs - 1))) fun r1_1 hx1_1 w hm => gN rfl (gKt rfl (gKf rfl (gE (gZ fun a hf => ⟨(by first | omega | (dsimp only; omega)), (by first | omega | (dsimp only; omega)), hf.sb rfl, hm.pk [0, 1, 2] rfl rfl⟩)))))))))
   exact gO rfl (gO rfl (gO rfl (gO rfl (gO rfl (gO rfl (gO rfl (gKf rfl (gKf rfl (gE (gZ fun a hf => ⟨(by first | omega | (dsimp only; omega)), (by first | omega | (dsimp only; omega)), hf.sb rfl, hm.pk [0, 1, 2] rfl rfl⟩))))))))))
  repeat clear hm
  rintro s0_2 a w ⟨hn0_5, hn0_6, hf, hm⟩
  refine gv hf (gs 53 rfl (fun h0_7 => ?_) fun h0_7 => ?_)
  ·
   exact gct rfl (gS (gR (gA rfl (gE (gRt (gr1 results108 rfl ⟨rfl, hm.below⟩))))))
  refine gcf rfl (gSk (gS (gS (gR (gA rfl (gE (gBk (gNf hm (fun i1_1 xs1_1 => [(1, (nV k_)), (2, (nV b_)), (3, (pV b0_1)), (7, (pV b0_3)), (8, (pV b0_5)), (10, (nV i1_1))]) (fun i1_1 xs1_1 => [blk b0_1 [(sV b0_2 o0_1 u.codes.length c0_1)] 30, blk b0_3 [(nV x0_1.params), (nV x0_1.regs), (sV b0_4 o0_2 x0_1.blocks.length c0_2)] 57, blk b0_5 [v0_2, v0_3, (nV x0_2.jump), (nV x0_2.on), v0_4] 104]) [0, 1, 2] rfl ?_ ?_))))))))
  ·
   repeat clear hm
   intro r0_1 hq0_3 i1_1 xs1_1 w hm hi0_1 hi0_2 q0_1 ho0_1
   refine gS (gS (gR (gM rfl (gF fo_104_4 rfl (gL hm 2 isAgg37 rfl ?_)))))
   obtain ⟨p1_2, c1_3, rfl, hl1_2⟩ := ro_slice h0_6
   refine gY (yV st_37 rfl) (gB rfl (gE (go _ 58 rfl (decide_eq_true (by omega)) (gct rfl (gSk (gS (gBk (gS (gW (.p 0 (.p 2 (.p 5 (.q 1 (.p 3 (.q 4 (.e 6 (.p 7 (.p 8 (.e 9 (.p 10 .fin) .nil))) .nil))))))) [6] [0, 2, 3, 5, 7, 8, 10] hm [0, 1, 2] [blk b0_1 [(sV b0_2 o0_1 u.codes.length c0_1)] 30, blk b0_3 [(nV x0_1.params), (nV x0_1.regs), (sV b0_4 o0_2 x0_1.blocks.length c0_2)] 57, blk b0_5 [v0_2, v0_3, (nV x0_2.jump), (nV x0_2.on), (.slice p1_2 x0_2.next_.length c1_3)] 104] rfl mxo (by kernel_rfl) (fun _ _ _ h => h.2) fun w hm hS => tP rfl (fun w => yF fo_104_4 rfl) (tP rfl (fun w => yM rfl) (tP rfl (fun w => yF fo_57_2 rfl) (tQ rfl hS (fun w hm => yL hm 2 isAgg37 rfl) (gg fun x1_1 h1_3 hx1_3 => ?_)))))))))))))
   obtain ⟨b1_1, o1_1, c1_4, he⟩ := idx_form h0_6 hx1_3
   simp only [Value.slice.injEq, Option.some.injEq] at he; obtain ⟨rfl, _, rfl⟩ := he
   refine tP rfl (fun w => yI st_37 h1_3 (idx_lt hx1_3) rfl) (tQ rfl hS (fun w hm => yl isAgg3 ((flat_cells (cs := [(nV x1_1)]) (hm.now h0_6) hx1_3 rfl).cell (j := 0) rfl) rfl) (tO (tY rfl (yL hm 1 isAgg55 rfl) (tAs hS ?_))))
   have hl1_3 := rep_len h0_2
   refine tP rfl (fun w => yV st_55 rfl) (tP rfl (fun w => yS (by omega) (by omega) rfl) (tO (gb fun r1_2 hx1_4 => tf rfl rfl (fun a hf => e_call hf rfl call61 rfl (spec_l1In_ok _ x1_1 1 (((x0_1.blocks.length : Int)) - 1) _ hx1_4)) ?_)))
   rintro v1_2 w ⟨rfl, hB⟩
   replace hm := hm.below' hB; clear hB
   refine tAn rfl (tP rfl (fun w => yN rfl) (tE (gsn 71 rfl (fun h1_4 => ?_) fun h1_4 => ?_)))
   ·
    exact gct rfl (gS (gR (gA rfl (gE (gRt (gLr ho0_1 hq0_3 (gr1 results108 rfl ⟨rfl, hm.below⟩)))))))
   exact gcf rfl (gSk (gR (gM rfl (gP (by omega) (by omega) rfl (gA rfl (gE (gze hm [0, 1, 2] rfl)))))))
  repeat clear hm
  intro i0_1 xs0_1 w hm hi0_3 hi0_4
  refine gS (gS (gR (gM rfl (gF fo_104_4 rfl (gL hm 2 isAgg37 rfl ?_)))))
  obtain ⟨p0_1, c0_4, rfl, hl0_1⟩ := ro_slice h0_6
  refine gY (yV st_37 rfl) (gB rfl (gE (go _ 58 rfl (decide_eq_false (by omega)) (gcf rfl (gXt (gHh (gS (gS (gR (gA rfl (gE (gBk (gNf hm (fun i1_2 xs1_2 => [(1, (nV k_)), (2, (nV b_)), (3, (pV b0_1)), (7, (pV b0_3)), (8, (pV b0_5)), (11, (nV i1_2))]) (fun i1_2 xs1_2 => [blk b0_1 [(sV b0_2 o0_1 u.codes.length c0_1)] 30, blk b0_3 [(nV x0_1.params), (nV x0_1.regs), (sV b0_4 o0_2 x0_1.blocks.length c0_2)] 57, blk b0_5 [v0_2, v0_3, (nV x0_2.jump), (nV x0_2.on), (.slice p0_1 x0_2.next_.length c0_4)] 104]) [0, 1, 2] rfl ?_ ?_)))))))))))))
  ·
   repeat clear hm
   intro r0_2 hq0_4 i1_2 xs1_2 w hm hi0_5 hi0_6 q0_2 ho0_2
   refine gS (gS (gR (gM rfl (gF fo_104_1 rfl (gL hm 2 isAgg102 rfl ?_)))))
   obtain ⟨p1_3, c1_5, rfl, hl1_4⟩ := ro_slice h0_5
   refine gY (yV st_102 rfl) (gB rfl (gE (go _ 76 rfl (decide_eq_true (by omega)) (gct rfl (gSk (gS (gBk (gS (gW (.p 1 (.p 2 (.p 4 (.q 0 (.e 3 (.p 5 (.e 6 (.e 7 (.p 8 .fin) .nil) .nil)) .nil))))) [3, 6] [1, 2, 4, 5, 8] hm [0, 1, 2] [blk b0_1 [(sV b0_2 o0_1 u.codes.length c0_1)] 30, blk b0_3 [(nV x0_1.params), (nV x0_1.regs), (sV b0_4 o0_2 x0_1.blocks.length c0_2)] 57, blk b0_5 [v0_2, (.slice p1_3 x0_2.ins.length c1_5), (nV x0_2.jump), (nV x0_2.on), (.slice p0_1 x0_2.next_.length c0_4)] 104] rfl mxo (by kernel_rfl) (fun _ _ _ h => h.2) fun w hm hS => tP rfl (fun w => yM rfl) (tP rfl (fun w => yF fo_104_1 rfl) (tP rfl (fun w => yM rfl) (tQ rfl hS (fun w hm => yn (hm.blk_at 0 rfl) isAgg30 sizeOf30 rfl) (tO (tY rfl (yL hm 2 isAgg102 rfl) (tAs hS (gg fun x1_2 h1_5 hx1_6 => ?_))))))))))))))))
   obtain ⟨b1_2, o1_2, c1_6, he⟩ := idx_form' h0_5 hx1_6
   simp only [Value.slice.injEq, Option.some.injEq] at he; obtain ⟨rfl, _, rfl⟩ := he
   obtain ⟨v1_3, hc1_1, h1_6⟩ := rk_Ins_ h0_5 hx1_6
   refine tP rfl (fun w => yI st_102 h1_5 (idx_lt hx1_6) rfl) (tO (tY rfl (yn (hc1_1.mono hm.lez) isAgg106 sizeOf106 rfl) (tAs hS (tO (gb fun r1_3 hx1_7 => tf rfl rfl (fun a hf => e_call hf rfl call152 rfl (spec_l7Ins_ok _ u (sV b0_2 o0_1 u.codes.length c0_1) (hm.now h1) k_ x1_2 v1_3 (hm.now h1_6) _ hx1_7)) ?_)))))
   rintro v1_4 w ⟨rfl, hB⟩
   replace hm := hm.below' hB; clear hB
   refine tAn rfl (tP rfl (fun w => yN rfl) (tE (gsn 87 rfl (fun h1_7 => ?_) fun h1_7 => ?_)))
   ·
    exact gct rfl (gS (gR (gA rfl (gE (gRt (gLr ho0_2 hq0_4 (gr1 results108 rfl ⟨rfl, hm.below⟩)))))))
   exact gcf rfl (gSk (gR (gM rfl (gP (by omega) (by omega) rfl (gA rfl (gE (gze hm [0, 1, 2] rfl)))))))
  repeat clear hm
  intro i0_2 xs0_2 w hm hi0_7 hi0_8
  refine gS (gS (gR (gM rfl (gF fo_104_1 rfl (gL hm 2 isAgg102 rfl ?_)))))
  obtain ⟨p0_2, c0_5, rfl, hl0_2⟩ := ro_slice h0_5
  refine gY (yV st_102 rfl) (gB rfl (gE (go _ 76 rfl (decide_eq_false (by omega)) (gcf rfl (gXt (gHh (gS (gR (gY (yn (hm.blk_at 1 rfl) isAgg57 sizeOf57 rfl) (gM rfl (gCg rfl call153 (spec_l7Preds_ok _ x0_1 (sV b0_4 o0_2 x0_1.blocks.length c0_2) (hm.now h0_2) b_) ?_)))))))))))
  rintro r0_3 hx0_5 v0_5 w ⟨_, rfl, hB⟩
  replace hm := hm.give hB; clear hB
  refine gA rfl (gE (gS (gS (gR (gA rfl (gE ?_))))))
  obtain ⟨p0_3, c0_6, rfl, hl0_3⟩ := ro_slice (hm.ow_rep 0 rfl)
  refine gBk (gNf hm (fun i1_3 xs1_3 => [(2, (nV b_)), (7, (pV b0_3)), (8, (pV b0_5)), (12, (.slice p0_3 r0_3.length c0_6)), (13, (nV i1_3))]) (fun i1_3 xs1_3 => [blk b0_3 [(nV x0_1.params), (nV x0_1.regs), (sV b0_4 o0_2 x0_1.blocks.length c0_2)] 57, blk b0_5 [v0_2, (.slice p0_2 x0_2.ins.length c0_5), (nV x0_2.jump), (nV x0_2.on), (.slice p0_1 x0_2.next_.length c0_4)] 104, ow [(.slice p0_3 r0_3.length c0_6)] r0_3]) [2, 3, 0] rfl ?_ ?_)
  ·
   repeat clear hm
   intro r0_4 hq0_5 i1_3 xs1_3 w hm hi0_9 hi0_10 q0_3 ho0_4
   refine gS (gS (gR (gM rfl (gF fo_104_0 rfl (gL hm 1 isAgg101 rfl ?_)))))
   obtain ⟨p1_4, c1_7, rfl, hl1_5⟩ := ro_slice h0_4
   refine gY (yV st_101 rfl) (gB rfl (gE (go _ 95 rfl (decide_eq_true (by omega)) (gct rfl (gSk (gS (gBk (gS (gJ hm (fun s1_2 => [(2, (nV b_)), (7, (pV b0_3)), (8, (pV b0_5)), (12, (.slice p0_3 r0_3.length c0_6)), (13, (nV i1_3)), (135, (.bool (s1_2)))]) (fun s1_2 => [blk b0_3 [(nV x0_1.params), (nV x0_1.regs), (sV b0_4 o0_2 x0_1.blocks.length c0_2)] 57, blk b0_5 [(.slice p1_4 x0_2.phis.length c1_7), (.slice p0_2 x0_2.ins.length c0_5), (nV x0_2.jump), (nV x0_2.on), (.slice p0_1 x0_2.next_.length c0_4)] 104, ow [(.slice p0_3 r0_3.length c0_6)] r0_3]) (fun s1_2 => ?_) ?_)))))))))
   ·
    refine gW (.p 0 (.p 1 (.p 2 (.p 3 (.p 5 (.p 10 (.p 11 (.e 4 (.p 6 (.p 7 (.e 8 (.p 9 (.p 12 (.p 13 (.p 14 (.p 16 (.p 18 (.q 15 (.e 17 (.p 19 (.p 20 (.e 21 (.e 22 (.p 23 (.p 24 (.p 25 (.p 26 (.p 28 (.p 32 (.q 27 (.p 29 (.p 30 (.q 31 (.e 33 (.p 34 (.e 35 (.p 36 (.p 37 .fin)) .nil)) .nil))))))))))) .nil) .nil))) .nil)))))))) .nil))) .nil)))))))) [17, 21, 33] [0, 1, 2, 3, 5, 6, 7, 9, 10, 11, 12, 13, 14, 16, 18, 19, 20, 23, 24, 25, 26, 28, 29, 30, 32, 34, 36, 37] hm [0, 1, 2] [blk b0_3 [(nV x0_1.params), (nV x0_1.regs), (sV b0_4 o0_2 x0_1.blocks.length c0_2)] 57, blk b0_5 [(.slice p1_4 x0_2.phis.length c1_7), (.slice p0_2 x0_2.ins.length c0_5), (nV x0_2.jump), (nV x0_2.on), (.slice p0_1 x0_2.next_.length c0_4)] 104, ow [(.slice p0_3 r0_3.length c0_6)] r0_3] rfl mxo (by kernel_rfl) (fun _ _ _ h => h.2) fun w hm hS => tP rfl (fun w => yM rfl) (tP rfl (fun w => yB rfl) (tP rfl (fun w => yM rfl) (gsd 100 rfl (fun h2_3 => ?_) fun h2_3 => ?_)))
    ·
     refine tPo rfl rfl (tPo rfl rfl (tPo rfl rfl (tPo rfl rfl (tO (tEo rfl rfl (tAn rfl (tPo rfl rfl (tPo rfl rfl (tO (tEo rfl rfl (tAn rfl (tPo rfl rfl (tPo rfl rfl (tP rfl (fun w => yKt rfl) (tP rfl (fun w => yM rfl) (tPo rfl rfl (tPo rfl rfl (tQo rfl hS rfl (tO (tEo rfl rfl (tAs hS (tPo rfl rfl (tPo rfl rfl (tO (tEo rfl rfl (tAs hS (tO (tEo rfl rfl (tAn rfl (tPo rfl rfl ?_))))))))))))))))))))))))))))))
     exact tP rfl (fun w => yKt rfl) (tP rfl (fun w => yM rfl) (tPo rfl rfl (tPo rfl rfl (tPo rfl rfl (tQo rfl hS rfl (tPo rfl rfl (tPo rfl rfl (tQo rfl hS rfl (tO (tEo rfl rfl (tAs hS (tPo rfl rfl (tO (tEo rfl rfl (tAn rfl (tPo rfl rfl (tP rfl (fun w => yKt rfl) (tE (gz hm [0, 1, 2] rfl)))))))))))))))))))
    refine tP rfl (fun w => yF fo_104_0 rfl) (tP rfl (fun w => yM rfl) (tP rfl (fun w => yM rfl) (tP rfl (fun w => yV st_37 rfl) (tO (tY rfl (yL hm 1 isAgg101 rfl) (tAn rfl (gg fun x2_1 h2_4 hx2_2 => ?_)))))))
    obtain ⟨b2_1, o2_1, c2_2, he⟩ := idx_form' h0_4 hx2_2
    simp only [Value.slice.injEq, Option.some.injEq] at he; obtain ⟨rfl, _, rfl⟩ := he
    obtain ⟨v2_1, hc2_1, h2_5⟩ := rk_Phi_ h0_4 hx2_2
    refine tP rfl (fun w => yI st_101 h2_4 (idx_lt hx2_2) rfl) (tP rfl (fun w => yF fo_143_1 rfl) (tO (tY rfl (yl isAgg37 ((hc2_1.mono hm.lez).cell (j := 1) rfl) rfl) (tAn rfl ?_))))
    obtain ⟨p2_1, c2_3, rfl, hl2_1⟩ := ro_slice h2_5
    refine tP rfl (fun w => yV st_37 rfl) (tP rfl (fun w => yB rfl) (tP rfl (fun w => yKf rfl) (tP rfl (fun w => yM rfl) (gsd 112 rfl (fun h2_6 => ?_) fun h2_6 => ?_))))
    ·
     refine tPo rfl rfl (tPo rfl rfl (tQo rfl hS rfl (tO (tEo rfl rfl (tAs hS (tPo rfl rfl (tPo rfl rfl (tO (tEo rfl rfl (tAs hS (tO (tEo rfl rfl (tAn rfl (tPo rfl rfl (tP rfl (fun w => yKt rfl) (tP rfl (fun w => yM rfl) (tPo rfl rfl (tPo rfl rfl (tPo rfl rfl (tQo rfl hS rfl (tPo rfl rfl (tPo rfl rfl (tQo rfl hS rfl (tO (tEo rfl rfl (tAs hS (tPo rfl rfl (tO (tEo rfl rfl (tAn rfl ?_))))))))))))))))))))))))))))))
     exact tPo rfl rfl (tP rfl (fun w => yKt rfl) (tE (gz hm [0, 1, 2] rfl)))
    refine tP rfl (fun w => yF fo_104_0 rfl) (tP rfl (fun w => yM rfl) (tQ rfl hS (fun w hm => yn (hm.blk_at 0 rfl) isAgg57 sizeOf57 rfl) (tO (tY rfl (yL hm 1 isAgg101 rfl) (tAs hS (tP rfl (fun w => yI st_101 h2_4 (idx_lt hx2_2) rfl) (tP rfl (fun w => yF fo_143_1 rfl) (tO (tY rfl (yl isAgg37 ((hc2_1.mono hm.lez).cell (j := 1) rfl) rfl) (tAs hS (tO (gb fun r2_1 hx2_3 => tf rfl rfl (fun a hf => e_call hf rfl call154 rfl (spec_l7Regs_ok _ x0_1 (sV b0_4 o0_2 x0_1.blocks.length c0_2) (hm.now h0_2) x2_1.args (.slice p2_1 x2_1.args.length c2_3) (hm.now h2_5) _ hx2_3)) ?_))))))))))))
    rintro v2_2 w ⟨rfl, hB⟩
    replace hm := hm.below' hB; clear hB
    refine tAk hm [0, 1, 2] rfl fun hS => tP rfl (fun w => yN rfl) (tP rfl (fun w => yKf rfl) (tP rfl (fun w => yM rfl) (gsn 123 rfl (fun h2_7 => ?_) fun h2_7 => ?_)))
    ·
     exact tPo rfl rfl (tPo rfl rfl (tPo rfl rfl (tQo rfl hS rfl (tPo rfl rfl (tPo rfl rfl (tQo rfl hS rfl (tO (tEo rfl rfl (tAs hS (tPo rfl rfl (tO (tEo rfl rfl (tAn rfl (tPo rfl rfl (tP rfl (fun w => yKt rfl) (tE (gz hm [0, 1, 2] rfl)))))))))))))))))
    refine tP rfl (fun w => yF fo_104_0 rfl) (tP rfl (fun w => yM rfl) (tP rfl (fun w => yF fo_57_1 rfl) (tQ rfl hS (fun w hm => yL hm 1 isAgg101 rfl) (tP rfl (fun w => yI st_101 h2_4 (idx_lt hx2_2) rfl) (tP rfl (fun w => yF fo_143_0 rfl) (tQ rfl hS (fun w hm => yl isAgg3 ((hc2_1.mono hm.lez).cell (j := 0) rfl) rfl) (tO (tY rfl (yL hm 0 isAgg3 rfl) (tAs hS (tP rfl (fun w => yB rfl) (tO (gb fun r2_2 hx2_4 => tf rfl rfl (fun a hf => e_call hf rfl call61 rfl (spec_l1In_ok _ x2_1.to 0 (w64 (x0_1.regs - 1)) _ hx2_4)) ?_))))))))))))
    rintro v2_3 w ⟨rfl, hB⟩
    replace hm := hm.below' hB; clear hB
    exact tAn rfl (tP rfl (fun w => yN rfl) (tP rfl (fun w => yKf rfl) (tE (gz hm [0, 1, 2] rfl))))
   repeat clear hm
   intro s1_2 w hm
   refine gs 135 rfl (fun h1_8 => ?_) fun h1_8 => ?_
   ·
    exact gct rfl (gS (gR (gA rfl (gE (gRt (gLr ho0_4 hq0_5 (gr1 results108 rfl ⟨rfl, hm.below⟩)))))))
   exact gcf rfl (gSk (gR (gM rfl (gP (by omega) (by omega) rfl (gA rfl (gE (gze hm [0, 1, 2] rfl)))))))
  repeat clear hm
  intro i0_3 xs0_3 w hm hi0_11 hi0_12
  refine gS (gS (gR (gM rfl (gF fo_104_0 rfl (gL hm 1 isAgg101 rfl ?_)))))
  obtain ⟨p0_4, c0_7, rfl, hl0_4⟩ := ro_slice h0_4
  exact gY (yV st_101 rfl) (gB rfl (gE (go _ 95 rfl (decide_eq_false (by omega)) (gcf rfl (gXt (gHh (gS (gR (gA rfl (gE (gRt (gr1 results108 rfl ⟨rfl, hm.below⟩))))))))))))

theorem spec_UnitValid_ok (w0 : World) (u : Unit_) (v1 : Value) (h1 : GT.rep (hp w0) [v1] u.codes) :
    ConM Tryz.prog 67 [(.agg #[v1])] w0 (spec_UnitValid u) fun r v w' => v = (.bool (r)) ∧ Below w0.heap.size w0 w' := by
  unfold spec_UnitValid
  refine gcon func67 rfl fun r => ?_
  have hm := Mem.start w0
  refine gS (gR (gBx hm rfl fun b0_1 w hm => gA rfl (gE (gS (gS (gR (gF fo_30_0 rfl (gL hm 0 isAgg28 rfl ?_))))))))
  obtain ⟨p0_1, c0_1, rfl, hl0_1⟩ := ro_slice h1
  refine gY (yV st_28 rfl) (gC hm rfl call61 (spec_l1In_ok _ (u.codes.length : Int) 1 4) fun r0_1 hx0_1 w hm => gN rfl (gE (gsn 11 rfl (fun h0_1 => ?_) fun h0_1 => ?_)))
  ·
   exact gct rfl (gS (gR (gA rfl (gE (gRt (gr1 results67 rfl ⟨rfl, hm.below⟩))))))
  refine gcf rfl (gSk (gS (gR (gA rfl (gE (gS (gS (gR (gA rfl (gE (gBk (gNf hm (fun i1_1 xs1_1 => [(1, (pV b0_1)), (3, (nV xs1_1)), (4, (nV i1_1))]) (fun i1_1 xs1_1 => [blk b0_1 [(.slice p0_1 u.codes.length c0_1)] 30]) [0] rfl ?_ ?_))))))))))))
  ·
   repeat clear hm
   intro r0_2 hq0_1 i1_1 xs1_1 w hm hi0_1 hi0_2 q0_1 ho0_2
   refine gS (gS (gR (gM rfl (gF fo_30_0 rfl (gL hm 0 isAgg28 rfl (gY (yV st_28 rfl) (gB rfl (gE (go _ 16 rfl (decide_eq_true (by omega)) (gct rfl (gSk (gS (gBk (gS (gR (gF fo_30_0 rfl (gL hm 0 isAgg28 rfl (gM rfl (gg fun x1_1 h1_1 hx1_2 => ?_)))))))))))))))))))
   obtain ⟨b1_1, o1_1, c1_1, he⟩ := idx_form' h1 hx1_2
   simp only [Value.slice.injEq, Option.some.injEq] at he; obtain ⟨rfl, _, rfl⟩ := he
   obtain ⟨v1_1, hc1_1, h1_2⟩ := rk_Code_ h1 hx1_2
   refine gI st_28 h1_1 (idx_lt hx1_2) rfl (gY (yn (hc1_1.mono hm.lez) isAgg57 sizeOf57 rfl) (gAl hm zeroValue57 rfl fun b1_2 w hm => gSN hm 0 sizeOf57 (one_cons rfl (one_cons rfl (one_cons (rep_one h1_2) one_nil))) rfl fun w hm => gE (gS (gS (gJ hm (fun s1_1 => [(1, (pV b0_1)), (3, (nV xs1_1)), (4, (nV i1_1)), (5, (pV b1_2)), (42, (.bool (s1_1)))]) (fun s1_1 => [blk b0_1 [(sV b1_1 o1_1 u.codes.length c0_1)] 30, blk b1_2 [(nV x1_1.params), (nV x1_1.regs), v1_1] 57]) (fun s1_1 => ?_) ?_)))))
   ·
    refine gR (gF fo_57_0 rfl (gL hm 0 isAgg3 rfl (gC hm rfl call61 (spec_l1In_ok _ x1_1.params 0 3) fun r2_1 hx2_1 w hm => gN rfl (gM rfl (gsn 28 rfl (fun h2_1 => ?_) fun h2_1 => ?_)))))
    ·
     exact gO rfl (gO rfl (gO rfl (gO rfl (gO rfl (gO rfl (gKt rfl (gM rfl (gO rfl (gO rfl (gO rfl (gO rfl (gO rfl (gKt rfl (gE (gz hm [1, 0] rfl)))))))))))))))
    refine gF fo_57_1 rfl (gL hm 0 isAgg3 rfl (gF fo_57_0 rfl (gL hm 0 isAgg3 rfl (gC hm rfl call61 (spec_l1In_ok _ x1_1.regs x1_1.params 300) fun r2_2 hx2_2 w hm => gN rfl (gKf rfl (gM rfl (gsn 36 rfl (fun h2_2 => ?_) fun h2_2 => ?_)))))))
    ·
     exact gO rfl (gO rfl (gO rfl (gO rfl (gO rfl (gKt rfl (gE (gz hm [1, 0] rfl)))))))
    refine gF fo_57_2 rfl (gL hm 0 isAgg55 rfl ?_)
    obtain ⟨p2_1, c2_1, rfl, hl2_1⟩ := ro_slice h1_2
    exact gY (yV st_55 rfl) (gC hm rfl call61 (spec_l1In_ok _ (x1_1.blocks.length : Int) 1 160) fun r2_3 hx2_3 w hm => gN rfl (gKf rfl (gE (gz hm [1, 0] rfl))))
   repeat clear hm
   intro s1_1 w hm
   refine gs 42 rfl (fun h1_3 => ?_) fun h1_3 => ?_
   ·
    exact gct rfl (gS (gR (gA rfl (gE (gRt (gLr ho0_2 hq0_1 (gr1 results67 rfl ⟨rfl, hm.below⟩)))))))
   refine gcf rfl (gSk (gS (gR (gA rfl (gE (gBk (gNf hm (fun i2_1 xs2_1 => [(1, (pV b0_1)), (3, (nV xs2_1)), (4, (nV i1_1)), (5, (pV b1_2)), (6, (nV i2_1))]) (fun i2_1 xs2_1 => [blk b0_1 [(sV b1_1 o1_1 u.codes.length c0_1)] 30, blk b1_2 [(nV x1_1.params), (nV x1_1.regs), v1_1] 57]) [0, 1] rfl ?_ ?_)))))))
   ·
    repeat clear hm
    intro r1_1 hq1_2 i2_1 xs2_1 w hm hi1_1 hi1_2 q1_1 ho1_1
    refine gS (gS (gR (gM rfl (gF fo_57_2 rfl (gL hm 1 isAgg55 rfl ?_)))))
    obtain ⟨p2_2, c2_2, rfl, hl2_2⟩ := ro_slice h1_2
    refine gY (yV st_55 rfl) (gB rfl (gE (go _ 47 rfl (decide_eq_true (by omega)) (gct rfl (gSk (gS (gBk (gS (gW (.p 0 (.p 1 (.p 3 (.p 9 (.p 11 (.q 2 (.p 4 (.p 5 (.q 6 (.p 7 (.p 8 (.e 10 (.p 12 (.p 13 (.e 14 (.p 15 (.p 16 (.p 17 .fin))) .nil))) .nil)))))))))))) [10, 14] [0, 1, 3, 4, 5, 7, 8, 9, 11, 12, 13, 15, 16, 17] hm [0, 1] [blk b0_1 [(sV b1_1 o1_1 u.codes.length c0_1)] 30, blk b1_2 [(nV x1_1.params), (nV x1_1.regs), (.slice p2_2 x1_1.blocks.length c2_2)] 57] rfl mxo (by kernel_rfl) (fun _ _ _ h => h.2) fun w hm hS => tP rfl (fun w => yM rfl) (tP rfl (fun w => yF fo_57_2 rfl) (tP rfl (fun w => yM rfl) (tP rfl (fun w => yF fo_57_2 rfl) (tP rfl (fun w => yM rfl) (tQ rfl hS (fun w hm => yL hm 1 isAgg55 rfl) (gg fun x2_1 h2_3 hx2_5 => ?_)))))))))))))))
    obtain ⟨b2_1, o2_1, c2_3, he⟩ := idx_form' h1_2 hx2_5
    simp only [Value.slice.injEq, Option.some.injEq] at he; obtain ⟨rfl, _, rfl⟩ := he
    obtain ⟨v2_4, v2_5, v2_6, hc2_1, h2_4, h2_5, h2_6⟩ := rk_Block_ h1_2 hx2_5
    refine tP rfl (fun w => yI st_55 h2_3 (idx_lt hx2_5) rfl) (tP rfl (fun w => yF fo_104_1 rfl) (tQ rfl hS (fun w hm => yl isAgg102 ((hc2_1.mono hm.lez).cell (j := 1) rfl) rfl) ?_))
    obtain ⟨p2_3, c2_4, rfl, hl2_3⟩ := ro_slice h2_5
    refine tP rfl (fun w => yV st_102 rfl) (tP rfl (fun w => yB rfl) (tO (tY rfl (yL hm 1 isAgg55 rfl) (tAs hS (tP rfl (fun w => yI st_55 h2_3 (idx_lt hx2_5) rfl) (tP rfl (fun w => yF fo_104_0 rfl) (tO (tY rfl (yl isAgg101 ((hc2_1.mono hm.lez).cell (j := 0) rfl) rfl) (tAs hS ?_)))))))))
    obtain ⟨p2_4, c2_5, rfl, hl2_4⟩ := ro_slice h2_4
    refine tP rfl (fun w => yV st_101 rfl) (tP rfl (fun w => yB rfl) (tP rfl (fun w => yA rfl) (tE (gS (gJ hm (fun s2_1 => [(1, (pV b0_1)), (3, (nV (w64 ((w64 (xs2_1 + ((x2_1.ins.length : Int)))) + ((x2_1.phis.length : Int)))))), (4, (nV i1_1)), (5, (pV b1_2)), (6, (nV i2_1)), (75, (.bool (s2_1)))]) (fun s2_1 => [blk b0_1 [(sV b1_1 o1_1 u.codes.length c0_1)] 30, blk b1_2 [(nV x1_1.params), (nV x1_1.regs), (sV b2_1 o2_1 x1_1.blocks.length c2_2)] 57]) (fun s2_1 => ?_) ?_)))))
    ·
     refine gR (gM rfl (gB rfl (gM rfl (gsd 69 rfl (fun h3_1 => ?_) fun h3_1 => ?_))))
     ·
      exact gO rfl (gO rfl (gO rfl (gO rfl (gO rfl (gKt rfl (gE (gz hm [0, 1] rfl)))))))
     exact gY (yn (hm.blk_at 0 rfl) isAgg30 sizeOf30 rfl) (gM rfl (gM rfl (gC hm rfl call108 (spec_l7Block_ok _ u (sV b1_1 o1_1 u.codes.length c0_1) (hm.now h1) i1_1 i2_1) fun r3_1 hx3_1 w hm => gN rfl (gKf rfl (gE (gz hm [0, 1] rfl))))))
    repeat clear hm
    intro s2_1 w hm
    refine gs 75 rfl (fun h2_7 => ?_) fun h2_7 => ?_
    ·
     exact gct rfl (gS (gR (gA rfl (gE (gRt (gLr ho1_1 hq1_2 (gLr ho0_2 hq0_1 (gr1 results67 rfl ⟨rfl, hm.below⟩))))))))
    exact gcf rfl (gSk (gR (gM rfl (gP (by omega) (by omega) rfl (gA rfl (gE (gze hm [0, 1] rfl)))))))
   repeat clear hm
   intro i1_2 xs1_2 w hm hi1_3 hi1_4
   refine gS (gS (gR (gM rfl (gF fo_57_2 rfl (gL hm 1 isAgg55 rfl ?_)))))
   obtain ⟨p1_1, c1_2, rfl, hl1_1⟩ := ro_slice h1_2
   exact gY (yV st_55 rfl) (gB rfl (gE (go _ 47 rfl (decide_eq_false (by omega)) (gcf rfl (gXt (gHh (gR (gM rfl (gP (by omega) (by omega) rfl (gA rfl (gE (gze hm [0] rfl))))))))))))
  repeat clear hm
  intro i0_1 xs0_1 w hm hi0_3 hi0_4
  exact gS (gS (gR (gM rfl (gF fo_30_0 rfl (gL hm 0 isAgg28 rfl (gY (yV st_28 rfl) (gB rfl (gE (go _ 16 rfl (decide_eq_false (by omega)) (gcf rfl (gXt (gHh (gS (gR (gA rfl (gE (gRt (gr1 results67 rfl ⟨rfl, hm.below⟩))))))))))))))))))

theorem spec_l7CopyBlock_ok (w0 : World) (b_ : Block_) (v1 : Value) (h1 : GT.rep (hp w0) [v1] b_.phis) (v2 : Value) (h2 : GT.rep (hp w0) [v2] b_.ins) (v3 : Value) (h3 : GT.rep (hp w0) [v3] b_.next_) :
    ConM Tryz.prog 222 [(.agg #[v1, v2, (nV b_.jump), (nV b_.on), v3])] w0 (spec_l7CopyBlock b_) fun r v w' => ∃ (x1 : Value) (x2 : Value) (x3 : Value), v = (.agg #[x1, x2, (nV r.jump), (nV r.on), x3]) ∧ Mem w0 (hp w0) w' [ow [x1] r.phis, ow [x2] r.ins, ow [x3] r.next_] := by
  unfold spec_l7CopyBlock
  refine gcon func222 rfl fun r => ?_
  have hm := Mem.start w0
  refine gS (gR (gBx hm rfl fun b0_1 w hm => gAl hm zeroValue104 rfl fun b0_2 w hm => gE (gS (gJg (fun s0_1 a w => ∃ (b0_3 : Nat) (v0_1 : Value) (v0_2 : Value) (v0_3 : Value), St 74 [(1, (pV b0_1)), (2, (pV b0_2)), (3, (pV b0_3))] w0 (hp w0) [blk b0_1 [v1, v2, (nV b_.jump), (nV b_.on), v3] 104, blk b0_2 [(.slice none 0 0), (.slice none 0 0), (nV 0), (nV 0), (.slice none 0 0)] 104, blk b0_3 [v0_1, v0_2, (nV b_.jump), (nV b_.on), v0_3] 104, ow [v0_1] ([] : List Phi_), ow [v0_2] ([] : List Ins_), ow [v0_3] s0_1] a w) (fun s0_1 => ?_) ?_))))
  ·
   refine gW (.p 2 (.p 4 (.p 7 (.q 3 (.q 5 (.q 8 (.e 0 (.e 1 (.e 6 (.e 9 (.p 10 (.e 11 (.e 12 .fin .nil) .nil)) (.e 11 (.e 9 (.p 10 (.e 12 .fin .nil)) .nil) .nil)) (.e 11 (.e 6 (.e 9 (.p 10 (.e 12 .fin .nil)) .nil) .nil) .nil)) (.e 6 (.e 1 (.e 9 (.p 10 (.e 11 (.e 12 .fin .nil) .nil)) (.e 11 (.e 9 (.p 10 (.e 12 .fin .nil)) .nil) .nil)) (.e 9 (.e 1 (.p 10 (.e 11 (.e 12 .fin .nil) .nil)) (.e 11 (.e 1 (.p 10 (.e 12 .fin .nil)) .nil) .nil)) (.e 11 (.e 1 (.e 9 (.p 10 (.e 12 .fin .nil)) .nil) (.e 9 (.e 1 (.p 10 (.e 12 .fin .nil)) .nil) .nil)) .nil))) (.e 11 (.e 1 (.e 6 (.e 9 (.p 10 (.e 12 .fin .nil)) .nil) .nil) (.e 6 (.e 1 (.e 9 (.p 10 (.e 12 .fin .nil)) .nil) (.e 9 (.e 1 (.p 10 (.e 12 .fin .nil)) .nil) .nil)) .nil)) .nil))) (.e 1 (.e 0 (.e 6 (.e 9 (.p 10 (.e 11 (.e 12 .fin .nil) .nil)) (.e 11 (.e 9 (.p 10 (.e 12 .fin .nil)) .nil) .nil)) (.e 11 (.e 6 (.e 9 (.p 10 (.e 12 .fin .nil)) .nil) .nil) .nil)) (.e 6 (.e 0 (.e 9 (.p 10 (.e 11 (.e 12 .fin .nil) .nil)) (.e 11 (.e 9 (.p 10 (.e 12 .fin .nil)) .nil) .nil)) (.e 9 (.e 0 (.p 10 (.e 11 (.e 12 .fin .nil) .nil)) (.e 11 (.e 0 (.p 10 (.e 12 .fin .nil)) .nil) .nil)) (.e 11 (.e 0 (.e 9 (.p 10 (.e 12 .fin .nil)) .nil) (.e 9 (.e 0 (.p 10 (.e 12 .fin .nil)) .nil) .nil)) .nil))) (.e 11 (.e 0 (.e 6 (.e 9 (.p 10 (.e 12 .fin .nil)) .nil) .nil) (.e 6 (.e 0 (.e 9 (.p 10 (.e 12 .fin .nil)) .nil) (.e 9 (.e 0 (.p 10 (.e 12 .fin .nil)) .nil) .nil)) .nil)) .nil))) (.e 6 (.e 0 (.e 1 (.e 9 (.p 10 (.e 11 (.e 12 .fin .nil) .nil)) (.e 11 (.e 9 (.p 10 (.e 12 .fin .nil)) .nil) .nil)) (.e 9 (.e 1 (.p 10 (.e 11 (.e 12 .fin .nil) .nil)) (.e 11 (.e 1 (.p 10 (.e 12 .fin .nil)) .nil) .nil)) (.e 11 (.e 1 (.e 9 (.p 10 (.e 12 .fin .nil)) .nil) (.e 9 (.e 1 (.p 10 (.e 12 .fin .nil)) .nil) .nil)) .nil))) (.e 1 (.e 0 (.e 9 (.p 10 (.e 11 (.e 12 .fin .nil) .nil)) (.e 11 (.e 9 (.p 10 (.e 12 .fin .nil)) .nil) .nil)) (.e 9 (.e 0 (.p 10 (.e 11 (.e 12 .fin .nil) .nil)) (.e 11 (.e 0 (.p 10 (.e 12 .fin .nil)) .nil) .nil)) (.e 11 (.e 0 (.e 9 (.p 10 (.e 12 .fin .nil)) .nil) (.e 9 (.e 0 (.p 10 (.e 12 .fin .nil)) .nil) .nil)) .nil))) (.e 9 (.e 0 (.e 1 (.p 10 (.e 11 (.e 12 .fin .nil) .nil)) (.e 11 (.e 1 (.p 10 (.e 12 .fin .nil)) .nil) .nil)) (.e 1 (.e 0 (.p 10 (.e 11 (.e 12 .fin .nil) .nil)) (.e 11 (.e 0 (.p 10 (.e 12 .fin .nil)) .nil) .nil)) (.e 11 (.e 0 (.e 1 (.p 10 (.e 12 .fin .nil)) .nil) (.e 1 (.e 0 (.p 10 (.e 12 .fin .nil)) .nil) .nil)) .nil))) (.e 11 (.e 0 (.e 1 (.e 9 (.p 10 (.e 12 .fin .nil)) .nil) (.e 9 (.e 1 (.p 10 (.e 12 .fin .nil)) .nil) .nil)) (.e 1 (.e 0 (.e 9 (.p 10 (.e 12 .fin .nil)) .nil) (.e 9 (.e 0 (.p 10 (.e 12 .fin .nil)) .nil) .nil)) (.e 9 (.e 0 (.e 1 (.p 10 (.e 12 .fin .nil)) .nil) (.e 1 (.e 0 (.p 10 (.e 12 .fin .nil)) .nil) .nil)) .nil))) .nil)))) (.e 11 (.e 0 (.e 1 (.e 6 (.e 9 (.p 10 (.e 12 .fin .nil)) .nil) .nil) (.e 6 (.e 1 (.e 9 (.p 10 (.e 12 .fin .nil)) .nil) (.e 9 (.e 1 (.p 10 (.e 12 .fin .nil)) .nil) .nil)) .nil)) (.e 1 (.e 0 (.e 6 (.e 9 (.p 10 (.e 12 .fin .nil)) .nil) .nil) (.e 6 (.e 0 (.e 9 (.p 10 (.e 12 .fin .nil)) .nil) (.e 9 (.e 0 (.p 10 (.e 12 .fin .nil)) .nil) .nil)) .nil)) (.e 6 (.e 0 (.e 1 (.e 9 (.p 10 (.e 12 .fin .nil)) .nil) (.e 9 (.e 1 (.p 10 (.e 12 .fin .nil)) .nil) .nil)) (.e 1 (.e 0 (.e 9 (.p 10 (.e 12 .fin .nil)) .nil) (.e 9 (.e 0 (.p 10 (.e 12 .fin .nil)) .nil) .nil)) (.e 9 (.e 0 (.e 1 (.p 10 (.e 12 .fin .nil)) .nil) (.e 1 (.e 0 (.p 10 (.e 12 .fin .nil)) .nil) .nil)) .nil))) .nil))) .nil)))))))))) [0, 1, 3, 5, 6, 8, 9, 11] [2, 4, 7, 10] hm [0, 1] [blk b0_2 [(.slice none 0 0), (.slice none 0 0), (nV 0), (nV 0), (.slice none 0 0)] 104, blk b0_1 [v1, v2, (nV b_.jump), (nV b_.on), v3] 104] rfl mxo (by kernel_rfl) (fun _ _ _ h => h.2) fun w hm hS => ?_
   refine tP rfl (fun w => yF fo_104_2 rfl) (tP rfl (fun w => yF fo_104_3 rfl) (tP rfl (fun w => yF fo_104_4 rfl) (tQ rfl hS (fun w hm => yL hm 1 isAgg3 rfl) (tQ rfl hS (fun w hm => yL hm 1 isAgg3 rfl) (tQ rfl hS (fun w hm => yL hm 1 isAgg37 rfl) (gb fun pb1_1 hpb1_1 => ?_))))))
   refine tJg (.e 0 (.e 1 (.e 6 (.e 9 (.p 10 (.e 11 .fin .nil)) (.e 11 (.e 9 (.p 10 .fin) .nil) .nil)) (.e 11 (.e 6 (.e 9 (.p 10 .fin) .nil) .nil) .nil)) (.e 6 (.e 1 (.e 9 (.p 10 (.e 11 .fin .nil)) (.e 11 (.e 9 (.p 10 .fin) .nil) .nil)) (.e 9 (.e 1 (.p 10 (.e 11 .fin .nil)) (.e 11 (.e 1 (.p 10 .fin) .nil) .nil)) (.e 11 (.e 1 (.e 9 (.p 10 .fin) .nil) (.e 9 (.e 1 (.p 10 .fin) .nil) .nil)) .nil))) (.e 11 (.e 1 (.e 6 (.e 9 (.p 10 .fin) .nil) .nil) (.e 6 (.e 1 (.e 9 (.p 10 .fin) .nil) (.e 9 (.e 1 (.p 10 .fin) .nil) .nil)) .nil)) .nil))) (.e 1 (.e 0 (.e 6 (.e 9 (.p 10 (.e 11 .fin .nil)) (.e 11 (.e 9 (.p 10 .fin) .nil) .nil)) (.e 11 (.e 6 (.e 9 (.p 10 .fin) .nil) .nil) .nil)) (.e 6 (.e 0 (.e 9 (.p 10 (.e 11 .fin .nil)) (.e 11 (.e 9 (.p 10 .fin) .nil) .nil)) (.e 9 (.e 0 (.p 10 (.e 11 .fin .nil)) (.e 11 (.e 0 (.p 10 .fin) .nil) .nil)) (.e 11 (.e 0 (.e 9 (.p 10 .fin) .nil) (.e 9 (.e 0 (.p 10 .fin) .nil) .nil)) .nil))) (.e 11 (.e 0 (.e 6 (.e 9 (.p 10 .fin) .nil) .nil) (.e 6 (.e 0 (.e 9 (.p 10 .fin) .nil) (.e 9 (.e 0 (.p 10 .fin) .nil) .nil)) .nil)) .nil))) (.e 6 (.e 0 (.e 1 (.e 9 (.p 10 (.e 11 .fin .nil)) (.e 11 (.e 9 (.p 10 .fin) .nil) .nil)) (.e 9 (.e 1 (.p 10 (.e 11 .fin .nil)) (.e 11 (.e 1 (.p 10 .fin) .nil) .nil)) (.e 11 (.e 1 (.e 9 (.p 10 .fin) .nil) (.e 9 (.e 1 (.p 10 .fin) .nil) .nil)) .nil))) (.e 1 (.e 0 (.e 9 (.p 10 (.e 11 .fin .nil)) (.e 11 (.e 9 (.p 10 .fin) .nil) .nil)) (.e 9 (.e 0 (.p 10 (.e 11 .fin .nil)) (.e 11 (.e 0 (.p 10 .fin) .nil) .nil)) (.e 11 (.e 0 (.e 9 (.p 10 .fin) .nil) (.e 9 (.e 0 (.p 10 .fin) .nil) .nil)) .nil))) (.e 9 (.e 0 (.e 1 (.p 10 (.e 11 .fin .nil)) (.e 11 (.e 1 (.p 10 .fin) .nil) .nil)) (.e 1 (.e 0 (.p 10 (.e 11 .fin .nil)) (.e 11 (.e 0 (.p 10 .fin) .nil) .nil)) (.e 11 (.e 0 (.e 1 (.p 10 .fin) .nil) (.e 1 (.e 0 (.p 10 .fin) .nil) .nil)) .nil))) (.e 11 (.e 0 (.e 1 (.e 9 (.p 10 .fin) .nil) (.e 9 (.e 1 (.p 10 .fin) .nil) .nil)) (.e 1 (.e 0 (.e 9 (.p 10 .fin) .nil) (.e 9 (.e 0 (.p 10 .fin) .nil) .nil)) (.e 9 (.e 0 (.e 1 (.p 10 .fin) .nil) (.e 1 (.e 0 (.p 10 .fin) .nil) .nil)) .nil))) .nil)))) (.e 11 (.e 0 (.e 1 (.e 6 (.e 9 (.p 10 .fin) .nil) .nil) (.e 6 (.e 1 (.e 9 (.p 10 .fin) .nil) (.e 9 (.e 1 (.p 10 .fin) .nil) .nil)) .nil)) (.e 1 (.e 0 (.e 6 (.e 9 (.p 10 .fin) .nil) .nil) (.e 6 (.e 0 (.e 9 (.p 10 .fin) .nil) (.e 9 (.e 0 (.p 10 .fin) .nil) .nil)) .nil)) (.e 6 (.e 0 (.e 1 (.e 9 (.p 10 .fin) .nil) (.e 9 (.e 1 (.p 10 .fin) .nil) .nil)) (.e 1 (.e 0 (.e 9 (.p 10 .fin) .nil) (.e 9 (.e 0 (.p 10 .fin) .nil) .nil)) (.e 9 (.e 0 (.e 1 (.p 10 .fin) .nil) (.e 1 (.e 0 (.p 10 .fin) .nil) .nil)) .nil))) .nil))) .nil)))) (.e 12 .fin .nil) rfl (fun s1_1 a w => ∃ (b1_1 : Nat) (v1_1 : Value) (v1_2 : Value) (v1_3 : Value), St 74 [(1, (pV b0_1)), (2, (pV b0_2)), (3, (pV b1_1)), (17, (.agg #[v1_1, v1_2, (nV b_.jump), (nV b_.on), v1_3]))] w0 (hp w0) [blk b0_1 [v1, v2, (nV b_.jump), (nV b_.on), v3] 104, blk b0_2 [(.slice none 0 0), (.slice none 0 0), (nV 0), (nV 0), (.slice none 0 0)] 104, blk b1_1 [(.slice none 0 0), (.slice none 0 0), (nV 0), (nV 0), (.slice none 0 0)] 104, ow [v1_1] ([] : List Phi_), ow [v1_2] ([] : List Ins_), ow [v1_3] pb1_1] a w) (fun s1_1 => ?_) ?_
   ·
    refine tMo ?_ ?_
    ·
     refine tf rfl rfl (fun a hf => e_build0 (α := Phi_) et_101 hm rfl) ?_
     rintro v2_1 w hm
     refine tAk hm [1, 2] rfl fun hS => tMo ?_ ?_
     ·
      refine tf rfl rfl (fun a hf => e_build0 (α := Ins_) et_102 hm rfl) ?_
      rintro v2_2 w hm
      refine tAk hm [2, 3] rfl fun hS => tMo ?_ ?_
      ·
       refine tf rfl rfl (fun a hf => e_build0 (α := Int) et_37 hm rfl) ?_
       rintro v2_3 w hm
       refine tAk hm [3, 4] rfl fun hS => tMo ?_ ?_
       ·
        obtain ⟨h2_1, h2_1e⟩ := appM_some.1 hpb1_1
        refine tf rfl rfl (fun a hf => e_append 0 et_37 hf hm rfl (hm.now h3) rfl rfl rfl h2_1) ?_
        rintro v2_4 w hm
        rw [h2_1e] at hm
        refine tAk hm [3, 4] rfl fun hS => ?_
        obtain ⟨p2_1, c2_1, rfl, hl2_1⟩ := ro_slice (hm.ow_rep 2 rfl)
        obtain ⟨p2_2, c2_2, rfl, hl2_2⟩ := ro_slice (hm.ow_rep 1 rfl)
        obtain ⟨p2_3, c2_3, rfl, hl2_3⟩ := ro_slice (hm.ow_rep 0 rfl)
        refine tP rfl (fun w => yG rfl (y_build (vs := [(0, (.slice p2_1 ([] : List Phi_).length c2_1)), (1, (.slice p2_2 ([] : List Ins_).length c2_2)), (2, (nV b_.jump)), (3, (nV b_.on)), (4, (.slice p2_3 pb1_1.length c2_3))]) (cs := #[(.slice p2_1 ([] : List Phi_).length c2_1), (.slice p2_2 ([] : List Ins_).length c2_2), (nV b_.jump), (nV b_.on), (.slice p2_3 pb1_1.length c2_3)]) rfl rfl (by kernel_rfl))) (tO (tf rfl rfl (fun a hf => e_alloc hm zeroValue104 rfl rfl) ?_))
        rintro _ w ⟨b2_1, rfl, hm⟩
        exact tAk hm [4, 5] rfl fun hS => tE (gZ fun a hf => ⟨b2_1, (.slice p2_1 ([] : List Phi_).length c2_1), (.slice p2_2 ([] : List Ins_).length c2_2), (.slice p2_3 pb1_1.length c2_3), hf.sb rfl, hm.pk [5, 4, 0, 3, 2, 1] rfl rfl⟩)
       refine tO (tf rfl rfl (fun a hf => e_alloc hm zeroValue104 rfl rfl) ?_)
       rintro _ w ⟨b2_2, rfl, hm⟩
       refine tAk hm [4, 5] rfl fun hS => tO ?_
       obtain ⟨h2_2, h2_2e⟩ := appM_some.1 hpb1_1
       refine tf rfl rfl (fun a hf => e_append 1 et_37 hf hm rfl (hm.now h3) rfl rfl rfl h2_2) ?_
       rintro v2_5 w hm
       rw [h2_2e] at hm
       refine tAk hm [4, 5] rfl fun hS => ?_
       obtain ⟨p2_4, c2_4, rfl, hl2_4⟩ := ro_slice (hm.ow_rep 3 rfl)
       obtain ⟨p2_5, c2_5, rfl, hl2_5⟩ := ro_slice (hm.ow_rep 2 rfl)
       obtain ⟨p2_6, c2_6, rfl, hl2_6⟩ := ro_slice (hm.ow_rep 1 rfl)
       exact tP rfl (fun w => yG rfl (y_build (vs := [(0, (.slice p2_4 ([] : List Phi_).length c2_4)), (1, (.slice p2_5 ([] : List Ins_).length c2_5)), (2, (nV b_.jump)), (3, (nV b_.on)), (4, (.slice p2_6 pb1_1.length c2_6))]) (cs := #[(.slice p2_4 ([] : List Phi_).length c2_4), (.slice p2_5 ([] : List Ins_).length c2_5), (nV b_.jump), (nV b_.on), (.slice p2_6 pb1_1.length c2_6)]) rfl rfl (by kernel_rfl))) (tE (gZ fun a hf => ⟨b2_2, (.slice p2_4 ([] : List Phi_).length c2_4), (.slice p2_5 ([] : List Ins_).length c2_5), (.slice p2_6 pb1_1.length c2_6), hf.sb rfl, hm.pk [5, 4, 0, 3, 2, 1] rfl rfl⟩))
      refine tO (tf rfl rfl (fun a hf => e_alloc hm zeroValue104 rfl rfl) ?_)
      rintro _ w ⟨b2_3, rfl, hm⟩
      refine tAk hm [3, 4] rfl fun hS => tO (tf rfl rfl (fun a hf => e_build0 (α := Int) et_37 hm rfl) ?_)
      rintro v2_6 w hm
      refine tAk hm [4, 5] rfl fun hS => tO ?_
      obtain ⟨h2_3, h2_3e⟩ := appM_some.1 hpb1_1
      refine tf rfl rfl (fun a hf => e_append 0 et_37 hf hm rfl (hm.now h3) rfl rfl rfl h2_3) ?_
      rintro v2_7 w hm
      rw [h2_3e] at hm
      refine tAk hm [4, 5] rfl fun hS => ?_
      obtain ⟨p2_7, c2_7, rfl, hl2_7⟩ := ro_slice (hm.ow_rep 3 rfl)
      obtain ⟨p2_8, c2_8, rfl, hl2_8⟩ := ro_slice (hm.ow_rep 2 rfl)
      obtain ⟨p2_9, c2_9, rfl, hl2_9⟩ := ro_slice (hm.ow_rep 0 rfl)
      exact tP rfl (fun w => yG rfl (y_build (vs := [(0, (.slice p2_7 ([] : List Phi_).length c2_7)), (1, (.slice p2_8 ([] : List Ins_).length c2_8)), (2, (nV b_.jump)), (3, (nV b_.on)), (4, (.slice p2_9 pb1_1.length c2_9))]) (cs := #[(.slice p2_7 ([] : List Phi_).length c2_7), (.slice p2_8 ([] : List Ins_).length c2_8), (nV b_.jump), (nV b_.on), (.slice p2_9 pb1_1.length c2_9)]) rfl rfl (by kernel_rfl))) (tE (gZ fun a hf => ⟨b2_3, (.slice p2_7 ([] : List Phi_).length c2_7), (.slice p2_8 ([] : List Ins_).length c2_8), (.slice p2_9 pb1_1.length c2_9), hf.sb rfl, hm.pk [5, 4, 1, 3, 2, 0] rfl rfl⟩))
     refine tMo ?_ ?_
     ·
      refine tf rfl rfl (fun a hf => e_build0 (α := Int) et_37 hm rfl) ?_
      rintro v2_8 w hm
      refine tAk hm [2, 3] rfl fun hS => tMo ?_ ?_
      ·
       refine tf rfl rfl (fun a hf => e_build0 (α := Ins_) et_102 hm rfl) ?_
       rintro v2_9 w hm
       refine tAk hm [3, 4] rfl fun hS => tMo ?_ ?_
       ·
        obtain ⟨h2_4, h2_4e⟩ := appM_some.1 hpb1_1
        refine tf rfl rfl (fun a hf => e_append 1 et_37 hf hm rfl (hm.now h3) rfl rfl rfl h2_4) ?_
        rintro v2_10 w hm
        rw [h2_4e] at hm
        refine tAk hm [3, 4] rfl fun hS => ?_
        obtain ⟨p2_10, c2_10, rfl, hl2_10⟩ := ro_slice (hm.ow_rep 2 rfl)
        obtain ⟨p2_11, c2_11, rfl, hl2_11⟩ := ro_slice (hm.ow_rep 0 rfl)
        obtain ⟨p2_12, c2_12, rfl, hl2_12⟩ := ro_slice (hm.ow_rep 1 rfl)
        refine tP rfl (fun w => yG rfl (y_build (vs := [(0, (.slice p2_10 ([] : List Phi_).length c2_10)), (1, (.slice p2_11 ([] : List Ins_).length c2_11)), (2, (nV b_.jump)), (3, (nV b_.on)), (4, (.slice p2_12 pb1_1.length c2_12))]) (cs := #[(.slice p2_10 ([] : List Phi_).length c2_10), (.slice p2_11 ([] : List Ins_).length c2_11), (nV b_.jump), (nV b_.on), (.slice p2_12 pb1_1.length c2_12)]) rfl rfl (by kernel_rfl))) (tO (tf rfl rfl (fun a hf => e_alloc hm zeroValue104 rfl rfl) ?_))
        rintro _ w ⟨b2_4, rfl, hm⟩
        exact tAk hm [4, 5] rfl fun hS => tE (gZ fun a hf => ⟨b2_4, (.slice p2_10 ([] : List Phi_).length c2_10), (.slice p2_11 ([] : List Ins_).length c2_11), (.slice p2_12 pb1_1.length c2_12), hf.sb rfl, hm.pk [5, 4, 0, 3, 1, 2] rfl rfl⟩)
       refine tO (tf rfl rfl (fun a hf => e_alloc hm zeroValue104 rfl rfl) ?_)
       rintro _ w ⟨b2_5, rfl, hm⟩
       refine tAk hm [4, 5] rfl fun hS => tO ?_
       obtain ⟨h2_5, h2_5e⟩ := appM_some.1 hpb1_1
       refine tf rfl rfl (fun a hf => e_append 2 et_37 hf hm rfl (hm.now h3) rfl rfl rfl h2_5) ?_
       rintro v2_11 w hm
       rw [h2_5e] at hm
       refine tAk hm [4, 5] rfl fun hS => ?_
       obtain ⟨p2_13, c2_13, rfl, hl2_13⟩ := ro_slice (hm.ow_rep 3 rfl)
       obtain ⟨p2_14, c2_14, rfl, hl2_14⟩ := ro_slice (hm.ow_rep 1 rfl)
       obtain ⟨p2_15, c2_15, rfl, hl2_15⟩ := ro_slice (hm.ow_rep 2 rfl)
       exact tP rfl (fun w => yG rfl (y_build (vs := [(0, (.slice p2_13 ([] : List Phi_).length c2_13)), (1, (.slice p2_14 ([] : List Ins_).length c2_14)), (2, (nV b_.jump)), (3, (nV b_.on)), (4, (.slice p2_15 pb1_1.length c2_15))]) (cs := #[(.slice p2_13 ([] : List Phi_).length c2_13), (.slice p2_14 ([] : List Ins_).length c2_14), (nV b_.jump), (nV b_.on), (.slice p2_15 pb1_1.length c2_15)]) rfl rfl (by kernel_rfl))) (tE (gZ fun a hf => ⟨b2_5, (.slice p2_13 ([] : List Phi_).length c2_13), (.slice p2_14 ([] : List Ins_).length c2_14), (.slice p2_15 pb1_1.length c2_15), hf.sb rfl, hm.pk [5, 4, 0, 3, 1, 2] rfl rfl⟩))
      refine tMo ?_ ?_
      ·
       obtain ⟨h2_6, h2_6e⟩ := appM_some.1 hpb1_1
       refine tf rfl rfl (fun a hf => e_append 0 et_37 hf hm rfl (hm.now h3) rfl rfl rfl h2_6) ?_
       rintro v2_12 w hm
       rw [h2_6e] at hm
       refine tAk hm [2, 3] rfl fun hS => tMo ?_ ?_
       ·
        refine tf rfl rfl (fun a hf => e_build0 (α := Ins_) et_102 hm rfl) ?_
        rintro v2_13 w hm
        refine tAk hm [3, 4] rfl fun hS => ?_
        obtain ⟨p2_16, c2_16, rfl, hl2_16⟩ := ro_slice (hm.ow_rep 2 rfl)
        obtain ⟨p2_17, c2_17, rfl, hl2_17⟩ := ro_slice (hm.ow_rep 0 rfl)
        obtain ⟨p2_18, c2_18, rfl, hl2_18⟩ := ro_slice (hm.ow_rep 1 rfl)
        refine tP rfl (fun w => yG rfl (y_build (vs := [(0, (.slice p2_16 ([] : List Phi_).length c2_16)), (1, (.slice p2_17 ([] : List Ins_).length c2_17)), (2, (nV b_.jump)), (3, (nV b_.on)), (4, (.slice p2_18 pb1_1.length c2_18))]) (cs := #[(.slice p2_16 ([] : List Phi_).length c2_16), (.slice p2_17 ([] : List Ins_).length c2_17), (nV b_.jump), (nV b_.on), (.slice p2_18 pb1_1.length c2_18)]) rfl rfl (by kernel_rfl))) (tO (tf rfl rfl (fun a hf => e_alloc hm zeroValue104 rfl rfl) ?_))
        rintro _ w ⟨b2_6, rfl, hm⟩
        exact tAk hm [4, 5] rfl fun hS => tE (gZ fun a hf => ⟨b2_6, (.slice p2_16 ([] : List Phi_).length c2_16), (.slice p2_17 ([] : List Ins_).length c2_17), (.slice p2_18 pb1_1.length c2_18), hf.sb rfl, hm.pk [5, 4, 0, 3, 1, 2] rfl rfl⟩)
       refine tO (tf rfl rfl (fun a hf => e_alloc hm zeroValue104 rfl rfl) ?_)
       rintro _ w ⟨b2_7, rfl, hm⟩
       refine tAk hm [3, 4] rfl fun hS => tO (tf rfl rfl (fun a hf => e_build0 (α := Ins_) et_102 hm rfl) ?_)
       rintro v2_14 w hm
       refine tAk hm [4, 5] rfl fun hS => ?_
       obtain ⟨p2_19, c2_19, rfl, hl2_19⟩ := ro_slice (hm.ow_rep 3 rfl)
       obtain ⟨p2_20, c2_20, rfl, hl2_20⟩ := ro_slice (hm.ow_rep 0 rfl)
       obtain ⟨p2_21, c2_21, rfl, hl2_21⟩ := ro_slice (hm.ow_rep 2 rfl)
       exact tP rfl (fun w => yG rfl (y_build (vs := [(0, (.slice p2_19 ([] : List Phi_).length c2_19)), (1, (.slice p2_20 ([] : List Ins_).length c2_20)), (2, (nV b_.jump)), (3, (nV b_.on)), (4, (.slice p2_21 pb1_1.length c2_21))]) (cs := #[(.slice p2_19 ([] : List Phi_).length c2_19), (.slice p2_20 ([] : List Ins_).length c2_20), (nV b_.jump), (nV b_.on), (.slice p2_21 pb1_1.length c2_21)]) rfl rfl (by kernel_rfl))) (tE (gZ fun a hf => ⟨b2_7, (.slice p2_19 ([] : List Phi_).length c2_19), (.slice p2_20 ([] : List Ins_).length c2_20), (.slice p2_21 pb1_1.length c2_21), hf.sb rfl, hm.pk [5, 4, 1, 3, 0, 2] rfl rfl⟩))
      refine tO (tf rfl rfl (fun a hf => e_alloc hm zeroValue104 rfl rfl) ?_)
      rintro _ w ⟨b2_8, rfl, hm⟩
      refine tAk hm [3, 4] rfl fun hS => tMo ?_ ?_
      ·
       refine tf rfl rfl (fun a hf => e_build0 (α := Ins_) et_102 hm rfl) ?_
       rintro v2_15 w hm
       refine tAk hm [4, 5] rfl fun hS => tO ?_
       obtain ⟨h2_7, h2_7e⟩ := appM_some.1 hpb1_1
       refine tf rfl rfl (fun a hf => e_append 2 et_37 hf hm rfl (hm.now h3) rfl rfl rfl h2_7) ?_
       rintro v2_16 w hm
       rw [h2_7e] at hm
       refine tAk hm [4, 5] rfl fun hS => ?_
       obtain ⟨p2_22, c2_22, rfl, hl2_22⟩ := ro_slice (hm.ow_rep 3 rfl)
       obtain ⟨p2_23, c2_23, rfl, hl2_23⟩ := ro_slice (hm.ow_rep 0 rfl)
       obtain ⟨p2_24, c2_24, rfl, hl2_24⟩ := ro_slice (hm.ow_rep 2 rfl)
       exact tP rfl (fun w => yG rfl (y_build (vs := [(0, (.slice p2_22 ([] : List Phi_).length c2_22)), (1, (.slice p2_23 ([] : List Ins_).length c2_23)), (2, (nV b_.jump)), (3, (nV b_.on)), (4, (.slice p2_24 pb1_1.length c2_24))]) (cs := #[(.slice p2_22 ([] : List Phi_).length c2_22), (.slice p2_23 ([] : List Ins_).length c2_23), (nV b_.jump), (nV b_.on), (.slice p2_24 pb1_1.length c2_24)]) rfl rfl (by kernel_rfl))) (tE (gZ fun a hf => ⟨b2_8, (.slice p2_22 ([] : List Phi_).length c2_22), (.slice p2_23 ([] : List Ins_).length c2_23), (.slice p2_24 pb1_1.length c2_24), hf.sb rfl, hm.pk [5, 4, 1, 3, 0, 2] rfl rfl⟩))
      refine tO ?_
      obtain ⟨h2_8, h2_8e⟩ := appM_some.1 hpb1_1
      refine tf rfl rfl (fun a hf => e_append 1 et_37 hf hm rfl (hm.now h3) rfl rfl rfl h2_8) ?_
      rintro v2_17 w hm
      rw [h2_8e] at hm
      refine tAk hm [3, 4] rfl fun hS => tO (tf rfl rfl (fun a hf => e_build0 (α := Ins_) et_102 hm rfl) ?_)
      rintro v2_18 w hm
      refine tAk hm [4, 5] rfl fun hS => ?_
      obtain ⟨p2_25, c2_25, rfl, hl2_25⟩ := ro_slice (hm.ow_rep 3 rfl)
      obtain ⟨p2_26, c2_26, rfl, hl2_26⟩ := ro_slice (hm.ow_rep 0 rfl)
      obtain ⟨p2_27, c2_27, rfl, hl2_27⟩ := ro_slice (hm.ow_rep 2 rfl)
      exact tP rfl (fun w => yG rfl (y_build (vs := [(0, (.slice p2_25 ([] : List Phi_).length c2_25)), (1, (.slice p2_26 ([] : List Ins_).length c2_26)), (2, (nV b_.jump)), (3, (nV b_.on)), (4, (.slice p2_27 pb1_1.length c2_27))]) (cs := #[(.slice p2_25 ([] : List Phi_).length c2_25), (.slice p2_26 ([] : List Ins_).length c2_26), (nV b_.jump), (nV b_.on), (.slice p2_27 pb1_1.length c2_27)]) rfl rfl (by kernel_rfl))) (tE (gZ fun a hf => ⟨b2_8, (.slice p2_25 ([] : List Phi_).length c2_25), (.slice p2_26 ([] : List Ins_).length c2_26), (.slice p2_27 pb1_1.length c2_27), hf.sb rfl, hm.pk [5, 4, 1, 3, 0, 2] rfl rfl⟩))
     refine tO (tf rfl rfl (fun a hf => e_alloc hm zeroValue104 rfl rfl) ?_)
     rintro _ w ⟨b2_9, rfl, hm⟩
     refine tAk hm [2, 3] rfl fun hS => tMo ?_ ?_
     ·
      refine tf rfl rfl (fun a hf => e_build0 (α := Ins_) et_102 hm rfl) ?_
      rintro v2_19 w hm
      refine tAk hm [3, 4] rfl fun hS => tO (tf rfl rfl (fun a hf => e_build0 (α := Int) et_37 hm rfl) ?_)
      rintro v2_20 w hm
      refine tAk hm [4, 5] rfl fun hS => tO ?_
      obtain ⟨h2_9, h2_9e⟩ := appM_some.1 hpb1_1
      refine tf rfl rfl (fun a hf => e_append 0 et_37 hf hm rfl (hm.now h3) rfl rfl rfl h2_9) ?_
      rintro v2_21 w hm
      rw [h2_9e] at hm
      refine tAk hm [4, 5] rfl fun hS => ?_
      obtain ⟨p2_28, c2_28, rfl, hl2_28⟩ := ro_slice (hm.ow_rep 3 rfl)
      obtain ⟨p2_29, c2_29, rfl, hl2_29⟩ := ro_slice (hm.ow_rep 1 rfl)
      obtain ⟨p2_30, c2_30, rfl, hl2_30⟩ := ro_slice (hm.ow_rep 0 rfl)
      exact tP rfl (fun w => yG rfl (y_build (vs := [(0, (.slice p2_28 ([] : List Phi_).length c2_28)), (1, (.slice p2_29 ([] : List Ins_).length c2_29)), (2, (nV b_.jump)), (3, (nV b_.on)), (4, (.slice p2_30 pb1_1.length c2_30))]) (cs := #[(.slice p2_28 ([] : List Phi_).length c2_28), (.slice p2_29 ([] : List Ins_).length c2_29), (nV b_.jump), (nV b_.on), (.slice p2_30 pb1_1.length c2_30)]) rfl rfl (by kernel_rfl))) (tE (gZ fun a hf => ⟨b2_9, (.slice p2_28 ([] : List Phi_).length c2_28), (.slice p2_29 ([] : List Ins_).length c2_29), (.slice p2_30 pb1_1.length c2_30), hf.sb rfl, hm.pk [5, 4, 2, 3, 1, 0] rfl rfl⟩))
     refine tO (tf rfl rfl (fun a hf => e_build0 (α := Int) et_37 hm rfl) ?_)
     rintro v2_22 w hm
     refine tAk hm [3, 4] rfl fun hS => tMo ?_ ?_
     ·
      refine tf rfl rfl (fun a hf => e_build0 (α := Ins_) et_102 hm rfl) ?_
      rintro v2_23 w hm
      refine tAk hm [4, 5] rfl fun hS => tO ?_
      obtain ⟨h2_10, h2_10e⟩ := appM_some.1 hpb1_1
      refine tf rfl rfl (fun a hf => e_append 1 et_37 hf hm rfl (hm.now h3) rfl rfl rfl h2_10) ?_
      rintro v2_24 w hm
      rw [h2_10e] at hm
      refine tAk hm [4, 5] rfl fun hS => ?_
      obtain ⟨p2_31, c2_31, rfl, hl2_31⟩ := ro_slice (hm.ow_rep 3 rfl)
      obtain ⟨p2_32, c2_32, rfl, hl2_32⟩ := ro_slice (hm.ow_rep 0 rfl)
      obtain ⟨p2_33, c2_33, rfl, hl2_33⟩ := ro_slice (hm.ow_rep 1 rfl)
      exact tP rfl (fun w => yG rfl (y_build (vs := [(0, (.slice p2_31 ([] : List Phi_).length c2_31)), (1, (.slice p2_32 ([] : List Ins_).length c2_32)), (2, (nV b_.jump)), (3, (nV b_.on)), (4, (.slice p2_33 pb1_1.length c2_33))]) (cs := #[(.slice p2_31 ([] : List Phi_).length c2_31), (.slice p2_32 ([] : List Ins_).length c2_32), (nV b_.jump), (nV b_.on), (.slice p2_33 pb1_1.length c2_33)]) rfl rfl (by kernel_rfl))) (tE (gZ fun a hf => ⟨b2_9, (.slice p2_31 ([] : List Phi_).length c2_31), (.slice p2_32 ([] : List Ins_).length c2_32), (.slice p2_33 pb1_1.length c2_33), hf.sb rfl, hm.pk [5, 4, 2, 3, 0, 1] rfl rfl⟩))
     refine tO ?_
     obtain ⟨h2_11, h2_11e⟩ := appM_some.1 hpb1_1
     refine tf rfl rfl (fun a hf => e_append 0 et_37 hf hm rfl (hm.now h3) rfl rfl rfl h2_11) ?_
     rintro v2_25 w hm
     rw [h2_11e] at hm
     refine tAk hm [3, 4] rfl fun hS => tO (tf rfl rfl (fun a hf => e_build0 (α := Ins_) et_102 hm rfl) ?_)
     rintro v2_26 w hm
     refine tAk hm [4, 5] rfl fun hS => ?_
     obtain ⟨p2_34, c2_34, rfl, hl2_34⟩ := ro_slice (hm.ow_rep 3 rfl)
     obtain ⟨p2_35, c2_35, rfl, hl2_35⟩ := ro_slice (hm.ow_rep 0 rfl)
     obtain ⟨p2_36, c2_36, rfl, hl2_36⟩ := ro_slice (hm.ow_rep 1 rfl)
     exact tP rfl (fun w => yG rfl (y_build (vs := [(0, (.slice p2_34 ([] : List Phi_).length c2_34)), (1, (.slice p2_35 ([] : List Ins_).length c2_35)), (2, (nV b_.jump)), (3, (nV b_.on)), (4, (.slice p2_36 pb1_1.length c2_36))]) (cs := #[(.slice p2_34 ([] : List Phi_).length c2_34), (.slice p2_35 ([] : List Ins_).length c2_35), (nV b_.jump), (nV b_.on), (.slice p2_36 pb1_1.length c2_36)]) rfl rfl (by kernel_rfl))) (tE (gZ fun a hf => ⟨b2_9, (.slice p2_34 ([] : List Phi_).length c2_34), (.slice p2_35 ([] : List Ins_).length c2_35), (.slice p2_36 pb1_1.length c2_36), hf.sb rfl, hm.pk [5, 4, 2, 3, 0, 1] rfl rfl⟩))
    refine tMo ?_ ?_
    ·
     refine tf rfl rfl (fun a hf => e_build0 (α := Ins_) et_102 hm rfl) ?_
     rintro v2_27 w hm
     refine tAk hm [1, 2] rfl fun hS => tMo ?_ ?_
     ·
      refine tf rfl rfl (fun a hf => e_build0 (α := Phi_) et_101 hm rfl) ?_
      rintro v2_28 w hm
      refine tAk hm [2, 3] rfl fun hS => tMo ?_ ?_
      ·
       refine tf rfl rfl (fun a hf => e_build0 (α := Int) et_37 hm rfl) ?_
       rintro v2_29 w hm
       refine tAk hm [3, 4] rfl fun hS => tMo ?_ ?_
       ·
        obtain ⟨h2_12, h2_12e⟩ := appM_some.1 hpb1_1
        refine tf rfl rfl (fun a hf => e_append 0 et_37 hf hm rfl (hm.now h3) rfl rfl rfl h2_12) ?_
        rintro v2_30 w hm
        rw [h2_12e] at hm
        refine tAk hm [3, 4] rfl fun hS => ?_
        obtain ⟨p2_37, c2_37, rfl, hl2_37⟩ := ro_slice (hm.ow_rep 1 rfl)
        obtain ⟨p2_38, c2_38, rfl, hl2_38⟩ := ro_slice (hm.ow_rep 2 rfl)
        obtain ⟨p2_39, c2_39, rfl, hl2_39⟩ := ro_slice (hm.ow_rep 0 rfl)
        refine tP rfl (fun w => yG rfl (y_build (vs := [(0, (.slice p2_37 ([] : List Phi_).length c2_37)), (1, (.slice p2_38 ([] : List Ins_).length c2_38)), (2, (nV b_.jump)), (3, (nV b_.on)), (4, (.slice p2_39 pb1_1.length c2_39))]) (cs := #[(.slice p2_37 ([] : List Phi_).length c2_37), (.slice p2_38 ([] : List Ins_).length c2_38), (nV b_.jump), (nV b_.on), (.slice p2_39 pb1_1.length c2_39)]) rfl rfl (by kernel_rfl))) (tO (tf rfl rfl (fun a hf => e_alloc hm zeroValue104 rfl rfl) ?_))
        rintro _ w ⟨b2_10, rfl, hm⟩
        exact tAk hm [4, 5] rfl fun hS => tE (gZ fun a hf => ⟨b2_10, (.slice p2_37 ([] : List Phi_).length c2_37), (.slice p2_38 ([] : List Ins_).length c2_38), (.slice p2_39 pb1_1.length c2_39), hf.sb rfl, hm.pk [5, 4, 0, 2, 3, 1] rfl rfl⟩)
       refine tO (tf rfl rfl (fun a hf => e_alloc hm zeroValue104 rfl rfl) ?_)
       rintro _ w ⟨b2_11, rfl, hm⟩
       refine tAk hm [4, 5] rfl fun hS => tO ?_
       obtain ⟨h2_13, h2_13e⟩ := appM_some.1 hpb1_1
       refine tf rfl rfl (fun a hf => e_append 1 et_37 hf hm rfl (hm.now h3) rfl rfl rfl h2_13) ?_
       rintro v2_31 w hm
       rw [h2_13e] at hm
       refine tAk hm [4, 5] rfl fun hS => ?_
       obtain ⟨p2_40, c2_40, rfl, hl2_40⟩ := ro_slice (hm.ow_rep 2 rfl)
       obtain ⟨p2_41, c2_41, rfl, hl2_41⟩ := ro_slice (hm.ow_rep 3 rfl)
       obtain ⟨p2_42, c2_42, rfl, hl2_42⟩ := ro_slice (hm.ow_rep 1 rfl)
       exact tP rfl (fun w => yG rfl (y_build (vs := [(0, (.slice p2_40 ([] : List Phi_).length c2_40)), (1, (.slice p2_41 ([] : List Ins_).length c2_41)), (2, (nV b_.jump)), (3, (nV b_.on)), (4, (.slice p2_42 pb1_1.length c2_42))]) (cs := #[(.slice p2_40 ([] : List Phi_).length c2_40), (.slice p2_41 ([] : List Ins_).length c2_41), (nV b_.jump), (nV b_.on), (.slice p2_42 pb1_1.length c2_42)]) rfl rfl (by kernel_rfl))) (tE (gZ fun a hf => ⟨b2_11, (.slice p2_40 ([] : List Phi_).length c2_40), (.slice p2_41 ([] : List Ins_).length c2_41), (.slice p2_42 pb1_1.length c2_42), hf.sb rfl, hm.pk [5, 4, 0, 2, 3, 1] rfl rfl⟩))
      refine tO (tf rfl rfl (fun a hf => e_alloc hm zeroValue104 rfl rfl) ?_)
      rintro _ w ⟨b2_12, rfl, hm⟩
      refine tAk hm [3, 4] rfl fun hS => tO (tf rfl rfl (fun a hf => e_build0 (α := Int) et_37 hm rfl) ?_)
      rintro v2_32 w hm
      refine tAk hm [4, 5] rfl fun hS => tO ?_
      obtain ⟨h2_14, h2_14e⟩ := appM_some.1 hpb1_1
      refine tf rfl rfl (fun a hf => e_append 0 et_37 hf hm rfl (hm.now h3) rfl rfl rfl h2_14) ?_
      rintro v2_33 w hm
      rw [h2_14e] at hm
      refine tAk hm [4, 5] rfl fun hS => ?_
      obtain ⟨p2_43, c2_43, rfl, hl2_43⟩ := ro_slice (hm.ow_rep 2 rfl)
      obtain ⟨p2_44, c2_44, rfl, hl2_44⟩ := ro_slice (hm.ow_rep 3 rfl)
      obtain ⟨p2_45, c2_45, rfl, hl2_45⟩ := ro_slice (hm.ow_rep 0 rfl)
      exact tP rfl (fun w => yG rfl (y_build (vs := [(0, (.slice p2_43 ([] : List Phi_).length c2_43)), (1, (.slice p2_44 ([] : List Ins_).length c2_44)), (2, (nV b_.jump)), (3, (nV b_.on)), (4, (.slice p2_45 pb1_1.length c2_45))]) (cs := #[(.slice p2_43 ([] : List Phi_).length c2_43), (.slice p2_44 ([] : List Ins_).length c2_44), (nV b_.jump), (nV b_.on), (.slice p2_45 pb1_1.length c2_45)]) rfl rfl (by kernel_rfl))) (tE (gZ fun a hf => ⟨b2_12, (.slice p2_43 ([] : List Phi_).length c2_43), (.slice p2_44 ([] : List Ins_).length c2_44), (.slice p2_45 pb1_1.length c2_45), hf.sb rfl, hm.pk [5, 4, 1, 2, 3, 0] rfl rfl⟩))
     refine tMo ?_ ?_
     ·
      refine tf rfl rfl (fun a hf => e_build0 (α := Int) et_37 hm rfl) ?_
      rintro v2_34 w hm
      refine tAk hm [2, 3] rfl fun hS => tMo ?_ ?_
      ·
       refine tf rfl rfl (fun a hf => e_build0 (α := Phi_) et_101 hm rfl) ?_
       rintro v2_35 w hm
       refine tAk hm [3, 4] rfl fun hS => tMo ?_ ?_
       ·
        obtain ⟨h2_15, h2_15e⟩ := appM_some.1 hpb1_1
        refine tf rfl rfl (fun a hf => e_append 1 et_37 hf hm rfl (hm.now h3) rfl rfl rfl h2_15) ?_
        rintro v2_36 w hm
        rw [h2_15e] at hm
        refine tAk hm [3, 4] rfl fun hS => ?_
        obtain ⟨p2_46, c2_46, rfl, hl2_46⟩ := ro_slice (hm.ow_rep 0 rfl)
        obtain ⟨p2_47, c2_47, rfl, hl2_47⟩ := ro_slice (hm.ow_rep 2 rfl)
        obtain ⟨p2_48, c2_48, rfl, hl2_48⟩ := ro_slice (hm.ow_rep 1 rfl)
        refine tP rfl (fun w => yG rfl (y_build (vs := [(0, (.slice p2_46 ([] : List Phi_).length c2_46)), (1, (.slice p2_47 ([] : List Ins_).length c2_47)), (2, (nV b_.jump)), (3, (nV b_.on)), (4, (.slice p2_48 pb1_1.length c2_48))]) (cs := #[(.slice p2_46 ([] : List Phi_).length c2_46), (.slice p2_47 ([] : List Ins_).length c2_47), (nV b_.jump), (nV b_.on), (.slice p2_48 pb1_1.length c2_48)]) rfl rfl (by kernel_rfl))) (tO (tf rfl rfl (fun a hf => e_alloc hm zeroValue104 rfl rfl) ?_))
        rintro _ w ⟨b2_13, rfl, hm⟩
        exact tAk hm [4, 5] rfl fun hS => tE (gZ fun a hf => ⟨b2_13, (.slice p2_46 ([] : List Phi_).length c2_46), (.slice p2_47 ([] : List Ins_).length c2_47), (.slice p2_48 pb1_1.length c2_48), hf.sb rfl, hm.pk [5, 4, 0, 1, 3, 2] rfl rfl⟩)
       refine tO (tf rfl rfl (fun a hf => e_alloc hm zeroValue104 rfl rfl) ?_)
       rintro _ w ⟨b2_14, rfl, hm⟩
       refine tAk hm [4, 5] rfl fun hS => tO ?_
       obtain ⟨h2_16, h2_16e⟩ := appM_some.1 hpb1_1
       refine tf rfl rfl (fun a hf => e_append 2 et_37 hf hm rfl (hm.now h3) rfl rfl rfl h2_16) ?_
       rintro v2_37 w hm
       rw [h2_16e] at hm
       refine tAk hm [4, 5] rfl fun hS => ?_
       obtain ⟨p2_49, c2_49, rfl, hl2_49⟩ := ro_slice (hm.ow_rep 1 rfl)
       obtain ⟨p2_50, c2_50, rfl, hl2_50⟩ := ro_slice (hm.ow_rep 3 rfl)
       obtain ⟨p2_51, c2_51, rfl, hl2_51⟩ := ro_slice (hm.ow_rep 2 rfl)
       exact tP rfl (fun w => yG rfl (y_build (vs := [(0, (.slice p2_49 ([] : List Phi_).length c2_49)), (1, (.slice p2_50 ([] : List Ins_).length c2_50)), (2, (nV b_.jump)), (3, (nV b_.on)), (4, (.slice p2_51 pb1_1.length c2_51))]) (cs := #[(.slice p2_49 ([] : List Phi_).length c2_49), (.slice p2_50 ([] : List Ins_).length c2_50), (nV b_.jump), (nV b_.on), (.slice p2_51 pb1_1.length c2_51)]) rfl rfl (by kernel_rfl))) (tE (gZ fun a hf => ⟨b2_14, (.slice p2_49 ([] : List Phi_).length c2_49), (.slice p2_50 ([] : List Ins_).length c2_50), (.slice p2_51 pb1_1.length c2_51), hf.sb rfl, hm.pk [5, 4, 0, 1, 3, 2] rfl rfl⟩))
      refine tMo ?_ ?_
      ·
       obtain ⟨h2_17, h2_17e⟩ := appM_some.1 hpb1_1
       refine tf rfl rfl (fun a hf => e_append 0 et_37 hf hm rfl (hm.now h3) rfl rfl rfl h2_17) ?_
       rintro v2_38 w hm
       rw [h2_17e] at hm
       refine tAk hm [2, 3] rfl fun hS => tMo ?_ ?_
       ·
        refine tf rfl rfl (fun a hf => e_build0 (α := Phi_) et_101 hm rfl) ?_
        rintro v2_39 w hm
        refine tAk hm [3, 4] rfl fun hS => ?_
        obtain ⟨p2_52, c2_52, rfl, hl2_52⟩ := ro_slice (hm.ow_rep 0 rfl)
        obtain ⟨p2_53, c2_53, rfl, hl2_53⟩ := ro_slice (hm.ow_rep 2 rfl)
        obtain ⟨p2_54, c2_54, rfl, hl2_54⟩ := ro_slice (hm.ow_rep 1 rfl)
        refine tP rfl (fun w => yG rfl (y_build (vs := [(0, (.slice p2_52 ([] : List Phi_).length c2_52)), (1, (.slice p2_53 ([] : List Ins_).length c2_53)), (2, (nV b_.jump)), (3, (nV b_.on)), (4, (.slice p2_54 pb1_1.length c2_54))]) (cs := #[(.slice p2_52 ([] : List Phi_).length c2_52), (.slice p2_53 ([] : List Ins_).length c2_53), (nV b_.jump), (nV b_.on), (.slice p2_54 pb1_1.length c2_54)]) rfl rfl (by kernel_rfl))) (tO (tf rfl rfl (fun a hf => e_alloc hm zeroValue104 rfl rfl) ?_))
        rintro _ w ⟨b2_15, rfl, hm⟩
        exact tAk hm [4, 5] rfl fun hS => tE (gZ fun a hf => ⟨b2_15, (.slice p2_52 ([] : List Phi_).length c2_52), (.slice p2_53 ([] : List Ins_).length c2_53), (.slice p2_54 pb1_1.length c2_54), hf.sb rfl, hm.pk [5, 4, 0, 1, 3, 2] rfl rfl⟩)
       refine tO (tf rfl rfl (fun a hf => e_alloc hm zeroValue104 rfl rfl) ?_)
       rintro _ w ⟨b2_16, rfl, hm⟩
       refine tAk hm [3, 4] rfl fun hS => tO (tf rfl rfl (fun a hf => e_build0 (α := Phi_) et_101 hm rfl) ?_)
       rintro v2_40 w hm
       refine tAk hm [4, 5] rfl fun hS => ?_
       obtain ⟨p2_55, c2_55, rfl, hl2_55⟩ := ro_slice (hm.ow_rep 0 rfl)
       obtain ⟨p2_56, c2_56, rfl, hl2_56⟩ := ro_slice (hm.ow_rep 3 rfl)
       obtain ⟨p2_57, c2_57, rfl, hl2_57⟩ := ro_slice (hm.ow_rep 2 rfl)
       exact tP rfl (fun w => yG rfl (y_build (vs := [(0, (.slice p2_55 ([] : List Phi_).length c2_55)), (1, (.slice p2_56 ([] : List Ins_).length c2_56)), (2, (nV b_.jump)), (3, (nV b_.on)), (4, (.slice p2_57 pb1_1.length c2_57))]) (cs := #[(.slice p2_55 ([] : List Phi_).length c2_55), (.slice p2_56 ([] : List Ins_).length c2_56), (nV b_.jump), (nV b_.on), (.slice p2_57 pb1_1.length c2_57)]) rfl rfl (by kernel_rfl))) (tE (gZ fun a hf => ⟨b2_16, (.slice p2_55 ([] : List Phi_).length c2_55), (.slice p2_56 ([] : List Ins_).length c2_56), (.slice p2_57 pb1_1.length c2_57), hf.sb rfl, hm.pk [5, 4, 1, 0, 3, 2] rfl rfl⟩))
      refine tO (tf rfl rfl (fun a hf => e_alloc hm zeroValue104 rfl rfl) ?_)
      rintro _ w ⟨b2_17, rfl, hm⟩
      refine tAk hm [3, 4] rfl fun hS => tMo ?_ ?_
      ·
       refine tf rfl rfl (fun a hf => e_build0 (α := Phi_) et_101 hm rfl) ?_
       rintro v2_41 w hm
       refine tAk hm [4, 5] rfl fun hS => tO ?_
       obtain ⟨h2_18, h2_18e⟩ := appM_some.1 hpb1_1
       refine tf rfl rfl (fun a hf => e_append 2 et_37 hf hm rfl (hm.now h3) rfl rfl rfl h2_18) ?_
       rintro v2_42 w hm
       rw [h2_18e] at hm
       refine tAk hm [4, 5] rfl fun hS => ?_
       obtain ⟨p2_58, c2_58, rfl, hl2_58⟩ := ro_slice (hm.ow_rep 0 rfl)
       obtain ⟨p2_59, c2_59, rfl, hl2_59⟩ := ro_slice (hm.ow_rep 3 rfl)
       obtain ⟨p2_60, c2_60, rfl, hl2_60⟩ := ro_slice (hm.ow_rep 2 rfl)
       exact tP rfl (fun w => yG rfl (y_build (vs := [(0, (.slice p2_58 ([] : List Phi_).length c2_58)), (1, (.slice p2_59 ([] : List Ins_).length c2_59)), (2, (nV b_.jump)), (3, (nV b_.on)), (4, (.slice p2_60 pb1_1.length c2_60))]) (cs := #[(.slice p2_58 ([] : List Phi_).length c2_58), (.slice p2_59 ([] : List Ins_).length c2_59), (nV b_.jump), (nV b_.on), (.slice p2_60 pb1_1.length c2_60)]) rfl rfl (by kernel_rfl))) (tE (gZ fun a hf => ⟨b2_17, (.slice p2_58 ([] : List Phi_).length c2_58), (.slice p2_59 ([] : List Ins_).length c2_59), (.slice p2_60 pb1_1.length c2_60), hf.sb rfl, hm.pk [5, 4, 1, 0, 3, 2] rfl rfl⟩))
      refine tO ?_
      obtain ⟨h2_19, h2_19e⟩ := appM_some.1 hpb1_1
      refine tf rfl rfl (fun a hf => e_append 1 et_37 hf hm rfl (hm.now h3) rfl rfl rfl h2_19) ?_
      rintro v2_43 w hm
      rw [h2_19e] at hm
      refine tAk hm [3, 4] rfl fun hS => tO (tf rfl rfl (fun a hf => e_build0 (α := Phi_) et_101 hm rfl) ?_)
      rintro v2_44 w hm
      refine tAk hm [4, 5] rfl fun hS => ?_
      obtain ⟨p2_61, c2_61, rfl, hl2_61⟩ := ro_slice (hm.ow_rep 0 rfl)
      obtain ⟨p2_62, c2_62, rfl, hl2_62⟩ := ro_slice (hm.ow_rep 3 rfl)
      obtain ⟨p2_63, c2_63, rfl, hl2_63⟩ := ro_slice (hm.ow_rep 2 rfl)
      exact tP rfl (fun w => yG rfl (y_build (vs := [(0, (.slice p2_61 ([] : List Phi_).length c2_61)), (1, (.slice p2_62 ([] : List Ins_).length c2_62)), (2, (nV b_.jump)), (3, (nV b_.on)), (4, (.slice p2_63 pb1_1.length c2_63))]) (cs := #[(.slice p2_61 ([] : List Phi_).length c2_61), (.slice p2_62 ([] : List Ins_).length c2_62), (nV b_.jump), (nV b_.on), (.slice p2_63 pb1_1.length c2_63)]) rfl rfl (by kernel_rfl))) (tE (gZ fun a hf => ⟨b2_17, (.slice p2_61 ([] : List Phi_).length c2_61), (.slice p2_62 ([] : List Ins_).length c2_62), (.slice p2_63 pb1_1.length c2_63), hf.sb rfl, hm.pk [5, 4, 1, 0, 3, 2] rfl rfl⟩))
     refine tO (tf rfl rfl (fun a hf => e_alloc hm zeroValue104 rfl rfl) ?_)
     rintro _ w ⟨b2_18, rfl, hm⟩
     refine tAk hm [2, 3] rfl fun hS => tMo ?_ ?_
     ·
      refine tf rfl rfl (fun a hf => e_build0 (α := Phi_) et_101 hm rfl) ?_
      rintro v2_45 w hm
      refine tAk hm [3, 4] rfl fun hS => tO (tf rfl rfl (fun a hf => e_build0 (α := Int) et_37 hm rfl) ?_)
      rintro v2_46 w hm
      refine tAk hm [4, 5] rfl fun hS => tO ?_
      obtain ⟨h2_20, h2_20e⟩ := appM_some.1 hpb1_1
      refine tf rfl rfl (fun a hf => e_append 0 et_37 hf hm rfl (hm.now h3) rfl rfl rfl h2_20) ?_
      rintro v2_47 w hm
      rw [h2_20e] at hm
      refine tAk hm [4, 5] rfl fun hS => ?_
      obtain ⟨p2_64, c2_64, rfl, hl2_64⟩ := ro_slice (hm.ow_rep 1 rfl)
      obtain ⟨p2_65, c2_65, rfl, hl2_65⟩ := ro_slice (hm.ow_rep 3 rfl)
      obtain ⟨p2_66, c2_66, rfl, hl2_66⟩ := ro_slice (hm.ow_rep 0 rfl)
      exact tP rfl (fun w => yG rfl (y_build (vs := [(0, (.slice p2_64 ([] : List Phi_).length c2_64)), (1, (.slice p2_65 ([] : List Ins_).length c2_65)), (2, (nV b_.jump)), (3, (nV b_.on)), (4, (.slice p2_66 pb1_1.length c2_66))]) (cs := #[(.slice p2_64 ([] : List Phi_).length c2_64), (.slice p2_65 ([] : List Ins_).length c2_65), (nV b_.jump), (nV b_.on), (.slice p2_66 pb1_1.length c2_66)]) rfl rfl (by kernel_rfl))) (tE (gZ fun a hf => ⟨b2_18, (.slice p2_64 ([] : List Phi_).length c2_64), (.slice p2_65 ([] : List Ins_).length c2_65), (.slice p2_66 pb1_1.length c2_66), hf.sb rfl, hm.pk [5, 4, 2, 1, 3, 0] rfl rfl⟩))
     refine tO (tf rfl rfl (fun a hf => e_build0 (α := Int) et_37 hm rfl) ?_)
     rintro v2_48 w hm
     refine tAk hm [3, 4] rfl fun hS => tMo ?_ ?_
     ·
      refine tf rfl rfl (fun a hf => e_build0 (α := Phi_) et_101 hm rfl) ?_
      rintro v2_49 w hm
      refine tAk hm [4, 5] rfl fun hS => tO ?_
      obtain ⟨h2_21, h2_21e⟩ := appM_some.1 hpb1_1
      refine tf rfl rfl (fun a hf => e_append 1 et_37 hf hm rfl (hm.now h3) rfl rfl rfl h2_21) ?_
      rintro v2_50 w hm
      rw [h2_21e] at hm
      refine tAk hm [4, 5] rfl fun hS => ?_
      obtain ⟨p2_67, c2_67, rfl, hl2_67⟩ := ro_slice (hm.ow_rep 0 rfl)
      obtain ⟨p2_68, c2_68, rfl, hl2_68⟩ := ro_slice (hm.ow_rep 3 rfl)
      obtain ⟨p2_69, c2_69, rfl, hl2_69⟩ := ro_slice (hm.ow_rep 1 rfl)
      exact tP rfl (fun w => yG rfl (y_build (vs := [(0, (.slice p2_67 ([] : List Phi_).length c2_67)), (1, (.slice p2_68 ([] : List Ins_).length c2_68)), (2, (nV b_.jump)), (3, (nV b_.on)), (4, (.slice p2_69 pb1_1.length c2_69))]) (cs := #[(.slice p2_67 ([] : List Phi_).length c2_67), (.slice p2_68 ([] : List Ins_).length c2_68), (nV b_.jump), (nV b_.on), (.slice p2_69 pb1_1.length c2_69)]) rfl rfl (by kernel_rfl))) (tE (gZ fun a hf => ⟨b2_18, (.slice p2_67 ([] : List Phi_).length c2_67), (.slice p2_68 ([] : List Ins_).length c2_68), (.slice p2_69 pb1_1.length c2_69), hf.sb rfl, hm.pk [5, 4, 2, 0, 3, 1] rfl rfl⟩))
     refine tO ?_
     obtain ⟨h2_22, h2_22e⟩ := appM_some.1 hpb1_1
     refine tf rfl rfl (fun a hf => e_append 0 et_37 hf hm rfl (hm.now h3) rfl rfl rfl h2_22) ?_
     rintro v2_51 w hm
     rw [h2_22e] at hm
     refine tAk hm [3, 4] rfl fun hS => tO (tf rfl rfl (fun a hf => e_build0 (α := Phi_) et_101 hm rfl) ?_)
     rintro v2_52 w hm
     refine tAk hm [4, 5] rfl fun hS => ?_
     obtain ⟨p2_70, c2_70, rfl, hl2_70⟩ := ro_slice (hm.ow_rep 0 rfl)
     obtain ⟨p2_71, c2_71, rfl, hl2_71⟩ := ro_slice (hm.ow_rep 3 rfl)
     obtain ⟨p2_72, c2_72, rfl, hl2_72⟩ := ro_slice (hm.ow_rep 1 rfl)
     exact tP rfl (fun w => yG rfl (y_build (vs := [(0, (.slice p2_70 ([] : List Phi_).length c2_70)), (1, (.slice p2_71 ([] : List Ins_).length c2_71)), (2, (nV b_.jump)), (3, (nV b_.on)), (4, (.slice p2_72 pb1_1.length c2_72))]) (cs := #[(.slice p2_70 ([] : List Phi_).length c2_70), (.slice p2_71 ([] : List Ins_).length c2_71), (nV b_.jump), (nV b_.on), (.slice p2_72 pb1_1.length c2_72)]) rfl rfl (by kernel_rfl))) (tE (gZ fun a hf => ⟨b2_18, (.slice p2_70 ([] : List Phi_).length c2_70), (.slice p2_71 ([] : List Ins_).length c2_71), (.slice p2_72 pb1_1.length c2_72), hf.sb rfl, hm.pk [5, 4, 2, 0, 3, 1] rfl rfl⟩))
    refine tMo ?_ ?_
    ·
     refine tf rfl rfl (fun a hf => e_build0 (α := Int) et_37 hm rfl) ?_
     rintro v2_53 w hm
     refine tAk hm [1, 2] rfl fun hS => tMo ?_ ?_
     ·
      refine tf rfl rfl (fun a hf => e_build0 (α := Phi_) et_101 hm rfl) ?_
      rintro v2_54 w hm
      refine tAk hm [2, 3] rfl fun hS => tMo ?_ ?_
      ·
       refine tf rfl rfl (fun a hf => e_build0 (α := Ins_) et_102 hm rfl) ?_
       rintro v2_55 w hm
       refine tAk hm [3, 4] rfl fun hS => tMo ?_ ?_
       ·
        obtain ⟨h2_23, h2_23e⟩ := appM_some.1 hpb1_1
        refine tf rfl rfl (fun a hf => e_append 2 et_37 hf hm rfl (hm.now h3) rfl rfl rfl h2_23) ?_
        rintro v2_56 w hm
        rw [h2_23e] at hm
        refine tAk hm [3, 4] rfl fun hS => ?_
        obtain ⟨p2_73, c2_73, rfl, hl2_73⟩ := ro_slice (hm.ow_rep 1 rfl)
        obtain ⟨p2_74, c2_74, rfl, hl2_74⟩ := ro_slice (hm.ow_rep 0 rfl)
        obtain ⟨p2_75, c2_75, rfl, hl2_75⟩ := ro_slice (hm.ow_rep 2 rfl)
        refine tP rfl (fun w => yG rfl (y_build (vs := [(0, (.slice p2_73 ([] : List Phi_).length c2_73)), (1, (.slice p2_74 ([] : List Ins_).length c2_74)), (2, (nV b_.jump)), (3, (nV b_.on)), (4, (.slice p2_75 pb1_1.length c2_75))]) (cs := #[(.slice p2_73 ([] : List Phi_).length c2_73), (.slice p2_74 ([] : List Ins_).length c2_74), (nV b_.jump), (nV b_.on), (.slice p2_75 pb1_1.length c2_75)]) rfl rfl (by kernel_rfl))) (tO (tf rfl rfl (fun a hf => e_alloc hm zeroValue104 rfl rfl) ?_))
        rintro _ w ⟨b2_19, rfl, hm⟩
        exact tAk hm [4, 5] rfl fun hS => tE (gZ fun a hf => ⟨b2_19, (.slice p2_73 ([] : List Phi_).length c2_73), (.slice p2_74 ([] : List Ins_).length c2_74), (.slice p2_75 pb1_1.length c2_75), hf.sb rfl, hm.pk [5, 4, 0, 2, 1, 3] rfl rfl⟩)
       refine tO (tf rfl rfl (fun a hf => e_alloc hm zeroValue104 rfl rfl) ?_)
       rintro _ w ⟨b2_20, rfl, hm⟩
       refine tAk hm [4, 5] rfl fun hS => tO ?_
       obtain ⟨h2_24, h2_24e⟩ := appM_some.1 hpb1_1
       refine tf rfl rfl (fun a hf => e_append 3 et_37 hf hm rfl (hm.now h3) rfl rfl rfl h2_24) ?_
       rintro v2_57 w hm
       rw [h2_24e] at hm
       refine tAk hm [4, 5] rfl fun hS => ?_
       obtain ⟨p2_76, c2_76, rfl, hl2_76⟩ := ro_slice (hm.ow_rep 2 rfl)
       obtain ⟨p2_77, c2_77, rfl, hl2_77⟩ := ro_slice (hm.ow_rep 1 rfl)
       obtain ⟨p2_78, c2_78, rfl, hl2_78⟩ := ro_slice (hm.ow_rep 3 rfl)
       exact tP rfl (fun w => yG rfl (y_build (vs := [(0, (.slice p2_76 ([] : List Phi_).length c2_76)), (1, (.slice p2_77 ([] : List Ins_).length c2_77)), (2, (nV b_.jump)), (3, (nV b_.on)), (4, (.slice p2_78 pb1_1.length c2_78))]) (cs := #[(.slice p2_76 ([] : List Phi_).length c2_76), (.slice p2_77 ([] : List Ins_).length c2_77), (nV b_.jump), (nV b_.on), (.slice p2_78 pb1_1.length c2_78)]) rfl rfl (by kernel_rfl))) (tE (gZ fun a hf => ⟨b2_20, (.slice p2_76 ([] : List Phi_).length c2_76), (.slice p2_77 ([] : List Ins_).length c2_77), (.slice p2_78 pb1_1.length c2_78), hf.sb rfl, hm.pk [5, 4, 0, 2, 1, 3] rfl rfl⟩))
      refine tMo ?_ ?_
      ·
       obtain ⟨h2_25, h2_25e⟩ := appM_some.1 hpb1_1
       refine tf rfl rfl (fun a hf => e_append 1 et_37 hf hm rfl (hm.now h3) rfl rfl rfl h2_25) ?_
       rintro v2_58 w hm
       rw [h2_25e] at hm
       refine tAk hm [2, 3] rfl fun hS => tMo ?_ ?_
       ·
        refine tf rfl rfl (fun a hf => e_build0 (α := Ins_) et_102 hm rfl) ?_
        rintro v2_59 w hm
        refine tAk hm [3, 4] rfl fun hS => ?_
        obtain ⟨p2_79, c2_79, rfl, hl2_79⟩ := ro_slice (hm.ow_rep 1 rfl)
        obtain ⟨p2_80, c2_80, rfl, hl2_80⟩ := ro_slice (hm.ow_rep 0 rfl)
        obtain ⟨p2_81, c2_81, rfl, hl2_81⟩ := ro_slice (hm.ow_rep 2 rfl)
        refine tP rfl (fun w => yG rfl (y_build (vs := [(0, (.slice p2_79 ([] : List Phi_).length c2_79)), (1, (.slice p2_80 ([] : List Ins_).length c2_80)), (2, (nV b_.jump)), (3, (nV b_.on)), (4, (.slice p2_81 pb1_1.length c2_81))]) (cs := #[(.slice p2_79 ([] : List Phi_).length c2_79), (.slice p2_80 ([] : List Ins_).length c2_80), (nV b_.jump), (nV b_.on), (.slice p2_81 pb1_1.length c2_81)]) rfl rfl (by kernel_rfl))) (tO (tf rfl rfl (fun a hf => e_alloc hm zeroValue104 rfl rfl) ?_))
        rintro _ w ⟨b2_21, rfl, hm⟩
        exact tAk hm [4, 5] rfl fun hS => tE (gZ fun a hf => ⟨b2_21, (.slice p2_79 ([] : List Phi_).length c2_79), (.slice p2_80 ([] : List Ins_).length c2_80), (.slice p2_81 pb1_1.length c2_81), hf.sb rfl, hm.pk [5, 4, 0, 2, 1, 3] rfl rfl⟩)
       refine tO (tf rfl rfl (fun a hf => e_alloc hm zeroValue104 rfl rfl) ?_)
       rintro _ w ⟨b2_22, rfl, hm⟩
       refine tAk hm [3, 4] rfl fun hS => tO (tf rfl rfl (fun a hf => e_build0 (α := Ins_) et_102 hm rfl) ?_)
       rintro v2_60 w hm
       refine tAk hm [4, 5] rfl fun hS => ?_
       obtain ⟨p2_82, c2_82, rfl, hl2_82⟩ := ro_slice (hm.ow_rep 2 rfl)
       obtain ⟨p2_83, c2_83, rfl, hl2_83⟩ := ro_slice (hm.ow_rep 0 rfl)
       obtain ⟨p2_84, c2_84, rfl, hl2_84⟩ := ro_slice (hm.ow_rep 3 rfl)
       exact tP rfl (fun w => yG rfl (y_build (vs := [(0, (.slice p2_82 ([] : List Phi_).length c2_82)), (1, (.slice p2_83 ([] : List Ins_).length c2_83)), (2, (nV b_.jump)), (3, (nV b_.on)), (4, (.slice p2_84 pb1_1.length c2_84))]) (cs := #[(.slice p2_82 ([] : List Phi_).length c2_82), (.slice p2_83 ([] : List Ins_).length c2_83), (nV b_.jump), (nV b_.on), (.slice p2_84 pb1_1.length c2_84)]) rfl rfl (by kernel_rfl))) (tE (gZ fun a hf => ⟨b2_22, (.slice p2_82 ([] : List Phi_).length c2_82), (.slice p2_83 ([] : List Ins_).length c2_83), (.slice p2_84 pb1_1.length c2_84), hf.sb rfl, hm.pk [5, 4, 1, 2, 0, 3] rfl rfl⟩))
      refine tO (tf rfl rfl (fun a hf => e_alloc hm zeroValue104 rfl rfl) ?_)
      rintro _ w ⟨b2_23, rfl, hm⟩
      refine tAk hm [3, 4] rfl fun hS => tMo ?_ ?_
      ·
       refine tf rfl rfl (fun a hf => e_build0 (α := Ins_) et_102 hm rfl) ?_
       rintro v2_61 w hm
       refine tAk hm [4, 5] rfl fun hS => tO ?_
       obtain ⟨h2_26, h2_26e⟩ := appM_some.1 hpb1_1
       refine tf rfl rfl (fun a hf => e_append 3 et_37 hf hm rfl (hm.now h3) rfl rfl rfl h2_26) ?_
       rintro v2_62 w hm
       rw [h2_26e] at hm
       refine tAk hm [4, 5] rfl fun hS => ?_
       obtain ⟨p2_85, c2_85, rfl, hl2_85⟩ := ro_slice (hm.ow_rep 2 rfl)
       obtain ⟨p2_86, c2_86, rfl, hl2_86⟩ := ro_slice (hm.ow_rep 0 rfl)
       obtain ⟨p2_87, c2_87, rfl, hl2_87⟩ := ro_slice (hm.ow_rep 3 rfl)
       exact tP rfl (fun w => yG rfl (y_build (vs := [(0, (.slice p2_85 ([] : List Phi_).length c2_85)), (1, (.slice p2_86 ([] : List Ins_).length c2_86)), (2, (nV b_.jump)), (3, (nV b_.on)), (4, (.slice p2_87 pb1_1.length c2_87))]) (cs := #[(.slice p2_85 ([] : List Phi_).length c2_85), (.slice p2_86 ([] : List Ins_).length c2_86), (nV b_.jump), (nV b_.on), (.slice p2_87 pb1_1.length c2_87)]) rfl rfl (by kernel_rfl))) (tE (gZ fun a hf => ⟨b2_23, (.slice p2_85 ([] : List Phi_).length c2_85), (.slice p2_86 ([] : List Ins_).length c2_86), (.slice p2_87 pb1_1.length c2_87), hf.sb rfl, hm.pk [5, 4, 1, 2, 0, 3] rfl rfl⟩))
      refine tO ?_
      obtain ⟨h2_27, h2_27e⟩ := appM_some.1 hpb1_1
      refine tf rfl rfl (fun a hf => e_append 2 et_37 hf hm rfl (hm.now h3) rfl rfl rfl h2_27) ?_
      rintro v2_63 w hm
      rw [h2_27e] at hm
      refine tAk hm [3, 4] rfl fun hS => tO (tf rfl rfl (fun a hf => e_build0 (α := Ins_) et_102 hm rfl) ?_)
      rintro v2_64 w hm
      refine tAk hm [4, 5] rfl fun hS => ?_
      obtain ⟨p2_88, c2_88, rfl, hl2_88⟩ := ro_slice (hm.ow_rep 2 rfl)
      obtain ⟨p2_89, c2_89, rfl, hl2_89⟩ := ro_slice (hm.ow_rep 0 rfl)
      obtain ⟨p2_90, c2_90, rfl, hl2_90⟩ := ro_slice (hm.ow_rep 3 rfl)
      exact tP rfl (fun w => yG rfl (y_build (vs := [(0, (.slice p2_88 ([] : List Phi_).length c2_88)), (1, (.slice p2_89 ([] : List Ins_).length c2_89)), (2, (nV b_.jump)), (3, (nV b_.on)), (4, (.slice p2_90 pb1_1.length c2_90))]) (cs := #[(.slice p2_88 ([] : List Phi_).length c2_88), (.slice p2_89 ([] : List Ins_).length c2_89), (nV b_.jump), (nV b_.on), (.slice p2_90 pb1_1.length c2_90)]) rfl rfl (by kernel_rfl))) (tE (gZ fun a hf => ⟨b2_23, (.slice p2_88 ([] : List Phi_).length c2_88), (.slice p2_89 ([] : List Ins_).length c2_89), (.slice p2_90 pb1_1.length c2_90), hf.sb rfl, hm.pk [5, 4, 1, 2, 0, 3] rfl rfl⟩))
     refine tMo ?_ ?_
     ·
      refine tf rfl rfl (fun a hf => e_build0 (α := Ins_) et_102 hm rfl) ?_
      rintro v2_65 w hm
      refine tAk hm [2, 3] rfl fun hS => tMo ?_ ?_
      ·
       refine tf rfl rfl (fun a hf => e_build0 (α := Phi_) et_101 hm rfl) ?_
       rintro v2_66 w hm
       refine tAk hm [3, 4] rfl fun hS => tMo ?_ ?_
       ·
        obtain ⟨h2_28, h2_28e⟩ := appM_some.1 hpb1_1
        refine tf rfl rfl (fun a hf => e_append 2 et_37 hf hm rfl (hm.now h3) rfl rfl rfl h2_28) ?_
        rintro v2_67 w hm
        rw [h2_28e] at hm
        refine tAk hm [3, 4] rfl fun hS => ?_
        obtain ⟨p2_91, c2_91, rfl, hl2_91⟩ := ro_slice (hm.ow_rep 0 rfl)
        obtain ⟨p2_92, c2_92, rfl, hl2_92⟩ := ro_slice (hm.ow_rep 1 rfl)
        obtain ⟨p2_93, c2_93, rfl, hl2_93⟩ := ro_slice (hm.ow_rep 2 rfl)
        refine tP rfl (fun w => yG rfl (y_build (vs := [(0, (.slice p2_91 ([] : List Phi_).length c2_91)), (1, (.slice p2_92 ([] : List Ins_).length c2_92)), (2, (nV b_.jump)), (3, (nV b_.on)), (4, (.slice p2_93 pb1_1.length c2_93))]) (cs := #[(.slice p2_91 ([] : List Phi_).length c2_91), (.slice p2_92 ([] : List Ins_).length c2_92), (nV b_.jump), (nV b_.on), (.slice p2_93 pb1_1.length c2_93)]) rfl rfl (by kernel_rfl))) (tO (tf rfl rfl (fun a hf => e_alloc hm zeroValue104 rfl rfl) ?_))
        rintro _ w ⟨b2_24, rfl, hm⟩
        exact tAk hm [4, 5] rfl fun hS => tE (gZ fun a hf => ⟨b2_24, (.slice p2_91 ([] : List Phi_).length c2_91), (.slice p2_92 ([] : List Ins_).length c2_92), (.slice p2_93 pb1_1.length c2_93), hf.sb rfl, hm.pk [5, 4, 0, 1, 2, 3] rfl rfl⟩)
       refine tO (tf rfl rfl (fun a hf => e_alloc hm zeroValue104 rfl rfl) ?_)
       rintro _ w ⟨b2_25, rfl, hm⟩
       refine tAk hm [4, 5] rfl fun hS => tO ?_
       obtain ⟨h2_29, h2_29e⟩ := appM_some.1 hpb1_1
       refine tf rfl rfl (fun a hf => e_append 3 et_37 hf hm rfl (hm.now h3) rfl rfl rfl h2_29) ?_
       rintro v2_68 w hm
       rw [h2_29e] at hm
       refine tAk hm [4, 5] rfl fun hS => ?_
       obtain ⟨p2_94, c2_94, rfl, hl2_94⟩ := ro_slice (hm.ow_rep 1 rfl)
       obtain ⟨p2_95, c2_95, rfl, hl2_95⟩ := ro_slice (hm.ow_rep 2 rfl)
       obtain ⟨p2_96, c2_96, rfl, hl2_96⟩ := ro_slice (hm.ow_rep 3 rfl)
       exact tP rfl (fun w => yG rfl (y_build (vs := [(0, (.slice p2_94 ([] : List Phi_).length c2_94)), (1, (.slice p2_95 ([] : List Ins_).length c2_95)), (2, (nV b_.jump)), (3, (nV b_.on)), (4, (.slice p2_96 pb1_1.length c2_96))]) (cs := #[(.slice p2_94 ([] : List Phi_).length c2_94), (.slice p2_95 ([] : List Ins_).length c2_95), (nV b_.jump), (nV b_.on), (.slice p2_96 pb1_1.length c2_96)]) rfl rfl (by kernel_rfl))) (tE (gZ fun a hf => ⟨b2_25, (.slice p2_94 ([] : List Phi_).length c2_94), (.slice p2_95 ([] : List Ins_).length c2_95), (.slice p2_96 pb1_1.length c2_96), hf.sb rfl, hm.pk [5, 4, 0, 1, 2, 3] rfl rfl⟩))
      refine tMo ?_ ?_
      ·
       obtain ⟨h2_30, h2_30e⟩ := appM_some.1 hpb1_1
       refine tf rfl rfl (fun a hf => e_append 1 et_37 hf hm rfl (hm.now h3) rfl rfl rfl h2_30) ?_
       rintro v2_69 w hm
       rw [h2_30e] at hm
       refine tAk hm [2, 3] rfl fun hS => tMo ?_ ?_
       ·
        refine tf rfl rfl (fun a hf => e_build0 (α := Phi_) et_101 hm rfl) ?_
        rintro v2_70 w hm
        refine tAk hm [3, 4] rfl fun hS => ?_
        obtain ⟨p2_97, c2_97, rfl, hl2_97⟩ := ro_slice (hm.ow_rep 0 rfl)
        obtain ⟨p2_98, c2_98, rfl, hl2_98⟩ := ro_slice (hm.ow_rep 1 rfl)
        obtain ⟨p2_99, c2_99, rfl, hl2_99⟩ := ro_slice (hm.ow_rep 2 rfl)
        refine tP rfl (fun w => yG rfl (y_build (vs := [(0, (.slice p2_97 ([] : List Phi_).length c2_97)), (1, (.slice p2_98 ([] : List Ins_).length c2_98)), (2, (nV b_.jump)), (3, (nV b_.on)), (4, (.slice p2_99 pb1_1.length c2_99))]) (cs := #[(.slice p2_97 ([] : List Phi_).length c2_97), (.slice p2_98 ([] : List Ins_).length c2_98), (nV b_.jump), (nV b_.on), (.slice p2_99 pb1_1.length c2_99)]) rfl rfl (by kernel_rfl))) (tO (tf rfl rfl (fun a hf => e_alloc hm zeroValue104 rfl rfl) ?_))
        rintro _ w ⟨b2_26, rfl, hm⟩
        exact tAk hm [4, 5] rfl fun hS => tE (gZ fun a hf => ⟨b2_26, (.slice p2_97 ([] : List Phi_).length c2_97), (.slice p2_98 ([] : List Ins_).length c2_98), (.slice p2_99 pb1_1.length c2_99), hf.sb rfl, hm.pk [5, 4, 0, 1, 2, 3] rfl rfl⟩)
       refine tO (tf rfl rfl (fun a hf => e_alloc hm zeroValue104 rfl rfl) ?_)
       rintro _ w ⟨b2_27, rfl, hm⟩
       refine tAk hm [3, 4] rfl fun hS => tO (tf rfl rfl (fun a hf => e_build0 (α := Phi_) et_101 hm rfl) ?_)
       rintro v2_71 w hm
       refine tAk hm [4, 5] rfl fun hS => ?_
       obtain ⟨p2_100, c2_100, rfl, hl2_100⟩ := ro_slice (hm.ow_rep 0 rfl)
       obtain ⟨p2_101, c2_101, rfl, hl2_101⟩ := ro_slice (hm.ow_rep 2 rfl)
       obtain ⟨p2_102, c2_102, rfl, hl2_102⟩ := ro_slice (hm.ow_rep 3 rfl)
       exact tP rfl (fun w => yG rfl (y_build (vs := [(0, (.slice p2_100 ([] : List Phi_).length c2_100)), (1, (.slice p2_101 ([] : List Ins_).length c2_101)), (2, (nV b_.jump)), (3, (nV b_.on)), (4, (.slice p2_102 pb1_1.length c2_102))]) (cs := #[(.slice p2_100 ([] : List Phi_).length c2_100), (.slice p2_101 ([] : List Ins_).length c2_101), (nV b_.jump), (nV b_.on), (.slice p2_102 pb1_1.length c2_102)]) rfl rfl (by kernel_rfl))) (tE (gZ fun a hf => ⟨b2_27, (.slice p2_100 ([] : List Phi_).length c2_100), (.slice p2_101 ([] : List Ins_).length c2_101), (.slice p2_102 pb1_1.length c2_102), hf.sb rfl, hm.pk [5, 4, 1, 0, 2, 3] rfl rfl⟩))
      refine tO (tf rfl rfl (fun a hf => e_alloc hm zeroValue104 rfl rfl) ?_)
      rintro _ w ⟨b2_28, rfl, hm⟩
      refine tAk hm [3, 4] rfl fun hS => tMo ?_ ?_
      ·
       refine tf rfl rfl (fun a hf => e_build0 (α := Phi_) et_101 hm rfl) ?_
       rintro v2_72 w hm
       refine tAk hm [4, 5] rfl fun hS => tO ?_
       obtain ⟨h2_31, h2_31e⟩ := appM_some.1 hpb1_1
       refine tf rfl rfl (fun a hf => e_append 3 et_37 hf hm rfl (hm.now h3) rfl rfl rfl h2_31) ?_
       rintro v2_73 w hm
       rw [h2_31e] at hm
       refine tAk hm [4, 5] rfl fun hS => ?_
       obtain ⟨p2_103, c2_103, rfl, hl2_103⟩ := ro_slice (hm.ow_rep 0 rfl)
       obtain ⟨p2_104, c2_104, rfl, hl2_104⟩ := ro_slice (hm.ow_rep 2 rfl)
       obtain ⟨p2_105, c2_105, rfl, hl2_105⟩ := ro_slice (hm.ow_rep 3 rfl)
       exact tP rfl (fun w => yG rfl (y_build (vs := [(0, (.slice p2_103 ([] : List Phi_).length c2_103)), (1, (.slice p2_104 ([] : List Ins_).length c2_104)), (2, (nV b_.jump)), (3, (nV b_.on)), (4, (.slice p2_105 pb1_1.length c2_105))]) (cs := #[(.slice p2_103 ([] : List Phi_).length c2_103), (.slice p2_104 ([] : List Ins_).length c2_104), (nV b_.jump), (nV b_.on), (.slice p2_105 pb1_1.length c2_105)]) rfl rfl (by kernel_rfl))) (tE (gZ fun a hf => ⟨b2_28, (.slice p2_103 ([] : List Phi_).length c2_103), (.slice p2_104 ([] : List Ins_).length c2_104), (.slice p2_105 pb1_1.length c2_105), hf.sb rfl, hm.pk [5, 4, 1, 0, 2, 3] rfl rfl⟩))
      refine tO ?_
      obtain ⟨h2_32, h2_32e⟩ := appM_some.1 hpb1_1
      refine tf rfl rfl (fun a hf => e_append 2 et_37 hf hm rfl (hm.now h3) rfl rfl rfl h2_32) ?_
      rintro v2_74 w hm
      rw [h2_32e] at hm
      refine tAk hm [3, 4] rfl fun hS => tO (tf rfl rfl (fun a hf => e_build0 (α := Phi_) et_101 hm rfl) ?_)
      rintro v2_75 w hm
      refine tAk hm [4, 5] rfl fun hS => ?_
      obtain ⟨p2_106, c2_106, rfl, hl2_106⟩ := ro_slice (hm.ow_rep 0 rfl)
      obtain ⟨p2_107, c2_107, rfl, hl2_107⟩ := ro_slice (hm.ow_rep 2 rfl)
      obtain ⟨p2_108, c2_108, rfl, hl2_108⟩ := ro_slice (hm.ow_rep 3 rfl)
      exact tP rfl (fun w => yG rfl (y_build (vs := [(0, (.slice p2_106 ([] : List Phi_).length c2_106)), (1, (.slice p2_107 ([] : List Ins_).length c2_107)), (2, (nV b_.jump)), (3, (nV b_.on)), (4, (.slice p2_108 pb1_1.length c2_108))]) (cs := #[(.slice p2_106 ([] : List Phi_).length c2_106), (.slice p2_107 ([] : List Ins_).length c2_107), (nV b_.jump), (nV b_.on), (.slice p2_108 pb1_1.length c2_108)]) rfl rfl (by kernel_rfl))) (tE (gZ fun a hf => ⟨b2_28, (.slice p2_106 ([] : List Phi_).length c2_106), (.slice p2_107 ([] : List Ins_).length c2_107), (.slice p2_108 pb1_1.length c2_108), hf.sb rfl, hm.pk [5, 4, 1, 0, 2, 3] rfl rfl⟩))
     refine tMo ?_ ?_
     ·
      obtain ⟨h2_33, h2_33e⟩ := appM_some.1 hpb1_1
      refine tf rfl rfl (fun a hf => e_append 0 et_37 hf hm rfl (hm.now h3) rfl rfl rfl h2_33) ?_
      rintro v2_76 w hm
      rw [h2_33e] at hm
      refine tAk hm [1, 2] rfl fun hS => tMo ?_ ?_
      ·
       refine tf rfl rfl (fun a hf => e_build0 (α := Phi_) et_101 hm rfl) ?_
       rintro v2_77 w hm
       refine tAk hm [2, 3] rfl fun hS => tMo ?_ ?_
       ·
        refine tf rfl rfl (fun a hf => e_build0 (α := Ins_) et_102 hm rfl) ?_
        rintro v2_78 w hm
        refine tAk hm [3, 4] rfl fun hS => ?_
        obtain ⟨p2_109, c2_109, rfl, hl2_109⟩ := ro_slice (hm.ow_rep 1 rfl)
        obtain ⟨p2_110, c2_110, rfl, hl2_110⟩ := ro_slice (hm.ow_rep 0 rfl)
        obtain ⟨p2_111, c2_111, rfl, hl2_111⟩ := ro_slice (hm.ow_rep 2 rfl)
        refine tP rfl (fun w => yG rfl (y_build (vs := [(0, (.slice p2_109 ([] : List Phi_).length c2_109)), (1, (.slice p2_110 ([] : List Ins_).length c2_110)), (2, (nV b_.jump)), (3, (nV b_.on)), (4, (.slice p2_111 pb1_1.length c2_111))]) (cs := #[(.slice p2_109 ([] : List Phi_).length c2_109), (.slice p2_110 ([] : List Ins_).length c2_110), (nV b_.jump), (nV b_.on), (.slice p2_111 pb1_1.length c2_111)]) rfl rfl (by kernel_rfl))) (tO (tf rfl rfl (fun a hf => e_alloc hm zeroValue104 rfl rfl) ?_))
        rintro _ w ⟨b2_29, rfl, hm⟩
        exact tAk hm [4, 5] rfl fun hS => tE (gZ fun a hf => ⟨b2_29, (.slice p2_109 ([] : List Phi_).length c2_109), (.slice p2_110 ([] : List Ins_).length c2_110), (.slice p2_111 pb1_1.length c2_111), hf.sb rfl, hm.pk [5, 4, 0, 2, 1, 3] rfl rfl⟩)
       refine tO (tf rfl rfl (fun a hf => e_alloc hm zeroValue104 rfl rfl) ?_)
       rintro _ w ⟨b2_30, rfl, hm⟩
       refine tAk hm [3, 4] rfl fun hS => tO (tf rfl rfl (fun a hf => e_build0 (α := Ins_) et_102 hm rfl) ?_)
       rintro v2_79 w hm
       refine tAk hm [4, 5] rfl fun hS => ?_
       obtain ⟨p2_112, c2_112, rfl, hl2_112⟩ := ro_slice (hm.ow_rep 2 rfl)
       obtain ⟨p2_113, c2_113, rfl, hl2_113⟩ := ro_slice (hm.ow_rep 0 rfl)
       obtain ⟨p2_114, c2_114, rfl, hl2_114⟩ := ro_slice (hm.ow_rep 3 rfl)
       exact tP rfl (fun w => yG rfl (y_build (vs := [(0, (.slice p2_112 ([] : List Phi_).length c2_112)), (1, (.slice p2_113 ([] : List Ins_).length c2_113)), (2, (nV b_.jump)), (3, (nV b_.on)), (4, (.slice p2_114 pb1_1.length c2_114))]) (cs := #[(.slice p2_112 ([] : List Phi_).length c2_112), (.slice p2_113 ([] : List Ins_).length c2_113), (nV b_.jump), (nV b_.on), (.slice p2_114 pb1_1.length c2_114)]) rfl rfl (by kernel_rfl))) (tE (gZ fun a hf => ⟨b2_30, (.slice p2_112 ([] : List Phi_).length c2_112), (.slice p2_113 ([] : List Ins_).length c2_113), (.slice p2_114 pb1_1.length c2_114), hf.sb rfl, hm.pk [5, 4, 1, 2, 0, 3] rfl rfl⟩))
      refine tMo ?_ ?_
      ·
       refine tf rfl rfl (fun a hf => e_build0 (α := Ins_) et_102 hm rfl) ?_
       rintro v2_80 w hm
       refine tAk hm [2, 3] rfl fun hS => tMo ?_ ?_
       ·
        refine tf rfl rfl (fun a hf => e_build0 (α := Phi_) et_101 hm rfl) ?_
        rintro v2_81 w hm
        refine tAk hm [3, 4] rfl fun hS => ?_
        obtain ⟨p2_115, c2_115, rfl, hl2_115⟩ := ro_slice (hm.ow_rep 0 rfl)
        obtain ⟨p2_116, c2_116, rfl, hl2_116⟩ := ro_slice (hm.ow_rep 1 rfl)
        obtain ⟨p2_117, c2_117, rfl, hl2_117⟩ := ro_slice (hm.ow_rep 2 rfl)
        refine tP rfl (fun w => yG rfl (y_build (vs := [(0, (.slice p2_115 ([] : List Phi_).length c2_115)), (1, (.slice p2_116 ([] : List Ins_).length c2_116)), (2, (nV b_.jump)), (3, (nV b_.on)), (4, (.slice p2_117 pb1_1.length c2_117))]) (cs := #[(.slice p2_115 ([] : List Phi_).length c2_115), (.slice p2_116 ([] : List Ins_).length c2_116), (nV b_.jump), (nV b_.on), (.slice p2_117 pb1_1.length c2_117)]) rfl rfl (by kernel_rfl))) (tO (tf rfl rfl (fun a hf => e_alloc hm zeroValue104 rfl rfl) ?_))
        rintro _ w ⟨b2_31, rfl, hm⟩
        exact tAk hm [4, 5] rfl fun hS => tE (gZ fun a hf => ⟨b2_31, (.slice p2_115 ([] : List Phi_).length c2_115), (.slice p2_116 ([] : List Ins_).length c2_116), (.slice p2_117 pb1_1.length c2_117), hf.sb rfl, hm.pk [5, 4, 0, 1, 2, 3] rfl rfl⟩)
       refine tO (tf rfl rfl (fun a hf => e_alloc hm zeroValue104 rfl rfl) ?_)
       rintro _ w ⟨b2_32, rfl, hm⟩
       refine tAk hm [3, 4] rfl fun hS => tO (tf rfl rfl (fun a hf => e_build0 (α := Phi_) et_101 hm rfl) ?_)
       rintro v2_82 w hm
       refine tAk hm [4, 5] rfl fun hS => ?_
       obtain ⟨p2_118, c2_118, rfl, hl2_118⟩ := ro_slice (hm.ow_rep 0 rfl)
       obtain ⟨p2_119, c2_119, rfl, hl2_119⟩ := ro_slice (hm.ow_rep 2 rfl)
       obtain ⟨p2_120, c2_120, rfl, hl2_120⟩ := ro_slice (hm.ow_rep 3 rfl)
       exact tP rfl (fun w => yG rfl (y_build (vs := [(0, (.slice p2_118 ([] : List Phi_).length c2_118)), (1, (.slice p2_119 ([] : List Ins_).length c2_119)), (2, (nV b_.jump)), (3, (nV b_.on)), (4, (.slice p2_120 pb1_1.length c2_120))]) (cs := #[(.slice p2_118 ([] : List Phi_).length c2_118), (.slice p2_119 ([] : List Ins_).length c2_119), (nV b_.jump), (nV b_.on), (.slice p2_120 pb1_1.length c2_120)]) rfl rfl (by kernel_rfl))) (tE (gZ fun a hf => ⟨b2_32, (.slice p2_118 ([] : List Phi_).length c2_118), (.slice p2_119 ([] : List Ins_).length c2_119), (.slice p2_120 pb1_1.length c2_120), hf.sb rfl, hm.pk [5, 4, 1, 0, 2, 3] rfl rfl⟩))
      refine tO (tf rfl rfl (fun a hf => e_alloc hm zeroValue104 rfl rfl) ?_)
      rintro _ w ⟨b2_33, rfl, hm⟩
      refine tAk hm [2, 3] rfl fun hS => tMo ?_ ?_
      ·
       refine tf rfl rfl (fun a hf => e_build0 (α := Phi_) et_101 hm rfl) ?_
       rintro v2_83 w hm
       refine tAk hm [3, 4] rfl fun hS => tO (tf rfl rfl (fun a hf => e_build0 (α := Ins_) et_102 hm rfl) ?_)
       rintro v2_84 w hm
       refine tAk hm [4, 5] rfl fun hS => ?_
       obtain ⟨p2_121, c2_121, rfl, hl2_121⟩ := ro_slice (hm.ow_rep 1 rfl)
       obtain ⟨p2_122, c2_122, rfl, hl2_122⟩ := ro_slice (hm.ow_rep 0 rfl)
       obtain ⟨p2_123, c2_123, rfl, hl2_123⟩ := ro_slice (hm.ow_rep 3 rfl)
       exact tP rfl (fun w => yG rfl (y_build (vs := [(0, (.slice p2_121 ([] : List Phi_).length c2_121)), (1, (.slice p2_122 ([] : List Ins_).length c2_122)), (2, (nV b_.jump)), (3, (nV b_.on)), (4, (.slice p2_123 pb1_1.length c2_123))]) (cs := #[(.slice p2_121 ([] : List Phi_).length c2_121), (.slice p2_122 ([] : List Ins_).length c2_122), (nV b_.jump), (nV b_.on), (.slice p2_123 pb1_1.length c2_123)]) rfl rfl (by kernel_rfl))) (tE (gZ fun a hf => ⟨b2_33, (.slice p2_121 ([] : List Phi_).length c2_121), (.slice p2_122 ([] : List Ins_).length c2_122), (.slice p2_123 pb1_1.length c2_123), hf.sb rfl, hm.pk [5, 4, 2, 1, 0, 3] rfl rfl⟩))
      refine tO (tf rfl rfl (fun a hf => e_build0 (α := Ins_) et_102 hm rfl) ?_)
      rintro v2_85 w hm
      refine tAk hm [3, 4] rfl fun hS => tO (tf rfl rfl (fun a hf => e_build0 (α := Phi_) et_101 hm rfl) ?_)
      rintro v2_86 w hm
      refine tAk hm [4, 5] rfl fun hS => ?_
      obtain ⟨p2_124, c2_124, rfl, hl2_124⟩ := ro_slice (hm.ow_rep 0 rfl)
      obtain ⟨p2_125, c2_125, rfl, hl2_125⟩ := ro_slice (hm.ow_rep 1 rfl)
      obtain ⟨p2_126, c2_126, rfl, hl2_126⟩ := ro_slice (hm.ow_rep 3 rfl)
      exact tP rfl (fun w => yG rfl (y_build (vs := [(0, (.slice p2_124 ([] : List Phi_).length c2_124)), (1, (.slice p2_125 ([] : List Ins_).length c2_125)), (2, (nV b_.jump)), (3, (nV b_.on)), (4, (.slice p2_126 pb1_1.length c2_126))]) (cs := #[(.slice p2_124 ([] : List Phi_).length c2_124), (.slice p2_125 ([] : List Ins_).length c2_125), (nV b_.jump), (nV b_.on), (.slice p2_126 pb1_1.length c2_126)]) rfl rfl (by kernel_rfl))) (tE (gZ fun a hf => ⟨b2_33, (.slice p2_124 ([] : List Phi_).length c2_124), (.slice p2_125 ([] : List Ins_).length c2_125), (.slice p2_126 pb1_1.length c2_126), hf.sb rfl, hm.pk [5, 4, 2, 0, 1, 3] rfl rfl⟩))
     refine tO (tf rfl rfl (fun a hf => e_alloc hm zeroValue104 rfl rfl) ?_)
     rintro _ w ⟨b2_34, rfl, hm⟩
     refine tAk hm [2, 3] rfl fun hS => tMo ?_ ?_
     ·
      refine tf rfl rfl (fun a hf => e_build0 (α := Phi_) et_101 hm rfl) ?_
      rintro v2_87 w hm
      refine tAk hm [3, 4] rfl fun hS => tMo ?_ ?_
      ·
       refine tf rfl rfl (fun a hf => e_build0 (α := Ins_) et_102 hm rfl) ?_
       rintro v2_88 w hm
       refine tAk hm [4, 5] rfl fun hS => tO ?_
       obtain ⟨h2_34, h2_34e⟩ := appM_some.1 hpb1_1
       refine tf rfl rfl (fun a hf => e_append 3 et_37 hf hm rfl (hm.now h3) rfl rfl rfl h2_34) ?_
       rintro v2_89 w hm
       rw [h2_34e] at hm
       refine tAk hm [4, 5] rfl fun hS => ?_
       obtain ⟨p2_127, c2_127, rfl, hl2_127⟩ := ro_slice (hm.ow_rep 1 rfl)
       obtain ⟨p2_128, c2_128, rfl, hl2_128⟩ := ro_slice (hm.ow_rep 0 rfl)
       obtain ⟨p2_129, c2_129, rfl, hl2_129⟩ := ro_slice (hm.ow_rep 3 rfl)
       exact tP rfl (fun w => yG rfl (y_build (vs := [(0, (.slice p2_127 ([] : List Phi_).length c2_127)), (1, (.slice p2_128 ([] : List Ins_).length c2_128)), (2, (nV b_.jump)), (3, (nV b_.on)), (4, (.slice p2_129 pb1_1.length c2_129))]) (cs := #[(.slice p2_127 ([] : List Phi_).length c2_127), (.slice p2_128 ([] : List Ins_).length c2_128), (nV b_.jump), (nV b_.on), (.slice p2_129 pb1_1.length c2_129)]) rfl rfl (by kernel_rfl))) (tE (gZ fun a hf => ⟨b2_34, (.slice p2_127 ([] : List Phi_).length c2_127), (.slice p2_128 ([] : List Ins_).length c2_128), (.slice p2_129 pb1_1.length c2_129), hf.sb rfl, hm.pk [5, 4, 2, 1, 0, 3] rfl rfl⟩))
      refine tO ?_
      obtain ⟨h2_35, h2_35e⟩ := appM_some.1 hpb1_1
      refine tf rfl rfl (fun a hf => e_append 2 et_37 hf hm rfl (hm.now h3) rfl rfl rfl h2_35) ?_
      rintro v2_90 w hm
      rw [h2_35e] at hm
      refine tAk hm [3, 4] rfl fun hS => tO (tf rfl rfl (fun a hf => e_build0 (α := Ins_) et_102 hm rfl) ?_)
      rintro v2_91 w hm
      refine tAk hm [4, 5] rfl fun hS => ?_
      obtain ⟨p2_130, c2_130, rfl, hl2_130⟩ := ro_slice (hm.ow_rep 1 rfl)
      obtain ⟨p2_131, c2_131, rfl, hl2_131⟩ := ro_slice (hm.ow_rep 0 rfl)
      obtain ⟨p2_132, c2_132, rfl, hl2_132⟩ := ro_slice (hm.ow_rep 3 rfl)
      exact tP rfl (fun w => yG rfl (y_build (vs := [(0, (.slice p2_130 ([] : List Phi_).length c2_130)), (1, (.slice p2_131 ([] : List Ins_).length c2_131)), (2, (nV b_.jump)), (3, (nV b_.on)), (4, (.slice p2_132 pb1_1.length c2_132))]) (cs := #[(.slice p2_130 ([] : List Phi_).length c2_130), (.slice p2_131 ([] : List Ins_).length c2_131), (nV b_.jump), (nV b_.on), (.slice p2_132 pb1_1.length c2_132)]) rfl rfl (by kernel_rfl))) (tE (gZ fun a hf => ⟨b2_34, (.slice p2_130 ([] : List Phi_).length c2_130), (.slice p2_131 ([] : List Ins_).length c2_131), (.slice p2_132 pb1_1.length c2_132), hf.sb rfl, hm.pk [5, 4, 2, 1, 0, 3] rfl rfl⟩))
     refine tMo ?_ ?_
     ·
      refine tf rfl rfl (fun a hf => e_build0 (α := Ins_) et_102 hm rfl) ?_
      rintro v2_92 w hm
      refine tAk hm [3, 4] rfl fun hS => tMo ?_ ?_
      ·
       refine tf rfl rfl (fun a hf => e_build0 (α := Phi_) et_101 hm rfl) ?_
       rintro v2_93 w hm
       refine tAk hm [4, 5] rfl fun hS => tO ?_
       obtain ⟨h2_36, h2_36e⟩ := appM_some.1 hpb1_1
       refine tf rfl rfl (fun a hf => e_append 3 et_37 hf hm rfl (hm.now h3) rfl rfl rfl h2_36) ?_
       rintro v2_94 w hm
       rw [h2_36e] at hm
       refine tAk hm [4, 5] rfl fun hS => ?_
       obtain ⟨p2_133, c2_133, rfl, hl2_133⟩ := ro_slice (hm.ow_rep 0 rfl)
       obtain ⟨p2_134, c2_134, rfl, hl2_134⟩ := ro_slice (hm.ow_rep 1 rfl)
       obtain ⟨p2_135, c2_135, rfl, hl2_135⟩ := ro_slice (hm.ow_rep 3 rfl)
       exact tP rfl (fun w => yG rfl (y_build (vs := [(0, (.slice p2_133 ([] : List Phi_).length c2_133)), (1, (.slice p2_134 ([] : List Ins_).length c2_134)), (2, (nV b_.jump)), (3, (nV b_.on)), (4, (.slice p2_135 pb1_1.length c2_135))]) (cs := #[(.slice p2_133 ([] : List Phi_).length c2_133), (.slice p2_134 ([] : List Ins_).length c2_134), (nV b_.jump), (nV b_.on), (.slice p2_135 pb1_1.length c2_135)]) rfl rfl (by kernel_rfl))) (tE (gZ fun a hf => ⟨b2_34, (.slice p2_133 ([] : List Phi_).length c2_133), (.slice p2_134 ([] : List Ins_).length c2_134), (.slice p2_135 pb1_1.length c2_135), hf.sb rfl, hm.pk [5, 4, 2, 0, 1, 3] rfl rfl⟩))
      refine tO ?_
      obtain ⟨h2_37, h2_37e⟩ := appM_some.1 hpb1_1
      refine tf rfl rfl (fun a hf => e_append 2 et_37 hf hm rfl (hm.now h3) rfl rfl rfl h2_37) ?_
      rintro v2_95 w hm
      rw [h2_37e] at hm
      refine tAk hm [3, 4] rfl fun hS => tO (tf rfl rfl (fun a hf => e_build0 (α := Phi_) et_101 hm rfl) ?_)
      rintro v2_96 w hm
      refine tAk hm [4, 5] rfl fun hS => ?_
      obtain ⟨p2_136, c2_136, rfl, hl2_136⟩ := ro_slice (hm.ow_rep 0 rfl)
      obtain ⟨p2_137, c2_137, rfl, hl2_137⟩ := ro_slice (hm.ow_rep 1 rfl)
      obtain ⟨p2_138, c2_138, rfl, hl2_138⟩ := ro_slice (hm.ow_rep 3 rfl)
      exact tP rfl (fun w => yG rfl (y_build (vs := [(0, (.slice p2_136 ([] : List Phi_).length c2_136)), (1, (.slice p2_137 ([] : List Ins_).length c2_137)), (2, (nV b_.jump)), (3, (nV b_.on)), (4, (.slice p2_138 pb1_1.length c2_138))]) (cs := #[(.slice p2_136 ([] : List Phi_).length c2_136), (.slice p2_137 ([] : List Ins_).length c2_137), (nV b_.jump), (nV b_.on), (.slice p2_138 pb1_1.length c2_138)]) rfl rfl (by kernel_rfl))) (tE (gZ fun a hf => ⟨b2_34, (.slice p2_136 ([] : List Phi_).length c2_136), (.slice p2_137 ([] : List Ins_).length c2_137), (.slice p2_138 pb1_1.length c2_138), hf.sb rfl, hm.pk [5, 4, 2, 0, 1, 3] rfl rfl⟩))
     refine tO ?_
     obtain ⟨h2_38, h2_38e⟩ := appM_some.1 hpb1_1
     refine tf rfl rfl (fun a hf => e_append 1 et_37 hf hm rfl (hm.now h3) rfl rfl rfl h2_38) ?_
     rintro v2_97 w hm
     rw [h2_38e] at hm
     refine tAk hm [2, 3] rfl fun hS => tMo ?_ ?_
     ·
      refine tf rfl rfl (fun a hf => e_build0 (α := Phi_) et_101 hm rfl) ?_
      rintro v2_98 w hm
      refine tAk hm [3, 4] rfl fun hS => tO (tf rfl rfl (fun a hf => e_build0 (α := Ins_) et_102 hm rfl) ?_)
      rintro v2_99 w hm
      refine tAk hm [4, 5] rfl fun hS => ?_
      obtain ⟨p2_139, c2_139, rfl, hl2_139⟩ := ro_slice (hm.ow_rep 1 rfl)
      obtain ⟨p2_140, c2_140, rfl, hl2_140⟩ := ro_slice (hm.ow_rep 0 rfl)
      obtain ⟨p2_141, c2_141, rfl, hl2_141⟩ := ro_slice (hm.ow_rep 3 rfl)
      exact tP rfl (fun w => yG rfl (y_build (vs := [(0, (.slice p2_139 ([] : List Phi_).length c2_139)), (1, (.slice p2_140 ([] : List Ins_).length c2_140)), (2, (nV b_.jump)), (3, (nV b_.on)), (4, (.slice p2_141 pb1_1.length c2_141))]) (cs := #[(.slice p2_139 ([] : List Phi_).length c2_139), (.slice p2_140 ([] : List Ins_).length c2_140), (nV b_.jump), (nV b_.on), (.slice p2_141 pb1_1.length c2_141)]) rfl rfl (by kernel_rfl))) (tE (gZ fun a hf => ⟨b2_34, (.slice p2_139 ([] : List Phi_).length c2_139), (.slice p2_140 ([] : List Ins_).length c2_140), (.slice p2_141 pb1_1.length c2_141), hf.sb rfl, hm.pk [5, 4, 2, 1, 0, 3] rfl rfl⟩))
     refine tO (tf rfl rfl (fun a hf => e_build0 (α := Ins_) et_102 hm rfl) ?_)
     rintro v2_100 w hm
     refine tAk hm [3, 4] rfl fun hS => tO (tf rfl rfl (fun a hf => e_build0 (α := Phi_) et_101 hm rfl) ?_)
     rintro v2_101 w hm
     refine tAk hm [4, 5] rfl fun hS => ?_
     obtain ⟨p2_142, c2_142, rfl, hl2_142⟩ := ro_slice (hm.ow_rep 0 rfl)
     obtain ⟨p2_143, c2_143, rfl, hl2_143⟩ := ro_slice (hm.ow_rep 1 rfl)
     obtain ⟨p2_144, c2_144, rfl, hl2_144⟩ := ro_slice (hm.ow_rep 3 rfl)
     exact tP rfl (fun w => yG rfl (y_build (vs := [(0, (.slice p2_142 ([] : List Phi_).length c2_142)), (1, (.slice p2_143 ([] : List Ins_).length c2_143)), (2, (nV b_.jump)), (3, (nV b_.on)), (4, (.slice p2_144 pb1_1.length c2_144))]) (cs := #[(.slice p2_142 ([] : List Phi_).length c2_142), (.slice p2_143 ([] : List Ins_).length c2_143), (nV b_.jump), (nV b_.on), (.slice p2_144 pb1_1.length c2_144)]) rfl rfl (by kernel_rfl))) (tE (gZ fun a hf => ⟨b2_34, (.slice p2_142 ([] : List Phi_).length c2_142), (.slice p2_143 ([] : List Ins_).length c2_143), (.slice p2_144 pb1_1.length c2_144), hf.sb rfl, hm.pk [5, 4, 2, 0, 1, 3] rfl rfl⟩))
    refine tO (tf rfl rfl (fun a hf => e_alloc hm zeroValue104 rfl rfl) ?_)
    rintro _ w ⟨b2_35, rfl, hm⟩
    refine tAk hm [1, 2] rfl fun hS => tMo ?_ ?_
    ·
     refine tf rfl rfl (fun a hf => e_build0 (α := Phi_) et_101 hm rfl) ?_
     rintro v2_102 w hm
     refine tAk hm [2, 3] rfl fun hS => tMo ?_ ?_
     ·
      refine tf rfl rfl (fun a hf => e_build0 (α := Ins_) et_102 hm rfl) ?_
      rintro v2_103 w hm
      refine tAk hm [3, 4] rfl fun hS => tO (tf rfl rfl (fun a hf => e_build0 (α := Int) et_37 hm rfl) ?_)
      rintro v2_104 w hm
      refine tAk hm [4, 5] rfl fun hS => tO ?_
      obtain ⟨h2_39, h2_39e⟩ := appM_some.1 hpb1_1
      refine tf rfl rfl (fun a hf => e_append 0 et_37 hf hm rfl (hm.now h3) rfl rfl rfl h2_39) ?_
      rintro v2_105 w hm
      rw [h2_39e] at hm
      refine tAk hm [4, 5] rfl fun hS => ?_
      obtain ⟨p2_145, c2_145, rfl, hl2_145⟩ := ro_slice (hm.ow_rep 2 rfl)
      obtain ⟨p2_146, c2_146, rfl, hl2_146⟩ := ro_slice (hm.ow_rep 1 rfl)
      obtain ⟨p2_147, c2_147, rfl, hl2_147⟩ := ro_slice (hm.ow_rep 0 rfl)
      exact tP rfl (fun w => yG rfl (y_build (vs := [(0, (.slice p2_145 ([] : List Phi_).length c2_145)), (1, (.slice p2_146 ([] : List Ins_).length c2_146)), (2, (nV b_.jump)), (3, (nV b_.on)), (4, (.slice p2_147 pb1_1.length c2_147))]) (cs := #[(.slice p2_145 ([] : List Phi_).length c2_145), (.slice p2_146 ([] : List Ins_).length c2_146), (nV b_.jump), (nV b_.on), (.slice p2_147 pb1_1.length c2_147)]) rfl rfl (by kernel_rfl))) (tE (gZ fun a hf => ⟨b2_35, (.slice p2_145 ([] : List Phi_).length c2_145), (.slice p2_146 ([] : List Ins_).length c2_146), (.slice p2_147 pb1_1.length c2_147), hf.sb rfl, hm.pk [5, 4, 3, 2, 1, 0] rfl rfl⟩))
     refine tO (tf rfl rfl (fun a hf => e_build0 (α := Int) et_37 hm rfl) ?_)
     rintro v2_106 w hm
     refine tAk hm [3, 4] rfl fun hS => tMo ?_ ?_
     ·
      refine tf rfl rfl (fun a hf => e_build0 (α := Ins_) et_102 hm rfl) ?_
      rintro v2_107 w hm
      refine tAk hm [4, 5] rfl fun hS => tO ?_
      obtain ⟨h2_40, h2_40e⟩ := appM_some.1 hpb1_1
      refine tf rfl rfl (fun a hf => e_append 1 et_37 hf hm rfl (hm.now h3) rfl rfl rfl h2_40) ?_
      rintro v2_108 w hm
      rw [h2_40e] at hm
      refine tAk hm [4, 5] rfl fun hS => ?_
      obtain ⟨p2_148, c2_148, rfl, hl2_148⟩ := ro_slice (hm.ow_rep 2 rfl)
      obtain ⟨p2_149, c2_149, rfl, hl2_149⟩ := ro_slice (hm.ow_rep 0 rfl)
      obtain ⟨p2_150, c2_150, rfl, hl2_150⟩ := ro_slice (hm.ow_rep 1 rfl)
      exact tP rfl (fun w => yG rfl (y_build (vs := [(0, (.slice p2_148 ([] : List Phi_).length c2_148)), (1, (.slice p2_149 ([] : List Ins_).length c2_149)), (2, (nV b_.jump)), (3, (nV b_.on)), (4, (.slice p2_150 pb1_1.length c2_150))]) (cs := #[(.slice p2_148 ([] : List Phi_).length c2_148), (.slice p2_149 ([] : List Ins_).length c2_149), (nV b_.jump), (nV b_.on), (.slice p2_150 pb1_1.length c2_150)]) rfl rfl (by kernel_rfl))) (tE (gZ fun a hf => ⟨b2_35, (.slice p2_148 ([] : List Phi_).length c2_148), (.slice p2_149 ([] : List Ins_).length c2_149), (.slice p2_150 pb1_1.length c2_150), hf.sb rfl, hm.pk [5, 4, 3, 2, 0, 1] rfl rfl⟩))
     refine tO ?_
     obtain ⟨h2_41, h2_41e⟩ := appM_some.1 hpb1_1
     refine tf rfl rfl (fun a hf => e_append 0 et_37 hf hm rfl (hm.now h3) rfl rfl rfl h2_41) ?_
     rintro v2_109 w hm
     rw [h2_41e] at hm
     refine tAk hm [3, 4] rfl fun hS => tO (tf rfl rfl (fun a hf => e_build0 (α := Ins_) et_102 hm rfl) ?_)
     rintro v2_110 w hm
     refine tAk hm [4, 5] rfl fun hS => ?_
     obtain ⟨p2_151, c2_151, rfl, hl2_151⟩ := ro_slice (hm.ow_rep 2 rfl)
     obtain ⟨p2_152, c2_152, rfl, hl2_152⟩ := ro_slice (hm.ow_rep 0 rfl)
     obtain ⟨p2_153, c2_153, rfl, hl2_153⟩ := ro_slice (hm.ow_rep 1 rfl)
     exact tP rfl (fun w => yG rfl (y_build (vs := [(0, (.slice p2_151 ([] : List Phi_).length c2_151)), (1, (.slice p2_152 ([] : List Ins_).length c2_152)), (2, (nV b_.jump)), (3, (nV b_.on)), (4, (.slice p2_153 pb1_1.length c2_153))]) (cs := #[(.slice p2_151 ([] : List Phi_).length c2_151), (.slice p2_152 ([] : List Ins_).length c2_152), (nV b_.jump), (nV b_.on), (.slice p2_153 pb1_1.length c2_153)]) rfl rfl (by kernel_rfl))) (tE (gZ fun a hf => ⟨b2_35, (.slice p2_151 ([] : List Phi_).length c2_151), (.slice p2_152 ([] : List Ins_).length c2_152), (.slice p2_153 pb1_1.length c2_153), hf.sb rfl, hm.pk [5, 4, 3, 2, 0, 1] rfl rfl⟩))
    refine tMo ?_ ?_
    ·
     refine tf rfl rfl (fun a hf => e_build0 (α := Ins_) et_102 hm rfl) ?_
     rintro v2_111 w hm
     refine tAk hm [2, 3] rfl fun hS => tMo ?_ ?_
     ·
      refine tf rfl rfl (fun a hf => e_build0 (α := Phi_) et_101 hm rfl) ?_
      rintro v2_112 w hm
      refine tAk hm [3, 4] rfl fun hS => tO (tf rfl rfl (fun a hf => e_build0 (α := Int) et_37 hm rfl) ?_)
      rintro v2_113 w hm
      refine tAk hm [4, 5] rfl fun hS => tO ?_
      obtain ⟨h2_42, h2_42e⟩ := appM_some.1 hpb1_1
      refine tf rfl rfl (fun a hf => e_append 0 et_37 hf hm rfl (hm.now h3) rfl rfl rfl h2_42) ?_
      rintro v2_114 w hm
      rw [h2_42e] at hm
      refine tAk hm [4, 5] rfl fun hS => ?_
      obtain ⟨p2_154, c2_154, rfl, hl2_154⟩ := ro_slice (hm.ow_rep 1 rfl)
      obtain ⟨p2_155, c2_155, rfl, hl2_155⟩ := ro_slice (hm.ow_rep 2 rfl)
      obtain ⟨p2_156, c2_156, rfl, hl2_156⟩ := ro_slice (hm.ow_rep 0 rfl)
      exact tP rfl (fun w => yG rfl (y_build (vs := [(0, (.slice p2_154 ([] : List Phi_).length c2_154)), (1, (.slice p2_155 ([] : List Ins_).length c2_155)), (2, (nV b_.jump)), (3, (nV b_.on)), (4, (.slice p2_156 pb1_1.length c2_156))]) (cs := #[(.slice p2_154 ([] : List Phi_).length c2_154), (.slice p2_155 ([] : List Ins_).length c2_155), (nV b_.jump), (nV b_.on), (.slice p2_156 pb1_1.length c2_156)]) rfl rfl (by kernel_rfl))) (tE (gZ fun a hf => ⟨b2_35, (.slice p2_154 ([] : List Phi_).length c2_154), (.slice p2_155 ([] : List Ins_).length c2_155), (.slice p2_156 pb1_1.length c2_156), hf.sb rfl, hm.pk [5, 4, 3, 1, 2, 0] rfl rfl⟩))
     refine tO (tf rfl rfl (fun a hf => e_build0 (α := Int) et_37 hm rfl) ?_)
     rintro v2_115 w hm
     refine tAk hm [3, 4] rfl fun hS => tMo ?_ ?_
     ·
      refine tf rfl rfl (fun a hf => e_build0 (α := Phi_) et_101 hm rfl) ?_
      rintro v2_116 w hm
      refine tAk hm [4, 5] rfl fun hS => tO ?_
      obtain ⟨h2_43, h2_43e⟩ := appM_some.1 hpb1_1
      refine tf rfl rfl (fun a hf => e_append 1 et_37 hf hm rfl (hm.now h3) rfl rfl rfl h2_43) ?_
      rintro v2_117 w hm
      rw [h2_43e] at hm
      refine tAk hm [4, 5] rfl fun hS => ?_
      obtain ⟨p2_157, c2_157, rfl, hl2_157⟩ := ro_slice (hm.ow_rep 0 rfl)
      obtain ⟨p2_158, c2_158, rfl, hl2_158⟩ := ro_slice (hm.ow_rep 2 rfl)
      obtain ⟨p2_159, c2_159, rfl, hl2_159⟩ := ro_slice (hm.ow_rep 1 rfl)
      exact tP rfl (fun w => yG rfl (y_build (vs := [(0, (.slice p2_157 ([] : List Phi_).length c2_157)), (1, (.slice p2_158 ([] : List Ins_).length c2_158)), (2, (nV b_.jump)), (3, (nV b_.on)), (4, (.slice p2_159 pb1_1.length c2_159))]) (cs := #[(.slice p2_157 ([] : List Phi_).length c2_157), (.slice p2_158 ([] : List Ins_).length c2_158), (nV b_.jump), (nV b_.on), (.slice p2_159 pb1_1.length c2_159)]) rfl rfl (by kernel_rfl))) (tE (gZ fun a hf => ⟨b2_35, (.slice p2_157 ([] : List Phi_).length c2_157), (.slice p2_158 ([] : List Ins_).length c2_158), (.slice p2_159 pb1_1.length c2_159), hf.sb rfl, hm.pk [5, 4, 3, 0, 2, 1] rfl rfl⟩))
     refine tO ?_
     obtain ⟨h2_44, h2_44e⟩ := appM_some.1 hpb1_1
     refine tf rfl rfl (fun a hf => e_append 0 et_37 hf hm rfl (hm.now h3) rfl rfl rfl h2_44) ?_
     rintro v2_118 w hm
     rw [h2_44e] at hm
     refine tAk hm [3, 4] rfl fun hS => tO (tf rfl rfl (fun a hf => e_build0 (α := Phi_) et_101 hm rfl) ?_)
     rintro v2_119 w hm
     refine tAk hm [4, 5] rfl fun hS => ?_
     obtain ⟨p2_160, c2_160, rfl, hl2_160⟩ := ro_slice (hm.ow_rep 0 rfl)
     obtain ⟨p2_161, c2_161, rfl, hl2_161⟩ := ro_slice (hm.ow_rep 2 rfl)
     obtain ⟨p2_162, c2_162, rfl, hl2_162⟩ := ro_slice (hm.ow_rep 1 rfl)
     exact tP rfl (fun w => yG rfl (y_build (vs := [(0, (.slice p2_160 ([] : List Phi_).length c2_160)), (1, (.slice p2_161 ([] : List Ins_).length c2_161)), (2, (nV b_.jump)), (3, (nV b_.on)), (4, (.slice p2_162 pb1_1.length c2_162))]) (cs := #[(.slice p2_160 ([] : List Phi_).length c2_160), (.slice p2_161 ([] : List Ins_).length c2_161), (nV b_.jump), (nV b_.on), (.slice p2_162 pb1_1.length c2_162)]) rfl rfl (by kernel_rfl))) (tE (gZ fun a hf => ⟨b2_35, (.slice p2_160 ([] : List Phi_).length c2_160), (.slice p2_161 ([] : List Ins_).length c2_161), (.slice p2_162 pb1_1.length c2_162), hf.sb rfl, hm.pk [5, 4, 3, 0, 2, 1] rfl rfl⟩))
    refine tO (tf rfl rfl (fun a hf => e_build0 (α := Int) et_37 hm rfl) ?_)
    rintro v2_120 w hm
    refine tAk hm [2, 3] rfl fun hS => tMo ?_ ?_
    ·
     refine tf rfl rfl (fun a hf => e_build0 (α := Phi_) et_101 hm rfl) ?_
     rintro v2_121 w hm
     refine tAk hm [3, 4] rfl fun hS => tMo ?_ ?_
     ·
      refine tf rfl rfl (fun a hf => e_build0 (α := Ins_) et_102 hm rfl) ?_
      rintro v2_122 w hm
      refine tAk hm [4, 5] rfl fun hS => tO ?_
      obtain ⟨h2_45, h2_45e⟩ := appM_some.1 hpb1_1
      refine tf rfl rfl (fun a hf => e_append 2 et_37 hf hm rfl (hm.now h3) rfl rfl rfl h2_45) ?_
      rintro v2_123 w hm
      rw [h2_45e] at hm
      refine tAk hm [4, 5] rfl fun hS => ?_
      obtain ⟨p2_163, c2_163, rfl, hl2_163⟩ := ro_slice (hm.ow_rep 1 rfl)
      obtain ⟨p2_164, c2_164, rfl, hl2_164⟩ := ro_slice (hm.ow_rep 0 rfl)
      obtain ⟨p2_165, c2_165, rfl, hl2_165⟩ := ro_slice (hm.ow_rep 2 rfl)
      exact tP rfl (fun w => yG rfl (y_build (vs := [(0, (.slice p2_163 ([] : List Phi_).length c2_163)), (1, (.slice p2_164 ([] : List Ins_).length c2_164)), (2, (nV b_.jump)), (3, (nV b_.on)), (4, (.slice p2_165 pb1_1.length c2_165))]) (cs := #[(.slice p2_163 ([] : List Phi_).length c2_163), (.slice p2_164 ([] : List Ins_).length c2_164), (nV b_.jump), (nV b_.on), (.slice p2_165 pb1_1.length c2_165)]) rfl rfl (by kernel_rfl))) (tE (gZ fun a hf => ⟨b2_35, (.slice p2_163 ([] : List Phi_).length c2_163), (.slice p2_164 ([] : List Ins_).length c2_164), (.slice p2_165 pb1_1.length c2_165), hf.sb rfl, hm.pk [5, 4, 3, 1, 0, 2] rfl rfl⟩))
     refine tO ?_
     obtain ⟨h2_46, h2_46e⟩ := appM_some.1 hpb1_1
     refine tf rfl rfl (fun a hf => e_append 1 et_37 hf hm rfl (hm.now h3) rfl rfl rfl h2_46) ?_
     rintro v2_124 w hm
     rw [h2_46e] at hm
     refine tAk hm [3, 4] rfl fun hS => tO (tf rfl rfl (fun a hf => e_build0 (α := Ins_) et_102 hm rfl) ?_)
     rintro v2_125 w hm
     refine tAk hm [4, 5] rfl fun hS => ?_
     obtain ⟨p2_166, c2_166, rfl, hl2_166⟩ := ro_slice (hm.ow_rep 1 rfl)
     obtain ⟨p2_167, c2_167, rfl, hl2_167⟩ := ro_slice (hm.ow_rep 0 rfl)
     obtain ⟨p2_168, c2_168, rfl, hl2_168⟩ := ro_slice (hm.ow_rep 2 rfl)
     exact tP rfl (fun w => yG rfl (y_build (vs := [(0, (.slice p2_166 ([] : List Phi_).length c2_166)), (1, (.slice p2_167 ([] : List Ins_).length c2_167)), (2, (nV b_.jump)), (3, (nV b_.on)), (4, (.slice p2_168 pb1_1.length c2_168))]) (cs := #[(.slice p2_166 ([] : List Phi_).length c2_166), (.slice p2_167 ([] : List Ins_).length c2_167), (nV b_.jump), (nV b_.on), (.slice p2_168 pb1_1.length c2_168)]) rfl rfl (by kernel_rfl))) (tE (gZ fun a hf => ⟨b2_35, (.slice p2_166 ([] : List Phi_).length c2_166), (.slice p2_167 ([] : List Ins_).length c2_167), (.slice p2_168 pb1_1.length c2_168), hf.sb rfl, hm.pk [5, 4, 3, 1, 0, 2] rfl rfl⟩))
    refine tMo ?_ ?_
    ·
     refine tf rfl rfl (fun a hf => e_build0 (α := Ins_) et_102 hm rfl) ?_
     rintro v2_126 w hm
     refine tAk hm [3, 4] rfl fun hS => tMo ?_ ?_
     ·
      refine tf rfl rfl (fun a hf => e_build0 (α := Phi_) et_101 hm rfl) ?_
      rintro v2_127 w hm
      refine tAk hm [4, 5] rfl fun hS => tO ?_
      obtain ⟨h2_47, h2_47e⟩ := appM_some.1 hpb1_1
      refine tf rfl rfl (fun a hf => e_append 2 et_37 hf hm rfl (hm.now h3) rfl rfl rfl h2_47) ?_
      rintro v2_128 w hm
      rw [h2_47e] at hm
      refine tAk hm [4, 5] rfl fun hS => ?_
      obtain ⟨p2_169, c2_169, rfl, hl2_169⟩ := ro_slice (hm.ow_rep 0 rfl)
      obtain ⟨p2_170, c2_170, rfl, hl2_170⟩ := ro_slice (hm.ow_rep 1 rfl)
      obtain ⟨p2_171, c2_171, rfl, hl2_171⟩ := ro_slice (hm.ow_rep 2 rfl)
      exact tP rfl (fun w => yG rfl (y_build (vs := [(0, (.slice p2_169 ([] : List Phi_).length c2_169)), (1, (.slice p2_170 ([] : List Ins_).length c2_170)), (2, (nV b_.jump)), (3, (nV b_.on)), (4, (.slice p2_171 pb1_1.length c2_171))]) (cs := #[(.slice p2_169 ([] : List Phi_).length c2_169), (.slice p2_170 ([] : List Ins_).length c2_170), (nV b_.jump), (nV b_.on), (.slice p2_171 pb1_1.length c2_171)]) rfl rfl (by kernel_rfl))) (tE (gZ fun a hf => ⟨b2_35, (.slice p2_169 ([] : List Phi_).length c2_169), (.slice p2_170 ([] : List Ins_).length c2_170), (.slice p2_171 pb1_1.length c2_171), hf.sb rfl, hm.pk [5, 4, 3, 0, 1, 2] rfl rfl⟩))
     refine tO ?_
     obtain ⟨h2_48, h2_48e⟩ := appM_some.1 hpb1_1
     refine tf rfl rfl (fun a hf => e_append 1 et_37 hf hm rfl (hm.now h3) rfl rfl rfl h2_48) ?_
     rintro v2_129 w hm
     rw [h2_48e] at hm
     refine tAk hm [3, 4] rfl fun hS => tO (tf rfl rfl (fun a hf => e_build0 (α := Phi_) et_101 hm rfl) ?_)
     rintro v2_130 w hm
     refine tAk hm [4, 5] rfl fun hS => ?_
     obtain ⟨p2_172, c2_172, rfl, hl2_172⟩ := ro_slice (hm.ow_rep 0 rfl)
     obtain ⟨p2_173, c2_173, rfl, hl2_173⟩ := ro_slice (hm.ow_rep 1 rfl)
     obtain ⟨p2_174, c2_174, rfl, hl2_174⟩ := ro_slice (hm.ow_rep 2 rfl)
     exact tP rfl (fun w => yG rfl (y_build (vs := [(0, (.slice p2_172 ([] : List Phi_).length c2_172)), (1, (.slice p2_173 ([] : List Ins_).length c2_173)), (2, (nV b_.jump)), (3, (nV b_.on)), (4, (.slice p2_174 pb1_1.length c2_174))]) (cs := #[(.slice p2_172 ([] : List Phi_).length c2_172), (.slice p2_173 ([] : List Ins_).length c2_173), (nV b_.jump), (nV b_.on), (.slice p2_174 pb1_1.length c2_174)]) rfl rfl (by kernel_rfl))) (tE (gZ fun a hf => ⟨b2_35, (.slice p2_172 ([] : List Phi_).length c2_172), (.slice p2_173 ([] : List Ins_).length c2_173), (.slice p2_174 pb1_1.length c2_174), hf.sb rfl, hm.pk [5, 4, 3, 0, 1, 2] rfl rfl⟩))
    refine tO ?_
    obtain ⟨h2_49, h2_49e⟩ := appM_some.1 hpb1_1
    refine tf rfl rfl (fun a hf => e_append 0 et_37 hf hm rfl (hm.now h3) rfl rfl rfl h2_49) ?_
    rintro v2_131 w hm
    rw [h2_49e] at hm
    refine tAk hm [2, 3] rfl fun hS => tMo ?_ ?_
    ·
     refine tf rfl rfl (fun a hf => e_build0 (α := Phi_) et_101 hm rfl) ?_
     rintro v2_132 w hm
     refine tAk hm [3, 4] rfl fun hS => tO (tf rfl rfl (fun a hf => e_build0 (α := Ins_) et_102 hm rfl) ?_)
     rintro v2_133 w hm
     refine tAk hm [4, 5] rfl fun hS => ?_
     obtain ⟨p2_175, c2_175, rfl, hl2_175⟩ := ro_slice (hm.ow_rep 1 rfl)
     obtain ⟨p2_176, c2_176, rfl, hl2_176⟩ := ro_slice (hm.ow_rep 0 rfl)
     obtain ⟨p2_177, c2_177, rfl, hl2_177⟩ := ro_slice (hm.ow_rep 2 rfl)
     exact tP rfl (fun w => yG rfl (y_build (vs := [(0, (.slice p2_175 ([] : List Phi_).length c2_175)), (1, (.slice p2_176 ([] : List Ins_).length c2_176)), (2, (nV b_.jump)), (3, (nV b_.on)), (4, (.slice p2_177 pb1_1.length c2_177))]) (cs := #[(.slice p2_175 ([] : List Phi_).length c2_175), (.slice p2_176 ([] : List Ins_).length c2_176), (nV b_.jump), (nV b_.on), (.slice p2_177 pb1_1.length c2_177)]) rfl rfl (by kernel_rfl))) (tE (gZ fun a hf => ⟨b2_35, (.slice p2_175 ([] : List Phi_).length c2_175), (.slice p2_176 ([] : List Ins_).length c2_176), (.slice p2_177 pb1_1.length c2_177), hf.sb rfl, hm.pk [5, 4, 3, 1, 0, 2] rfl rfl⟩))
    refine tO (tf rfl rfl (fun a hf => e_build0 (α := Ins_) et_102 hm rfl) ?_)
    rintro v2_134 w hm
    refine tAk hm [3, 4] rfl fun hS => tO (tf rfl rfl (fun a hf => e_build0 (α := Phi_) et_101 hm rfl) ?_)
    rintro v2_135 w hm
    refine tAk hm [4, 5] rfl fun hS => ?_
    obtain ⟨p2_178, c2_178, rfl, hl2_178⟩ := ro_slice (hm.ow_rep 0 rfl)
    obtain ⟨p2_179, c2_179, rfl, hl2_179⟩ := ro_slice (hm.ow_rep 1 rfl)
    obtain ⟨p2_180, c2_180, rfl, hl2_180⟩ := ro_slice (hm.ow_rep 2 rfl)
    exact tP rfl (fun w => yG rfl (y_build (vs := [(0, (.slice p2_178 ([] : List Phi_).length c2_178)), (1, (.slice p2_179 ([] : List Ins_).length c2_179)), (2, (nV b_.jump)), (3, (nV b_.on)), (4, (.slice p2_180 pb1_1.length c2_180))]) (cs := #[(.slice p2_178 ([] : List Phi_).length c2_178), (.slice p2_179 ([] : List Ins_).length c2_179), (nV b_.jump), (nV b_.on), (.slice p2_180 pb1_1.length c2_180)]) rfl rfl (by kernel_rfl))) (tE (gZ fun a hf => ⟨b2_35, (.slice p2_178 ([] : List Phi_).length c2_178), (.slice p2_179 ([] : List Ins_).length c2_179), (.slice p2_180 pb1_1.length c2_180), hf.sb rfl, hm.pk [5, 4, 3, 0, 1, 2] rfl rfl⟩))
   repeat clear hm
   rintro s1_1 a w ⟨b1_1, v1_1, v1_2, v1_3, hf, hm⟩
   refine gv hf (tO (tf0 rfl rfl (fun a hf => e_storeN 2 hf hm rfl sizeOf104 rfl rfl rfl (one_cons (rep_one (hm.ow_rep 3 rfl)) (one_cons (rep_one (hm.ow_rep 4 rfl)) (one_cons rfl (one_cons rfl (one_cons (rep_one (hm.ow_rep 5 rfl)) one_nil))))) rfl rfl) ?_))
   rintro _ w hm
   exact tAn rfl (tE (gZ fun a hf => ⟨b1_1, v1_1, v1_2, v1_3, hf.sb rfl, hm.pk [0, 1, 2, 3, 4, 5] rfl rfl⟩))
  repeat clear hm
  rintro s0_1 a w ⟨b0_3, v0_1, v0_2, v0_3, hf, hm⟩
  refine gv hf (gS (gS (gR (gA rfl (gE ?_)))))
  obtain ⟨p0_1, c0_1, rfl, hl0_1⟩ := ro_slice (hm.ow_rep 3 rfl)
  obtain ⟨p0_2, c0_2, rfl, hl0_2⟩ := ro_slice (hm.ow_rep 4 rfl)
  obtain ⟨p0_3, c0_3, rfl, hl0_3⟩ := ro_slice (hm.ow_rep 5 rfl)
  refine gBk (gNg (fun i1_1 xs1_1 a w => ∃ (v1_4 : Value), St 74 [(1, (pV b0_1)), (2, (pV b0_2)), (3, (pV b0_3)), (4, (nV i1_1))] w0 (hp w0) [blk b0_1 [v1, v2, (nV b_.jump), (nV b_.on), v3] 104, blk b0_2 [(.slice none 0 0), (.slice none 0 0), (nV 0), (nV 0), (.slice none 0 0)] 104, blk b0_3 [v1_4, (.slice p0_2 ([] : List Ins_).length c0_2), (nV b_.jump), (nV b_.on), (.slice p0_3 s0_1.length c0_3)] 104, ow [v1_4] xs1_1, ow [(.slice p0_2 ([] : List Ins_).length c0_2)] ([] : List Ins_), ow [(.slice p0_3 s0_1.length c0_3)] s0_1] a w) (fun a hf => ⟨(.slice p0_1 ([] : List Phi_).length c0_1), hf.sb rfl, hm.pk [0, 1, 2, 3, 4, 5] rfl rfl⟩) ?_ ?_)
  ·
   repeat clear hm
   rintro _ _ i1_1 xs1_1 a w ⟨v1_4, hf, hm⟩ hi0_1 hi0_2 q0_1 _
   refine gv hf (gS (gS (gR (gM rfl (gF fo_104_0 rfl (gL hm 0 isAgg101 rfl ?_))))))
   obtain ⟨p1_1, c1_1, rfl, hl1_1⟩ := ro_slice h1
   refine gY (yV st_101 rfl) (gB rfl (gE (go _ 22 rfl (decide_eq_true (by omega)) (gct rfl (gSk (gS (gBk (gW (.p 0 (.p 2 (.p 4 (.p 9 (.p 11 (.q 1 (.q 3 (.p 5 (.p 6 (.q 7 (.q 10 (.p 12 (.p 13 (.q 14 (.e 8 (.e 15 (.p 16 (.e 17 (.e 18 (.p 19 (.e 20 .fin .nil)) .nil) .nil)) .nil) .nil))))))))))))))) [1, 3, 7, 8, 10, 14, 15, 17] [0, 2, 4, 5, 6, 9, 11, 12, 13, 16, 19] hm [0, 1, 2, 3, 4, 5] [blk b0_1 [(.slice p1_1 b_.phis.length c1_1), v2, (nV b_.jump), (nV b_.on), v3] 104, blk b0_2 [(.slice none 0 0), (.slice none 0 0), (nV 0), (nV 0), (.slice none 0 0)] 104, blk b0_3 [v1_4, (.slice p0_2 ([] : List Ins_).length c0_2), (nV b_.jump), (nV b_.on), (.slice p0_3 s0_1.length c0_3)] 104, ow [v1_4] xs1_1, ow [(.slice p0_2 ([] : List Ins_).length c0_2)] ([] : List Ins_), ow [(.slice p0_3 s0_1.length c0_3)] s0_1] rfl mxo (by kernel_rfl) (fun _ _ _ h => h.2) fun w hm hS => tP rfl (fun w => yF fo_104_0 rfl) (tP rfl (fun w => yF fo_104_0 rfl) (tP rfl (fun w => yM rfl) (tP rfl (fun w => yF fo_104_0 rfl) (tP rfl (fun w => yM rfl) (tQ rfl hS (fun w hm => yL hm 2 isAgg101 rfl) (tQ rfl hS (fun w hm => yL hm 0 isAgg101 rfl) (gg fun x1_1 h1_1 hx1_2 => ?_)))))))))))))))
   obtain ⟨b1_2, o1_1, c1_2, he⟩ := idx_form' h1 hx1_2
   simp only [Value.slice.injEq, Option.some.injEq] at he; obtain ⟨rfl, _, rfl⟩ := he
   obtain ⟨v1_5, hc1_1, h1_2⟩ := rk_Phi_ h1 hx1_2
   refine tP rfl (fun w => yI st_101 h1_1 (idx_lt hx1_2) rfl) (tP rfl (fun w => yF fo_143_0 rfl) (tQ rfl hS (fun w hm => yl isAgg3 ((hc1_1.mono hm.lez).cell (j := 0) rfl) rfl) (tQ rfl hS (fun w hm => yL hm 0 isAgg101 rfl) (tP rfl (fun w => yI st_101 h1_1 (idx_lt hx1_2) rfl) (tP rfl (fun w => yF fo_143_1 rfl) (tQ rfl hS (fun w hm => yl isAgg37 ((hc1_1.mono hm.lez).cell (j := 1) rfl) rfl) (tO (tf rfl rfl (fun a hf => e_build0 (α := Int) et_37 hm rfl) ?_))))))))
   rintro v1_6 w hm
   refine tAk hm [1, 2, 3, 4, 5, 6] rfl fun hS => tO (gb fun ys1_1 hx1_3 => ?_)
   obtain ⟨h1_3, h1_3e⟩ := appM_some.1 hx1_3
   refine tf rfl rfl (fun a hf => e_append 0 et_37 hf hm rfl (hm.now h1_2) rfl rfl rfl h1_3) ?_
   rintro v1_7 w hm
   rw [h1_3e] at hm
   refine tAk hm [1, 2, 3, 4, 5, 6] rfl fun hS => ?_
   obtain ⟨p1_2, c1_3, rfl, hl1_2⟩ := ro_slice (hm.ow_rep 0 rfl)
   refine tP rfl (fun w => yG rfl (y_build (vs := [(0, (nV x1_1.to)), (1, (.slice p1_2 ys1_1.length c1_3))]) (cs := #[(nV x1_1.to), (.slice p1_2 ys1_1.length c1_3)]) rfl rfl (by kernel_rfl))) (tO (tf rfl rfl (fun a hf => e_build (vs := #[(0, (.agg #[(nV x1_1.to), (.slice p1_2 ys1_1.length c1_3)]))]) (cs := [(nV x1_1.to), (.slice p1_2 ys1_1.length c1_3)]) et_101 hf hm rfl rfl (by kernel_rfl) rfl rfl) ?_))
   rintro _ w ⟨b1_3, rfl, hm⟩
   replace hm := hm.els_nil (α := Phi_)
   replace hm : Mem w0 (hp w0) _ [els [] ([] : List Phi_), blk b1_3 [(nV x1_1.to), (.slice p1_2 ys1_1.length c1_3)] 143, ow [(nV x1_1.to), (.slice p1_2 ys1_1.length c1_3)] ((⟨x1_1.to, ys1_1⟩ : Phi_) : Phi_), blk b0_1 [(sV b1_2 o1_1 b_.phis.length c1_1), v2, (nV b_.jump), (nV b_.on), v3] 104, blk b0_2 [(.slice none 0 0), (.slice none 0 0), (nV 0), (nV 0), (.slice none 0 0)] 104, blk b0_3 [v1_4, (.slice p0_2 ([] : List Ins_).length c0_2), (nV b_.jump), (nV b_.on), (.slice p0_3 s0_1.length c0_3)] 104, ow [v1_4] xs1_1, ow [(.slice p0_2 ([] : List Ins_).length c0_2)] ([] : List Ins_), ow [(.slice p0_3 s0_1.length c0_3)] s0_1] := mk_Phi_ x1_1.to hm 2 rfl
   replace hm := (hm.els_cons 0 2 (by decide) rfl rfl).pk (L' := [els [(nV x1_1.to), (.slice p1_2 ys1_1.length c1_3)] ([(⟨x1_1.to, ys1_1⟩ : Phi_)] : List Phi_), blk b1_3 [(nV x1_1.to), (.slice p1_2 ys1_1.length c1_3)] 143, blk b0_1 [(sV b1_2 o1_1 b_.phis.length c1_1), v2, (nV b_.jump), (nV b_.on), v3] 104, blk b0_2 [(.slice none 0 0), (.slice none 0 0), (nV 0), (nV 0), (.slice none 0 0)] 104, blk b0_3 [v1_4, (.slice p0_2 ([] : List Ins_).length c0_2), (nV b_.jump), (nV b_.on), (.slice p0_3 s0_1.length c0_3)] 104, ow [v1_4] xs1_1, ow [(.slice p0_2 ([] : List Ins_).length c0_2)] ([] : List Ins_), ow [(.slice p0_3 s0_1.length c0_3)] s0_1]) [0, 1, 3, 4, 5, 6, 7, 8] rfl rfl
   replace hm := (hm.lit_els 1 0 (by decide) rfl rfl rfl rfl).pk (L' := [ow [(sV b1_3 0 1 1)] ([(⟨x1_1.to, ys1_1⟩ : Phi_)] : List Phi_), blk b0_1 [(sV b1_2 o1_1 b_.phis.length c1_1), v2, (nV b_.jump), (nV b_.on), v3] 104, blk b0_2 [(.slice none 0 0), (.slice none 0 0), (nV 0), (nV 0), (.slice none 0 0)] 104, blk b0_3 [v1_4, (.slice p0_2 ([] : List Ins_).length c0_2), (nV b_.jump), (nV b_.on), (.slice p0_3 s0_1.length c0_3)] 104, ow [v1_4] xs1_1, ow [(.slice p0_2 ([] : List Ins_).length c0_2)] ([] : List Ins_), ow [(.slice p0_3 s0_1.length c0_3)] s0_1]) [1, 2, 3, 4, 5, 6, 7] rfl rfl
   refine tAk hm [1, 2, 3, 4, 5, 6] rfl fun hS => tO (gb fun ys1_2 hx1_4 => ?_)
   obtain ⟨h1_4, h1_4e⟩ := appM_some.1 hx1_4
   replace hm := (hm.both 4 0 (by decide) rfl rfl).pk (L' := [blk b0_1 [(sV b1_2 o1_1 b_.phis.length c1_1), v2, (nV b_.jump), (nV b_.on), v3] 104, blk b0_2 [(.slice none 0 0), (.slice none 0 0), (nV 0), (nV 0), (.slice none 0 0)] 104, blk b0_3 [v1_4, (.slice p0_2 ([] : List Ins_).length c0_2), (nV b_.jump), (nV b_.on), (.slice p0_3 s0_1.length c0_3)] 104, both (ow [v1_4] xs1_1) (ow [(sV b1_3 0 1 1)] ([(⟨x1_1.to, ys1_1⟩ : Phi_)] : List Phi_)), ow [(.slice p0_2 ([] : List Ins_).length c0_2)] ([] : List Ins_), ow [(.slice p0_3 s0_1.length c0_3)] s0_1]) [1, 2, 3, 4, 5, 6] rfl rfl
   refine tf rfl rfl (fun a hf => e_appendD (xs := xs1_1) (ys := ([(⟨x1_1.to, ys1_1⟩ : Phi_)] : List Phi_)) 3 et_101 hf hm rfl rfl rfl rfl h1_4) ?_
   rintro v1_8 w hm
   rw [h1_4e] at hm
   refine tAn rfl (tP rfl (fun w => yF fo_104_0 rfl) (tO (tf0 rfl rfl (fun a hf => e_store1 2 hf hm rfl sizeOf101 rfl rfl rfl (rep_one (hm.ow_rep 3 rfl)) rfl) ?_)))
   rintro _ w hm
   exact tAn rfl (tE (gR (gM rfl (gP (by omega) (by omega) rfl (gA rfl (gE (gZe fun a hf => ⟨v1_8, hf.sb rfl, hm.pk [0, 1, 2, 3, 4, 5] rfl rfl⟩)))))))
  repeat clear hm
  rintro i0_1 xs0_1 a w ⟨v0_4, hf, hm⟩ hi0_3 hi0_4
  refine gv hf (gS (gS (gR (gM rfl (gF fo_104_0 rfl (gL hm 0 isAgg101 rfl ?_))))))
  obtain ⟨p0_4, c0_4, rfl, hl0_4⟩ := ro_slice h1
  refine gY (yV st_101 rfl) (gB rfl (gE (go _ 22 rfl (decide_eq_false (by omega)) (gcf rfl (gXt (gHh (gS (gS (gR (gA rfl (gE ?_)))))))))))
  obtain ⟨p0_5, c0_5, rfl, hl0_5⟩ := ro_slice (hm.ow_rep 3 rfl)
  refine gBk (gNg (fun i1_2 xs1_2 a w => ∃ (v1_9 : Value), St 74 [(1, (pV b0_1)), (2, (pV b0_2)), (3, (pV b0_3)), (5, (nV i1_2))] w0 (hp w0) [blk b0_1 [(.slice p0_4 b_.phis.length c0_4), v2, (nV b_.jump), (nV b_.on), v3] 104, blk b0_2 [(.slice none 0 0), (.slice none 0 0), (nV 0), (nV 0), (.slice none 0 0)] 104, blk b0_3 [(.slice p0_5 xs0_1.length c0_5), v1_9, (nV b_.jump), (nV b_.on), (.slice p0_3 s0_1.length c0_3)] 104, ow [(.slice p0_5 xs0_1.length c0_5)] xs0_1, ow [v1_9] xs1_2, ow [(.slice p0_3 s0_1.length c0_3)] s0_1] a w) (fun a hf => ⟨(.slice p0_2 ([] : List Ins_).length c0_2), hf.sb rfl, hm.pk [0, 1, 2, 3, 4, 5] rfl rfl⟩) ?_ ?_)
  ·
   repeat clear hm
   rintro _ _ i1_2 xs1_2 a w ⟨v1_9, hf, hm⟩ hi0_5 hi0_6 q0_2 _
   refine gv hf (gS (gS (gR (gM rfl (gF fo_104_1 rfl (gL hm 0 isAgg102 rfl ?_))))))
   obtain ⟨p1_3, c1_4, rfl, hl1_3⟩ := ro_slice h2
   refine gY (yV st_102 rfl) (gB rfl (gE (go _ 49 rfl (decide_eq_true (by omega)) (gct rfl (gSk (gS (gBk (gS (gR (gF fo_104_1 rfl (gL hm 0 isAgg102 rfl (gM rfl (gg fun x1_2 h1_5 hx1_6 => ?_)))))))))))))
   obtain ⟨b1_4, o1_2, c1_5, he⟩ := idx_form' h2 hx1_6
   simp only [Value.slice.injEq, Option.some.injEq] at he; obtain ⟨rfl, _, rfl⟩ := he
   obtain ⟨v1_10, hc1_2, h1_6⟩ := rk_Ins_ h2 hx1_6
   refine gI st_102 h1_5 (idx_lt hx1_6) rfl (gY (yn (hc1_2.mono hm.lez) isAgg106 sizeOf106 rfl) (gAl hm zeroValue106 rfl fun b1_5 w hm => gSN hm 0 sizeOf106 (one_cons rfl (one_cons rfl (one_cons (rep_one h1_6) (one_cons rfl one_nil)))) rfl fun w hm => gE (gW (.p 0 (.p 2 (.p 4 (.p 7 (.p 10 (.q 1 (.q 3 (.q 5 (.q 8 (.q 11 (.e 6 (.e 9 (.p 12 (.e 13 (.e 14 (.p 15 (.e 16 .fin .nil)) .nil) .nil)) .nil) .nil))))))))))) [1, 3, 5, 6, 8, 9, 11, 13] [0, 2, 4, 7, 10, 12, 15] hm [0, 1, 2, 3, 4, 5, 6] [blk b1_5 [(nV x1_2.op), (nV x1_2.to), v1_10, (nV x1_2.n_)] 106, blk b0_1 [(.slice p0_4 b_.phis.length c0_4), (sV b1_4 o1_2 b_.ins.length c1_4), (nV b_.jump), (nV b_.on), v3] 104, blk b0_2 [(.slice none 0 0), (.slice none 0 0), (nV 0), (nV 0), (.slice none 0 0)] 104, blk b0_3 [(.slice p0_5 xs0_1.length c0_5), v1_9, (nV b_.jump), (nV b_.on), (.slice p0_3 s0_1.length c0_3)] 104, ow [(.slice p0_5 xs0_1.length c0_5)] xs0_1, ow [v1_9] xs1_2, ow [(.slice p0_3 s0_1.length c0_3)] s0_1] rfl mxo (by kernel_rfl) (fun _ _ _ h => h.2) fun w hm hS => tP rfl (fun w => yF fo_104_1 rfl) (tP rfl (fun w => yF fo_106_0 rfl) (tP rfl (fun w => yF fo_106_1 rfl) (tP rfl (fun w => yF fo_106_2 rfl) (tP rfl (fun w => yF fo_106_3 rfl) (tQ rfl hS (fun w hm => yL hm 3 isAgg102 rfl) (tQ rfl hS (fun w hm => yL hm 0 isAgg3 rfl) (tQ rfl hS (fun w hm => yL hm 0 isAgg3 rfl) (tQ rfl hS (fun w hm => yL hm 0 isAgg37 rfl) (tQ rfl hS (fun w hm => yL hm 0 isAgg3 rfl) (tO (tf rfl rfl (fun a hf => e_build0 (α := Int) et_37 hm rfl) ?_))))))))))))))
   rintro v1_11 w hm
   refine tAk hm [1, 2, 3, 4, 5, 6, 7] rfl fun hS => tO (gb fun ys1_3 hx1_7 => ?_)
   obtain ⟨h1_7, h1_7e⟩ := appM_some.1 hx1_7
   refine tf rfl rfl (fun a hf => e_append 0 et_37 hf hm rfl (hm.now h1_6) rfl rfl rfl h1_7) ?_
   rintro v1_12 w hm
   rw [h1_7e] at hm
   refine tAk hm [1, 2, 3, 4, 5, 6, 7] rfl fun hS => ?_
   obtain ⟨p1_4, c1_6, rfl, hl1_4⟩ := ro_slice (hm.ow_rep 0 rfl)
   refine tP rfl (fun w => yG rfl (y_build (vs := [(0, (nV x1_2.op)), (1, (nV x1_2.to)), (2, (.slice p1_4 ys1_3.length c1_6)), (3, (nV x1_2.n_))]) (cs := #[(nV x1_2.op), (nV x1_2.to), (.slice p1_4 ys1_3.length c1_6), (nV x1_2.n_)]) rfl rfl (by kernel_rfl))) (tO (tf rfl rfl (fun a hf => e_build (vs := #[(0, (.agg #[(nV x1_2.op), (nV x1_2.to), (.slice p1_4 ys1_3.length c1_6), (nV x1_2.n_)]))]) (cs := [(nV x1_2.op), (nV x1_2.to), (.slice p1_4 ys1_3.length c1_6), (nV x1_2.n_)]) et_102 hf hm rfl rfl (by kernel_rfl) rfl rfl) ?_))
   rintro _ w ⟨b1_6, rfl, hm⟩
   replace hm := hm.els_nil (α := Ins_)
   replace hm : Mem w0 (hp w0) _ [els [] ([] : List Ins_), blk b1_6 [(nV x1_2.op), (nV x1_2.to), (.slice p1_4 ys1_3.length c1_6), (nV x1_2.n_)] 106, ow [(nV x1_2.op), (nV x1_2.to), (.slice p1_4 ys1_3.length c1_6), (nV x1_2.n_)] ((⟨x1_2.op, x1_2.to, ys1_3, x1_2.n_⟩ : Ins_) : Ins_), blk b1_5 [(nV x1_2.op), (nV x1_2.to), v1_10, (nV x1_2.n_)] 106, blk b0_1 [(.slice p0_4 b_.phis.length c0_4), (sV b1_4 o1_2 b_.ins.length c1_4), (nV b_.jump), (nV b_.on), v3] 104, blk b0_2 [(.slice none 0 0), (.slice none 0 0), (nV 0), (nV 0), (.slice none 0 0)] 104, blk b0_3 [(.slice p0_5 xs0_1.length c0_5), v1_9, (nV b_.jump), (nV b_.on), (.slice p0_3 s0_1.length c0_3)] 104, ow [(.slice p0_5 xs0_1.length c0_5)] xs0_1, ow [v1_9] xs1_2, ow [(.slice p0_3 s0_1.length c0_3)] s0_1] := mk_Ins_ x1_2.op x1_2.to x1_2.n_ hm 2 rfl
   replace hm := (hm.els_cons 0 2 (by decide) rfl rfl).pk (L' := [els [(nV x1_2.op), (nV x1_2.to), (.slice p1_4 ys1_3.length c1_6), (nV x1_2.n_)] ([(⟨x1_2.op, x1_2.to, ys1_3, x1_2.n_⟩ : Ins_)] : List Ins_), blk b1_6 [(nV x1_2.op), (nV x1_2.to), (.slice p1_4 ys1_3.length c1_6), (nV x1_2.n_)] 106, blk b1_5 [(nV x1_2.op), (nV x1_2.to), v1_10, (nV x1_2.n_)] 106, blk b0_1 [(.slice p0_4 b_.phis.length c0_4), (sV b1_4 o1_2 b_.ins.length c1_4), (nV b_.jump), (nV b_.on), v3] 104, blk b0_2 [(.slice none 0 0), (.slice none 0 0), (nV 0), (nV 0), (.slice none 0 0)] 104, blk b0_3 [(.slice p0_5 xs0_1.length c0_5), v1_9, (nV b_.jump), (nV b_.on), (.slice p0_3 s0_1.length c0_3)] 104, ow [(.slice p0_5 xs0_1.length c0_5)] xs0_1, ow [v1_9] xs1_2, ow [(.slice p0_3 s0_1.length c0_3)] s0_1]) [0, 1, 3, 4, 5, 6, 7, 8, 9] rfl rfl
   replace hm := (hm.lit_els 1 0 (by decide) rfl rfl rfl rfl).pk (L' := [ow [(sV b1_6 0 1 1)] ([(⟨x1_2.op, x1_2.to, ys1_3, x1_2.n_⟩ : Ins_)] : List Ins_), blk b1_5 [(nV x1_2.op), (nV x1_2.to), v1_10, (nV x1_2.n_)] 106, blk b0_1 [(.slice p0_4 b_.phis.length c0_4), (sV b1_4 o1_2 b_.ins.length c1_4), (nV b_.jump), (nV b_.on), v3] 104, blk b0_2 [(.slice none 0 0), (.slice none 0 0), (nV 0), (nV 0), (.slice none 0 0)] 104, blk b0_3 [(.slice p0_5 xs0_1.length c0_5), v1_9, (nV b_.jump), (nV b_.on), (.slice p0_3 s0_1.length c0_3)] 104, ow [(.slice p0_5 xs0_1.length c0_5)] xs0_1, ow [v1_9] xs1_2, ow [(.slice p0_3 s0_1.length c0_3)] s0_1]) [1, 2, 3, 4, 5, 6, 7, 8] rfl rfl
   refine tAk hm [1, 2, 3, 4, 5, 6, 7] rfl fun hS => tO (gb fun ys1_4 hx1_8 => ?_)
   obtain ⟨h1_8, h1_8e⟩ := appM_some.1 hx1_8
   replace hm := (hm.both 6 0 (by decide) rfl rfl).pk (L' := [blk b1_5 [(nV x1_2.op), (nV x1_2.to), v1_10, (nV x1_2.n_)] 106, blk b0_1 [(.slice p0_4 b_.phis.length c0_4), (sV b1_4 o1_2 b_.ins.length c1_4), (nV b_.jump), (nV b_.on), v3] 104, blk b0_2 [(.slice none 0 0), (.slice none 0 0), (nV 0), (nV 0), (.slice none 0 0)] 104, blk b0_3 [(.slice p0_5 xs0_1.length c0_5), v1_9, (nV b_.jump), (nV b_.on), (.slice p0_3 s0_1.length c0_3)] 104, ow [(.slice p0_5 xs0_1.length c0_5)] xs0_1, both (ow [v1_9] xs1_2) (ow [(sV b1_6 0 1 1)] ([(⟨x1_2.op, x1_2.to, ys1_3, x1_2.n_⟩ : Ins_)] : List Ins_)), ow [(.slice p0_3 s0_1.length c0_3)] s0_1]) [1, 2, 3, 4, 5, 6, 7] rfl rfl
   refine tf rfl rfl (fun a hf => e_appendD (xs := xs1_2) (ys := ([(⟨x1_2.op, x1_2.to, ys1_3, x1_2.n_⟩ : Ins_)] : List Ins_)) 5 et_102 hf hm rfl rfl rfl rfl h1_8) ?_
   rintro v1_13 w hm
   rw [h1_8e] at hm
   refine tAn rfl (tP rfl (fun w => yF fo_104_1 rfl) (tO (tf0 rfl rfl (fun a hf => e_store1 3 hf hm rfl sizeOf102 rfl rfl rfl (rep_one (hm.ow_rep 5 rfl)) rfl) ?_)))
   rintro _ w hm
   exact tAn rfl (tE (gR (gM rfl (gP (by omega) (by omega) rfl (gA rfl (gE (gZe fun a hf => ⟨v1_13, hf.sb rfl, hm.pk [1, 2, 3, 4, 5, 6] rfl rfl⟩)))))))
  repeat clear hm
  rintro i0_2 xs0_2 a w ⟨v0_5, hf, hm⟩ hi0_7 hi0_8
  refine gv hf (gS (gS (gR (gM rfl (gF fo_104_1 rfl (gL hm 0 isAgg102 rfl ?_))))))
  obtain ⟨p0_6, c0_6, rfl, hl0_6⟩ := ro_slice h2
  exact gY (yV st_102 rfl) (gB rfl (gE (go _ 49 rfl (decide_eq_false (by omega)) (gcf rfl (gXt (gHh (gS (gR (gY (yn (hm.blk_at 2 rfl) isAgg104 sizeOf104 rfl) (gSN hm 1 sizeOf104 (one_cons rfl (one_cons (rep_one (hm.ow_rep 4 rfl)) (one_cons rfl (one_cons rfl (one_cons rfl one_nil))))) rfl fun w hm => gE (gRt (grc 1 results222 hm rfl isAgg104 sizeOf104 ⟨(.slice p0_5 xs0_1.length c0_5), v0_5, (.slice p0_3 s0_1.length c0_3), rfl, hm.pk [3, 4, 5] rfl rfl⟩))))))))))))

theorem spec_l7Copy_ok (w0 : World) (c_ : Code_) (v1 : Value) (h1 : GT.rep (hp w0) [v1] c_.blocks) :
    ConM Tryz.prog 155 [(.agg #[(nV c_.params), (nV c_.regs), v1])] w0 (spec_l7Copy c_) fun r v w' => ∃ (x1 : Value), v = (.agg #[(nV r.params), (nV r.regs), x1]) ∧ Mem w0 (hp w0) w' [ow [x1] r.blocks] := by
  unfold spec_l7Copy
  refine gcon func155 rfl fun r => ?_
  have hm := Mem.start w0
  refine gS (gR (gBx hm rfl fun b0_1 w hm => gAl hm zeroValue57 rfl fun b0_2 w hm => gE (gS (gR (gF fo_57_0 rfl (gL hm 1 isAgg3 rfl (gF fo_57_1 rfl (gL hm 1 isAgg3 rfl (gY (yG rfl (y_build (vs := [(0, (nV c_.params)), (1, (nV c_.regs))]) (cs := #[(nV c_.params), (nV c_.regs), (.slice none 0 0)]) rfl rfl (by kernel_rfl))) (gAl hm zeroValue57 rfl fun b0_3 w hm => gSN hm 0 sizeOf57 (one_cons rfl (one_cons rfl (one_cons rfl one_nil))) rfl fun w hm => gE (gS (gS (gR (gA rfl (gE (gBk ?_))))))))))))))))
  replace hm := hm.nilow (α := Block_)
  refine gNg (fun i1_1 xs1_1 a w => ∃ (v1_1 : Value), St 29 [(1, (pV b0_1)), (2, (pV b0_2)), (3, (pV b0_3)), (4, (nV i1_1))] w0 (hp w0) [blk b0_1 [(nV c_.params), (nV c_.regs), v1] 57, blk b0_2 [(nV 0), (nV 0), (.slice none 0 0)] 57, blk b0_3 [(nV c_.params), (nV c_.regs), v1_1] 57, ow [v1_1] xs1_1] a w) (fun a hf => ⟨(.slice none 0 0), hf.sb rfl, hm.pk [3, 2, 1, 0] rfl rfl⟩) ?_ ?_
  ·
   repeat clear hm
   rintro _ _ i1_1 xs1_1 a w ⟨v1_1, hf, hm⟩ hi0_1 hi0_2 q0_1 _
   refine gv hf (gS (gS (gR (gM rfl (gF fo_57_2 rfl (gL hm 0 isAgg55 rfl ?_))))))
   obtain ⟨p1_1, c1_1, rfl, hl1_1⟩ := ro_slice h1
   refine gY (yV st_55 rfl) (gB rfl (gE (go _ 14 rfl (decide_eq_true (by omega)) (gct rfl (gSk (gS (gBk (gW (.p 0 (.p 2 (.p 4 (.q 1 (.e 3 (.p 5 (.e 6 (.e 7 (.e 8 (.e 9 (.p 10 (.e 11 .fin .nil)) .nil) .nil) .nil) .nil)) .nil))))) [3, 6, 7, 8] [0, 2, 4, 5, 10] hm [0, 1, 2, 3] [blk b0_1 [(nV c_.params), (nV c_.regs), (.slice p1_1 c_.blocks.length c1_1)] 57, blk b0_2 [(nV 0), (nV 0), (.slice none 0 0)] 57, blk b0_3 [(nV c_.params), (nV c_.regs), v1_1] 57, ow [v1_1] xs1_1] rfl mxo (by kernel_rfl) (fun _ _ _ h => h.2) fun w hm hS => tP rfl (fun w => yF fo_57_2 rfl) (tP rfl (fun w => yF fo_57_2 rfl) (tP rfl (fun w => yM rfl) (tQ rfl hS (fun w hm => yL hm 2 isAgg55 rfl) (tO (tY rfl (yL hm 0 isAgg55 rfl) (tAs hS (gg fun x1_1 h1_1 hx1_2 => ?_)))))))))))))))
   obtain ⟨b1_1, o1_1, c1_2, he⟩ := idx_form' h1 hx1_2
   simp only [Value.slice.injEq, Option.some.injEq] at he; obtain ⟨rfl, _, rfl⟩ := he
   obtain ⟨v1_2, v1_3, v1_4, hc1_1, h1_2, h1_3, h1_4⟩ := rk_Block_ h1 hx1_2
   refine tP rfl (fun w => yI st_55 h1_1 (idx_lt hx1_2) rfl) (tO (tY rfl (yn (hc1_1.mono hm.lez) isAgg104 sizeOf104 rfl) (tAs hS (tO (gb fun r1_1 hx1_3 => tf rfl rfl (fun a hf => e_call hf rfl call222 rfl (spec_l7CopyBlock_ok _ x1_1 v1_2 (hm.now h1_2) v1_3 (hm.now h1_3) v1_4 (hm.now h1_4) _ hx1_3)) ?_)))))
   rintro v1_5 w ⟨v1_6, v1_7, v1_8, rfl, hB⟩
   replace hm := hm.give hB; clear hB
   refine tAk hm [3, 4, 5, 6] rfl fun hS => tO (tf rfl rfl (fun a hf => e_build (vs := #[(0, (.agg #[v1_6, v1_7, (nV r1_1.jump), (nV r1_1.on), v1_8]))]) (cs := [v1_6, v1_7, (nV r1_1.jump), (nV r1_1.on), v1_8]) et_55 hf hm rfl rfl (by kernel_rfl) rfl rfl) ?_)
   rintro _ w ⟨b1_2, rfl, hm⟩
   replace hm := hm.els_nil (α := Block_)
   replace hm := (mk_Block_ r1_1.jump r1_1.on hm 2 3 4 rfl).pk (L' := [els [] ([] : List Block_), blk b1_2 [v1_6, v1_7, (nV r1_1.jump), (nV r1_1.on), v1_8] 104, ow [v1_6, v1_7, (nV r1_1.jump), (nV r1_1.on), v1_8] (r1_1 : Block_), blk b0_1 [(nV c_.params), (nV c_.regs), (sV b1_1 o1_1 c_.blocks.length c1_1)] 57, blk b0_2 [(nV 0), (nV 0), (.slice none 0 0)] 57, blk b0_3 [(nV c_.params), (nV c_.regs), v1_1] 57, ow [v1_1] xs1_1]) [0, 1, 2, 5, 6, 7, 8] rfl rfl
   replace hm := (hm.els_cons 0 2 (by decide) rfl rfl).pk (L' := [els [v1_6, v1_7, (nV r1_1.jump), (nV r1_1.on), v1_8] ([r1_1] : List Block_), blk b1_2 [v1_6, v1_7, (nV r1_1.jump), (nV r1_1.on), v1_8] 104, blk b0_1 [(nV c_.params), (nV c_.regs), (sV b1_1 o1_1 c_.blocks.length c1_1)] 57, blk b0_2 [(nV 0), (nV 0), (.slice none 0 0)] 57, blk b0_3 [(nV c_.params), (nV c_.regs), v1_1] 57, ow [v1_1] xs1_1]) [0, 1, 3, 4, 5, 6] rfl rfl
   replace hm := (hm.lit_els 1 0 (by decide) rfl rfl rfl rfl).pk (L' := [ow [(sV b1_2 0 1 1)] ([r1_1] : List Block_), blk b0_1 [(nV c_.params), (nV c_.regs), (sV b1_1 o1_1 c_.blocks.length c1_1)] 57, blk b0_2 [(nV 0), (nV 0), (.slice none 0 0)] 57, blk b0_3 [(nV c_.params), (nV c_.regs), v1_1] 57, ow [v1_1] xs1_1]) [1, 2, 3, 4, 5] rfl rfl
   refine tAk hm [1, 2, 3, 4] rfl fun hS => tO (gb fun ys1_1 hx1_4 => ?_)
   obtain ⟨h1_5, h1_5e⟩ := appM_some.1 hx1_4
   replace hm := (hm.both 4 0 (by decide) rfl rfl).pk (L' := [blk b0_1 [(nV c_.params), (nV c_.regs), (sV b1_1 o1_1 c_.blocks.length c1_1)] 57, blk b0_2 [(nV 0), (nV 0), (.slice none 0 0)] 57, blk b0_3 [(nV c_.params), (nV c_.regs), v1_1] 57, both (ow [v1_1] xs1_1) (ow [(sV b1_2 0 1 1)] ([r1_1] : List Block_))]) [1, 2, 3, 4] rfl rfl
   refine tf rfl rfl (fun a hf => e_appendD (xs := xs1_1) (ys := ([r1_1] : List Block_)) 3 et_55 hf hm rfl rfl rfl rfl h1_5) ?_
   rintro v1_9 w hm
   rw [h1_5e] at hm
   refine tAn rfl (tP rfl (fun w => yF fo_57_2 rfl) (tO (tf0 rfl rfl (fun a hf => e_store1 2 hf hm rfl sizeOf55 rfl rfl rfl (rep_one (hm.ow_rep 3 rfl)) rfl) ?_)))
   rintro _ w hm
   exact tAn rfl (tE (gR (gM rfl (gP (by omega) (by omega) rfl (gA rfl (gE (gZe fun a hf => ⟨v1_9, hf.sb rfl, hm.pk [0, 1, 2, 3] rfl rfl⟩)))))))
  repeat clear hm
  rintro i0_1 xs0_1 a w ⟨v0_1, hf, hm⟩ hi0_3 hi0_4
  refine gv hf (gS (gS (gR (gM rfl (gF fo_57_2 rfl (gL hm 0 isAgg55 rfl ?_))))))
  obtain ⟨p0_1, c0_1, rfl, hl0_1⟩ := ro_slice h1
  exact gY (yV st_55 rfl) (gB rfl (gE (go _ 14 rfl (decide_eq_false (by omega)) (gcf rfl (gXt (gHh (gS (gR (gY (yn (hm.blk_at 2 rfl) isAgg57 sizeOf57 rfl) (gSN hm 1 sizeOf57 (one_cons rfl (one_cons rfl (one_cons (rep_one (hm.ow_rep 3 rfl)) one_nil))) rfl fun w hm => gE (gRt (grc 1 results155 hm rfl isAgg57 sizeOf57 ⟨v0_1, rfl, hm.pk [3] rfl rfl⟩))))))))))))

theorem spec_l10Sharp_ok (w0 : World) (c_ : Code_) (v1 : Value) (h1 : GT.rep (hp w0) [v1] c_.blocks) (b_ : Int) (i_ : Int) :
    ConM Tryz.prog 238 [(.agg #[(nV c_.params), (nV c_.regs), v1]), (nV b_), (nV i_)] w0 (spec_l10Sharp c_ b_ i_) fun r v w' => v = (.bool (r)) ∧ Below w0.heap.size w0 w' := by
  unfold spec_l10Sharp
  refine gcon func238 rfl fun r => ?_
  have hm := Mem.start w0
  refine gS (gR (gBx hm rfl fun b0_1 w hm => gA rfl (gE (gS (gR (gF fo_57_2 rfl (gL hm 0 isAgg55 rfl (gM rfl (gg fun x0_1 h0_1 hx0_2 => ?_)))))))))
  obtain ⟨b0_2, o0_1, c0_1, he⟩ := idx_form' h1 hx0_2
  subst he
  obtain ⟨v0_1, v0_2, v0_3, hc0_1, h0_2, h0_3, h0_4⟩ := rk_Block_ h1 hx0_2
  refine gI st_55 h0_1 (idx_lt hx0_2) rfl (gF fo_104_4 rfl (gY (yl isAgg37 ((hc0_1.mono hm.lez).cell (j := 4) rfl) rfl) (gA rfl (gE (gS (gR (gA rfl (gE (gS (gS (gR (gA rfl (gE (gBk (gNf hm (fun i1_1 xs1_1 => [(2, (nV i_)), (3, (pV b0_1)), (7, v0_3), (8, (.bool (xs1_1))), (9, (nV i1_1))]) (fun i1_1 xs1_1 => [blk b0_1 [(nV c_.params), (nV c_.regs), (sV b0_2 o0_1 c_.blocks.length c0_1)] 57]) [0] rfl ?_ ?_)))))))))))))))
  ·
   repeat clear hm
   intro _ _ i1_1 xs1_1 w hm hi0_1 hi0_2 q0_1 _
   refine gS (gS (gR (gM rfl (gM rfl ?_))))
   obtain ⟨p1_1, c1_1, rfl, hl1_1⟩ := ro_slice h0_4
   refine gY (yV st_37 rfl) (gB rfl (gE (go _ 19 rfl (decide_eq_true (by omega)) (gct rfl (gSk (gS (gBk (gJ hm (fun s1_1 => [(2, (nV i_)), (3, (pV b0_1)), (7, (.slice p1_1 x0_1.next_.length c1_1)), (8, (.bool (s1_1))), (9, (nV i1_1))]) (fun s1_1 => [blk b0_1 [(nV c_.params), (nV c_.regs), (sV b0_2 o0_1 c_.blocks.length c0_1)] 57]) (fun s1_1 => ?_) ?_))))))))
   ·
    refine gW (.p 0 (.p 1 (.p 2 (.p 3 (.p 4 (.p 6 (.p 7 (.q 5 (.e 8 (.p 9 (.p 10 (.p 11 .fin))) .nil))))))))) [8] [0, 1, 2, 3, 4, 6, 7, 9, 10, 11] hm [0] [blk b0_1 [(nV c_.params), (nV c_.regs), (sV b0_2 o0_1 c_.blocks.length c0_1)] 57] rfl mxo (by kernel_rfl) (fun _ _ _ h => h.2) fun w hm hS => tP rfl (fun w => yM rfl) (tP rfl (fun w => yM rfl) (gs 23 rfl (fun h2_1 => ?_) fun h2_1 => ?_))
    ·
     exact tPo rfl rfl (tPo rfl rfl (tPo rfl rfl (tPo rfl rfl (tPo rfl rfl (tQo rfl hS rfl (tO (tEo rfl rfl (tAs hS (tPo rfl rfl (tP rfl (fun w => yKt rfl) (tP rfl (fun w => yA rfl) (tE (gz hm [0] rfl)))))))))))))
    refine tP rfl (fun w => yM rfl) (tP rfl (fun w => yM rfl) (gg fun x2_1 h2_2 hx2_2 => ?_))
    obtain ⟨b2_1, o2_1, c2_1, he⟩ := idx_form h0_4 hx2_2
    simp only [Value.slice.injEq, Option.some.injEq] at he; obtain ⟨rfl, _, rfl⟩ := he
    exact tP rfl (fun w => yI st_37 h2_2 (idx_lt hx2_2) rfl) (tP rfl (fun w => yM rfl) (gg fun x2_2 h2_3 hx2_4 => tP rfl (fun w => yI st_37 h2_3 (idx_lt hx2_4) rfl) (tQ rfl hS (fun w hm => yl isAgg3 ((flat_cells (cs := [(nV x2_1)]) (hm.now h0_4) hx2_2 rfl).cell (j := 0) rfl) rfl) (tO (tY rfl (yl isAgg3 ((flat_cells (cs := [(nV x2_2)]) (hm.now h0_4) hx2_4 rfl).cell (j := 0) rfl) rfl) (tAs hS (tP rfl (fun w => yB rfl) (tP rfl (fun w => yKf rfl) (tP rfl (fun w => yA rfl) (tE (gz hm [0] rfl)))))))))))
   repeat clear hm
   intro s1_1 w hm
   exact gR (gM rfl (gP (by omega) (by omega) rfl (gA rfl (gE (gze hm [0] rfl)))))
  repeat clear hm
  intro i0_1 xs0_1 w hm hi0_3 hi0_4
  refine gS (gS (gR (gM rfl (gM rfl ?_))))
  obtain ⟨p0_1, c0_2, rfl, hl0_1⟩ := ro_slice h0_4
  refine gY (yV st_37 rfl) (gB rfl (gE (go _ 19 rfl (decide_eq_false (by omega)) (gcf rfl (gXt (gHh (gS (gJ hm (fun s0_1 => [(6, (.bool (s0_1)))]) (fun s0_1 => []) (fun s0_1 => ?_) ?_))))))))
  ·
   refine gW (.p 0 (.p 1 (.p 3 (.p 4 (.p 5 (.q 2 (.e 6 (.e 7 (.p 8 (.p 9 (.p 10 (.p 11 .fin)))) .nil) .nil))))))) [6] [0, 1, 3, 4, 5, 8, 9, 10, 11] hm [0] [blk b0_1 [(nV c_.params), (nV c_.regs), (sV b0_2 o0_1 c_.blocks.length c0_1)] 57] rfl mxo (by kernel_rfl) (fun _ _ _ h => h.2) fun w hm hS => tP rfl (fun w => yM rfl) (tP rfl (fun w => yM rfl) (gs 34 rfl (fun h1_1 => ?_) fun h1_1 => ?_))
   ·
    refine tP rfl (fun w => yM rfl) (tP rfl (fun w => yM rfl) (gg fun x1_1 h1_2 hx1_2 => ?_))
    obtain ⟨b1_1, o1_1, c1_2, he⟩ := idx_form h0_4 hx1_2
    simp only [Value.slice.injEq, Option.some.injEq] at he; obtain ⟨rfl, _, rfl⟩ := he
    refine tP rfl (fun w => yI st_37 h1_2 (idx_lt hx1_2) rfl) (tQ rfl hS (fun w hm => yn (hm.blk_at 0 rfl) isAgg57 sizeOf57 rfl) (tO (tY rfl (yl isAgg3 ((flat_cells (cs := [(nV x1_1)]) (hm.now h0_4) hx1_2 rfl).cell (j := 0) rfl) rfl) (tAs hS (tO (gb fun r1_1 hx1_3 => tf rfl rfl (fun a hf => e_call hf rfl call153 rfl (spec_l7Preds_ok _ c_ (sV b0_2 o0_1 c_.blocks.length c0_1) (hm.now h1) x1_1 _ hx1_3)) ?_))))))
    rintro v1_1 w ⟨_, rfl, hB⟩
    replace hm := hm.give hB; clear hB
    refine tAn rfl ?_
    obtain ⟨p1_2, c1_3, rfl, hl1_2⟩ := ro_slice (hm.ow_rep 0 rfl)
    exact tP rfl (fun w => yV st_37 rfl) (tP rfl (fun w => yB rfl) (tP rfl (fun w => yKt rfl) (tP rfl (fun w => yA rfl) (tE (gz hm [] rfl)))))
   exact tPo rfl rfl (tPo rfl rfl (tPo rfl rfl (tQo rfl hS rfl (tO (tEo rfl rfl (tAs hS (tO (tEo rfl rfl (tAn rfl (tPo rfl rfl (tPo rfl rfl (tP rfl (fun w => yKf rfl) (tP rfl (fun w => yA rfl) (tE (gz hm [] rfl)))))))))))))))
  repeat clear hm
  intro s0_1 w hm
  exact gRt (gr1 results238 rfl ⟨rfl, hm.below⟩)

theorem spec_l10At_ok (w0 : World) (list : List Int) (v1 : Value) (h1 : GT.rep (hp w0) [v1] list) (n_ : Int) :
    ConM Tryz.prog 206 [v1, (nV n_)] w0 (spec_l10At list n_) fun r v w' => v = (nV r) ∧ Below w0.heap.size w0 w' := by
  unfold spec_l10At
  refine gcon func206 rfl fun r => ?_
  have hm := Mem.start w0
  refine gS (gR (gA rfl (gE (gS (gS (gR (gA rfl (gE (gBk (gNf hm (fun i1_1 xs1_1 => [(0, v1), (1, (nV n_)), (5, (nV i1_1))]) (fun i1_1 xs1_1 => []) [] rfl ?_ ?_))))))))))
  ·
   repeat clear hm
   intro r0_1 hq0_1 i1_1 xs1_1 w hm hi0_1 hi0_2 q0_1 ho0_1
   refine gS (gS (gR (gM rfl (gM rfl ?_))))
   obtain ⟨p1_1, c1_1, rfl, hl1_1⟩ := ro_slice h1
   refine gY (yV st_37 rfl) (gB rfl (gE (go _ 9 rfl (decide_eq_true (by omega)) (gct rfl (gSk (gS (gBk (gS (gR (gM rfl (gM rfl (gg fun x1_1 h1_1 hx1_2 => ?_))))))))))))
   obtain ⟨b1_1, o1_1, c1_2, he⟩ := idx_form h1 hx1_2
   simp only [Value.slice.injEq, Option.some.injEq] at he; obtain ⟨rfl, _, rfl⟩ := he
   refine gI st_37 h1_1 (idx_lt hx1_2) rfl (gY (yl isAgg3 ((flat_cells (cs := [(nV x1_1)]) (hm.now h1) hx1_2 rfl).cell (j := 0) rfl) rfl) (gM rfl (gB rfl (gE (gsd 17 rfl (fun h1_2 => ?_) fun h1_2 => ?_)))))
   ·
    exact gct rfl (gS (gR (gM rfl (gA rfl (gE (gRt (gLr ho0_1 hq0_1 (gr1 results206 rfl ⟨rfl, hm.below⟩))))))))
   exact gcf rfl (gSk (gR (gM rfl (gP (by omega) (by omega) rfl (gA rfl (gE (gze hm [] rfl)))))))
  repeat clear hm
  intro i0_1 xs0_1 w hm hi0_3 hi0_4
  refine gS (gS (gR (gM rfl (gM rfl ?_))))
  obtain ⟨p0_1, c0_1, rfl, hl0_1⟩ := ro_slice h1
  exact gY (yV st_37 rfl) (gB rfl (gE (go _ 9 rfl (decide_eq_false (by omega)) (gcf rfl (gXt (gHh (gS (gR (gA rfl (gE (gRt (gr1 results206 rfl ⟨rfl, hm.below⟩))))))))))))

theorem spec_l10Split_ok (w0 : World) (c_ : Code_) (v1 : Value) (h1 : GT.rep (hp w0) [v1] c_.blocks) :
    ConM Tryz.prog 168 [(.agg #[(nV c_.params), (nV c_.regs), v1])] w0 (spec_l10Split c_) fun r v w' => ∃ (x1 : Value), v = (.agg #[(nV r.params), (nV r.regs), x1]) ∧ Mem w0 (hp w0) w' [ow [x1] r.blocks] := by
  unfold spec_l10Split
  refine gcon func168 rfl fun r => ?_
  have hm := Mem.start w0
  refine gS (gR (gBx hm rfl fun b0_1 w hm => gAl hm zeroValue57 rfl fun b0_2 w hm => gE (gS (gR (gY (yn (hm.blk_at 1 rfl) isAgg57 sizeOf57 rfl) (gCg rfl call155 (spec_l7Copy_ok _ c_ v1 (hm.now h1)) ?_))))))
  rintro r0_1 hx0_1 v0_1 w ⟨v0_2, rfl, hB⟩
  replace hm := hm.give hB; clear hB
  refine gAl hm zeroValue57 rfl fun b0_3 w hm => gSN hm 0 sizeOf57 (one_cons rfl (one_cons rfl (one_cons (rep_one (hm.ow_rep 1 rfl)) one_nil))) rfl fun w hm => gE (gS (gS (gR (gA rfl (gE ?_)))))
  obtain ⟨p0_1, c0_1, rfl, hl0_1⟩ := ro_slice (hm.ow_rep 1 rfl)
  refine gBk (gNg (fun i1_1 xs1_1 a w => ∃ (v1_1 : Value), St 142 [(1, (pV b0_1)), (2, (pV b0_2)), (3, (pV b0_3)), (4, (nV i1_1))] w0 (hp w0) [blk b0_1 [(nV c_.params), (nV c_.regs), v1] 57, blk b0_2 [(nV 0), (nV 0), (.slice none 0 0)] 57, blk b0_3 [(nV r0_1.params), (nV r0_1.regs), v1_1] 57, ow [v1_1] xs1_1] a w) (fun a hf => ⟨(.slice p0_1 r0_1.blocks.length c0_1), hf.sb rfl, hm.pk [3, 2, 0, 1] rfl rfl⟩) ?_ ?_)
  ·
   repeat clear hm
   rintro _ _ i1_1 xs1_1 a w ⟨v1_1, hf, hm⟩ hi0_1 hi0_2 q0_1 _
   refine gv hf (gS (gS (gR (gM rfl (gF fo_57_2 rfl (gL hm 0 isAgg55 rfl ?_))))))
   obtain ⟨p1_1, c1_1, rfl, hl1_1⟩ := ro_slice h1
   refine gY (yV st_55 rfl) (gB rfl (gE (go _ 20 rfl (decide_eq_true (by omega)) (gct rfl (gSk (gS (gBk (gS (gR (gA rfl (gE ?_)))))))))))
   obtain ⟨p1_2, c1_2, rfl, hl1_2⟩ := ro_slice (hm.ow_rep 3 rfl)
   refine gJg (fun s1_1 a w => ∃ (v1_2 : Value), St 142 [(1, (pV b0_1)), (2, (pV b0_2)), (3, (pV b0_3)), (4, (nV i1_1))] w0 (hp w0) [blk b0_1 [(nV c_.params), (nV c_.regs), (.slice p1_1 c_.blocks.length c1_1)] 57, blk b0_2 [(nV 0), (nV 0), (.slice none 0 0)] 57, blk b0_3 [(nV r0_1.params), (nV r0_1.regs), v1_2] 57, ow [v1_2] s1_1] a w) (fun s1_1 => ?_) ?_
   ·
    refine gBk (gMg (fun xs3_1 a w => ∃ (v3_1 : Value), St 142 [(1, (pV b0_1)), (2, (pV b0_2)), (3, (pV b0_3)), (4, (nV i1_1)), (5, (nV xs3_1.2))] w0 (hp w0) [blk b0_1 [(nV c_.params), (nV c_.regs), (.slice p1_1 c_.blocks.length c1_1)] 57, blk b0_2 [(nV 0), (nV 0), (.slice none 0 0)] 57, blk b0_3 [(nV r0_1.params), (nV r0_1.regs), v3_1] 57, ow [v3_1] xs3_1.1] a w) (fun a hf => ⟨(.slice p1_2 xs1_1.length c1_2), hf.sb rfl, hm.pk [0, 1, 2, 3] rfl rfl⟩) ?_)
    repeat clear hm
    rintro r2_1 hq2_1 xs3_1 a w ⟨v3_1, hf, hm⟩ q2_1 ho2_1
    refine gv hf (gS (gS (gR (gM rfl (gF fo_57_2 rfl (gL hm 0 isAgg55 rfl (gM rfl (gg fun x3_1 h3_1 hx3_2 => ?_))))))))
    obtain ⟨b3_1, o3_1, c3_1, he⟩ := idx_form' h1 hx3_2
    simp only [Value.slice.injEq, Option.some.injEq] at he; obtain ⟨rfl, _, rfl⟩ := he
    obtain ⟨v3_2, v3_3, v3_4, hc3_1, h3_2, h3_3, h3_4⟩ := rk_Block_ h1 hx3_2
    refine gI st_55 h3_1 (idx_lt hx3_2) rfl (gF fo_104_4 rfl (gY (yl isAgg37 ((hc3_1.mono hm.lez).cell (j := 4) rfl) rfl) ?_))
    obtain ⟨p3_1, c3_2, rfl, hl3_1⟩ := ro_slice h3_4
    refine gY (yV st_37 rfl) (gB rfl (gE (gsd 31 rfl (fun h3_5 => ?_) fun h3_5 => ?_)))
    ·
     refine gct rfl (gSk (gS (gJg (fun s3_1 a w => ∃ (v3_5 : Value), St 142 [(1, (pV b0_1)), (2, (pV b0_2)), (3, (pV b0_3)), (4, (nV i1_1)), (5, (nV xs3_1.2))] w0 (hp w0) [blk b0_1 [(nV c_.params), (nV c_.regs), (sV b3_1 o3_1 c_.blocks.length c1_1)] 57, blk b0_2 [(nV 0), (nV 0), (.slice none 0 0)] 57, blk b0_3 [(nV r0_1.params), (nV r0_1.regs), v3_5] 57, ow [v3_5] s3_1] a w) (fun s3_1 => ?_) ?_)))
     ·
      refine gBk (gS (gR (gY (yn (hm.blk_at 0 rfl) isAgg57 sizeOf57 rfl) (gM rfl (gM rfl (gC hm rfl call238 (spec_l10Sharp_ok _ c_ (sV b3_1 o3_1 c_.blocks.length c1_1) (hm.now h1) i1_1 xs3_1.2) fun r4_1 hx4_1 w hm => gE (gJg (fun s4_1 a w => ∃ (v4_2 : Value), St 142 [(1, (pV b0_1)), (2, (pV b0_2)), (3, (pV b0_3)), (4, (nV i1_1)), (5, (nV xs3_1.2))] w0 (hp w0) [blk b0_1 [(nV c_.params), (nV c_.regs), (sV b3_1 o3_1 c_.blocks.length c1_1)] 57, blk b0_2 [(nV 0), (nV 0), (.slice none 0 0)] 57, blk b0_3 [(nV r0_1.params), (nV r0_1.regs), v4_2] 57, ow [v4_2] s4_1] a w) (fun s4_1 => ?_) ?_)))))))
      ·
       refine gs 37 rfl (fun h5_1 => ?_) fun h5_1 => ?_
       ·
        refine gct rfl (gS (gR (gF fo_57_2 rfl (gL hm 0 isAgg55 rfl (gM rfl (gI st_55 h3_1 (idx_lt hx3_2) rfl (gF fo_104_4 rfl (gY (yl isAgg37 ((hc3_1.mono hm.lez).cell (j := 4) rfl) rfl) (gM rfl (gg fun x5_1 h5_2 hx5_2 => ?_))))))))))
        obtain ⟨b5_1, o5_1, c5_1, he⟩ := idx_form h3_4 hx5_2
        simp only [Value.slice.injEq, Option.some.injEq] at he; obtain ⟨rfl, _, rfl⟩ := he
        refine gI st_37 h5_2 (idx_lt hx5_2) rfl (gY (yl isAgg3 ((flat_cells (cs := [(nV x5_1)]) (hm.now h3_4) hx5_2 rfl).cell (j := 0) rfl) rfl) (gA rfl (gE (gS (gW (.p 0 (.p 2 (.p 6 (.p 7 (.q 1 (.p 3 (.p 4 (.q 8 (.p 9 (.e 5 (.p 10 (.e 11 .fin .nil)) .nil)))))))))) [1, 5, 8] [0, 2, 3, 4, 6, 7, 9, 10] hm [0, 1, 2] [blk b0_1 [(nV c_.params), (nV c_.regs), (sV b3_1 o3_1 c_.blocks.length c1_1)] 57, blk b0_2 [(nV 0), (nV 0), (.slice none 0 0)] 57, blk b0_3 [(nV r0_1.params), (nV r0_1.regs), v3_1] 57] rfl mxo (by kernel_rfl) (fun _ _ _ h => h.2) fun w hm hS => tP rfl (fun w => yF fo_57_2 rfl) (tP rfl (fun w => yM rfl) (tP rfl (fun w => yM rfl) (tP rfl (fun w => yF fo_57_2 rfl) (tQ rfl hS (fun w hm => yL hm 2 isAgg55 rfl) (gg fun x5_2 h5_3 hx5_4 => ?_))))))))))
        obtain ⟨b5_2, o5_2, c5_2, he⟩ := idx_form' (hm.ow_rep 3 rfl) hx5_4
        subst he
        obtain ⟨v5_1, v5_2, v5_3, hc5_1, h5_4, h5_5, h5_6⟩ := rk_Block_ (hm.ow_rep 3 rfl) hx5_4
        refine tP rfl (fun w => yI st_55 h5_3 (idx_lt hx5_4) rfl) (tP rfl (fun w => yF fo_104_4 rfl) (tQ rfl hS (fun w hm => yL hm 2 isAgg55 rfl) ?_))
        have hl5_1 := rep_len (hm.ow_rep 3 rfl)
        refine tP rfl (fun w => yV st_55 rfl) (tO ?_)
        obtain ⟨v5_4, v5_5, v5_6, hm⟩ := pin_Block_ hm 3 rfl hx5_4
        refine tY rfl (yl isAgg37 ((hm.holeE_at 6 rfl).cell (j := 4) rfl) rfl) (tAk hm [3, 4, 5] rfl fun hS => gg fun x5_3 h5_7 hx5_6 => ?_)
        obtain ⟨b5_3, o5_3, c5_3, he⟩ := idx_form (hm.ow_rep 0 rfl) hx5_6
        subst he
        refine tP rfl (fun w => yI st_37 h5_7 (idx_lt hx5_6) rfl) (tO (tf0 rfl rfl (fun a hf => e_setElem (x1 := (xs3_1.1.length : Int)) (j := 0) (vs := [(nV ((xs3_1.1.length : Int)))]) 0 hf hm rfl hx5_6 rfl sizeOf3 rfl rfl rfl (one_cons rfl one_nil) rfl rfl) ?_))
        rintro _ w hm
        have hx5_7 := List.getElem?_set_self (a := (xs3_1.1.length : Int)) (idx_lt hx5_6)
        refine tAn rfl (tE ?_)
        replace hm := (mk_Block_ x5_2.jump x5_2.on hm 2 1 0 rfl).pk (L' := [ow [v5_4, v5_5, (nV x5_2.jump), (nV x5_2.on), (sV b5_3 o5_3 x5_2.next_.length c5_3)] ((⟨x5_2.phis, x5_2.ins, x5_2.jump, x5_2.on, (x5_2.next_.set (xs3_1.2).toNat (xs3_1.1.length : Int))⟩ : Block_) : Block_), blk b0_1 [(nV c_.params), (nV c_.regs), (sV b3_1 o3_1 c_.blocks.length c1_1)] 57, blk b0_2 [(nV 0), (nV 0), (.slice none 0 0)] 57, blk b0_3 [(nV r0_1.params), (nV r0_1.regs), (sV b5_2 o5_2 xs3_1.1.length c5_2)] 57, holeE b5_2 o5_2 xs3_1.1.length c5_2 (xs3_1.1 : List Block_) (i1_1).toNat [v5_4, v5_5, (nV x5_2.jump), (nV x5_2.on), (sV b5_3 o5_3 x5_2.next_.length c5_3)]]) [2, 3, 4, 5, 6] rfl rfl
        replace hm := (hm.shutE (y := ((⟨x5_2.phis, x5_2.ins, x5_2.jump, x5_2.on, (x5_2.next_.set (xs3_1.2).toNat (xs3_1.1.length : Int))⟩ : Block_) : Block_)) 4 0 (by decide) rfl rfl).pk (L' := [blk b0_1 [(nV c_.params), (nV c_.regs), (sV b3_1 o3_1 c_.blocks.length c1_1)] 57, blk b0_2 [(nV 0), (nV 0), (.slice none 0 0)] 57, blk b0_3 [(nV r0_1.params), (nV r0_1.regs), (sV b5_2 o5_2 xs3_1.1.length c5_2)] 57, ow [(sV b5_2 o5_2 xs3_1.1.length c5_2)] (xs3_1.1.set (i1_1).toNat (⟨x5_2.phis, x5_2.ins, x5_2.jump, x5_2.on, (x5_2.next_.set (xs3_1.2).toNat (xs3_1.1.length : Int))⟩ : Block_))]) [1, 2, 3, 4] rfl rfl
        have hx5_8 := List.getElem?_set_self (a := ((⟨x5_2.phis, x5_2.ins, x5_2.jump, x5_2.on, (x5_2.next_.set (xs3_1.2).toNat (xs3_1.1.length : Int))⟩ : Block_) : Block_)) (idx_lt hx5_4)
        refine gR (gF fo_57_2 rfl (gL hm 2 isAgg55 rfl (gf rfl (fun a hf => e_build0 (α := Phi_) et_101 hm rfl) ?_)))
        rintro v5_7 w hm
        refine gf rfl (fun a hf => e_build0 (α := Ins_) et_102 hm rfl) ?_
        rintro v5_8 w hm
        refine gM rfl (gf rfl (fun a hf => e_build (vs := #[(0, (nV x5_1))]) (cs := [(nV x5_1)]) et_37 hf hm rfl rfl (by kernel_rfl) rfl rfl) ?_)
        rintro _ w ⟨b5_4, rfl, hm⟩
        replace hm := hm.lit (xs := ([x5_1] : List Int)) 0 rfl rfl rfl rfl
        obtain ⟨p5_1, c5_4, rfl, hl5_2⟩ := ro_slice (hm.ow_rep 2 rfl)
        obtain ⟨p5_2, c5_5, rfl, hl5_3⟩ := ro_slice (hm.ow_rep 1 rfl)
        refine gY (yG rfl (y_build (vs := [(0, (.slice p5_1 ([] : List Phi_).length c5_4)), (1, (.slice p5_2 ([] : List Ins_).length c5_5)), (2, (nV 1)), (4, (sV b5_4 0 1 1))]) (cs := #[(.slice p5_1 ([] : List Phi_).length c5_4), (.slice p5_2 ([] : List Ins_).length c5_5), (nV 1), (nV 0), (sV b5_4 0 1 1)]) rfl rfl (by kernel_rfl))) (gf rfl (fun a hf => e_build (vs := #[(0, (.agg #[(.slice p5_1 ([] : List Phi_).length c5_4), (.slice p5_2 ([] : List Ins_).length c5_5), (nV 1), (nV 0), (sV b5_4 0 1 1)]))]) (cs := [(.slice p5_1 ([] : List Phi_).length c5_4), (.slice p5_2 ([] : List Ins_).length c5_5), (nV 1), (nV 0), (sV b5_4 0 1 1)]) et_55 hf hm rfl rfl (by kernel_rfl) rfl rfl) ?_)
        rintro _ w ⟨b5_5, rfl, hm⟩
        replace hm := hm.els_nil (α := Block_)
        replace hm := (mk_Block_ 1 0 hm 4 3 2 rfl).pk (L' := [els [] ([] : List Block_), blk b5_5 [(.slice p5_1 ([] : List Phi_).length c5_4), (.slice p5_2 ([] : List Ins_).length c5_5), (nV 1), (nV 0), (sV b5_4 0 1 1)] 104, ow [(.slice p5_1 ([] : List Phi_).length c5_4), (.slice p5_2 ([] : List Ins_).length c5_5), (nV 1), (nV 0), (sV b5_4 0 1 1)] ((⟨([] : List Phi_), ([] : List Ins_), 1, 0, ([x5_1] : List Int)⟩ : Block_) : Block_), blk b0_1 [(nV c_.params), (nV c_.regs), (sV b3_1 o3_1 c_.blocks.length c1_1)] 57, blk b0_2 [(nV 0), (nV 0), (.slice none 0 0)] 57, blk b0_3 [(nV r0_1.params), (nV r0_1.regs), (sV b5_2 o5_2 xs3_1.1.length c5_2)] 57, ow [(sV b5_2 o5_2 xs3_1.1.length c5_2)] (xs3_1.1.set (i1_1).toNat (⟨x5_2.phis, x5_2.ins, x5_2.jump, x5_2.on, (x5_2.next_.set (xs3_1.2).toNat (xs3_1.1.length : Int))⟩ : Block_))]) [0, 1, 4, 5, 6, 7, 8] rfl rfl
        replace hm := (hm.els_cons 0 2 (by decide) rfl rfl).pk (L' := [els [(.slice p5_1 ([] : List Phi_).length c5_4), (.slice p5_2 ([] : List Ins_).length c5_5), (nV 1), (nV 0), (sV b5_4 0 1 1)] ([(⟨([] : List Phi_), ([] : List Ins_), 1, 0, ([x5_1] : List Int)⟩ : Block_)] : List Block_), blk b5_5 [(.slice p5_1 ([] : List Phi_).length c5_4), (.slice p5_2 ([] : List Ins_).length c5_5), (nV 1), (nV 0), (sV b5_4 0 1 1)] 104, blk b0_1 [(nV c_.params), (nV c_.regs), (sV b3_1 o3_1 c_.blocks.length c1_1)] 57, blk b0_2 [(nV 0), (nV 0), (.slice none 0 0)] 57, blk b0_3 [(nV r0_1.params), (nV r0_1.regs), (sV b5_2 o5_2 xs3_1.1.length c5_2)] 57, ow [(sV b5_2 o5_2 xs3_1.1.length c5_2)] (xs3_1.1.set (i1_1).toNat (⟨x5_2.phis, x5_2.ins, x5_2.jump, x5_2.on, (x5_2.next_.set (xs3_1.2).toNat (xs3_1.1.length : Int))⟩ : Block_))]) [0, 1, 3, 4, 5, 6] rfl rfl
        replace hm := (hm.lit_els 1 0 (by decide) rfl rfl rfl rfl).pk (L' := [ow [(sV b5_5 0 1 1)] ([(⟨([] : List Phi_), ([] : List Ins_), 1, 0, ([x5_1] : List Int)⟩ : Block_)] : List Block_), blk b0_1 [(nV c_.params), (nV c_.regs), (sV b3_1 o3_1 c_.blocks.length c1_1)] 57, blk b0_2 [(nV 0), (nV 0), (.slice none 0 0)] 57, blk b0_3 [(nV r0_1.params), (nV r0_1.regs), (sV b5_2 o5_2 xs3_1.1.length c5_2)] 57, ow [(sV b5_2 o5_2 xs3_1.1.length c5_2)] (xs3_1.1.set (i1_1).toNat (⟨x5_2.phis, x5_2.ins, x5_2.jump, x5_2.on, (x5_2.next_.set (xs3_1.2).toNat (xs3_1.1.length : Int))⟩ : Block_))]) [1, 2, 3, 4, 5] rfl rfl
        refine gb fun ys5_1 hx5_9 => ?_
        obtain ⟨h5_8, h5_8e⟩ := appM_some.1 hx5_9
        replace hm := (hm.both 4 0 (by decide) rfl rfl).pk (L' := [blk b0_1 [(nV c_.params), (nV c_.regs), (sV b3_1 o3_1 c_.blocks.length c1_1)] 57, blk b0_2 [(nV 0), (nV 0), (.slice none 0 0)] 57, blk b0_3 [(nV r0_1.params), (nV r0_1.regs), (sV b5_2 o5_2 xs3_1.1.length c5_2)] 57, both (ow [(sV b5_2 o5_2 xs3_1.1.length c5_2)] (xs3_1.1.set (i1_1).toNat (⟨x5_2.phis, x5_2.ins, x5_2.jump, x5_2.on, (x5_2.next_.set (xs3_1.2).toNat (xs3_1.1.length : Int))⟩ : Block_))) (ow [(sV b5_5 0 1 1)] ([(⟨([] : List Phi_), ([] : List Ins_), 1, 0, ([x5_1] : List Int)⟩ : Block_)] : List Block_))]) [1, 2, 3, 4] rfl rfl
        refine gf rfl (fun a hf => e_appendD (xs := (xs3_1.1.set (i1_1).toNat (⟨x5_2.phis, x5_2.ins, x5_2.jump, x5_2.on, (x5_2.next_.set (xs3_1.2).toNat (xs3_1.1.length : Int))⟩ : Block_))) (ys := ([(⟨([] : List Phi_), ([] : List Ins_), 1, 0, ([x5_1] : List Int)⟩ : Block_)] : List Block_)) 3 et_55 hf hm rfl rfl rfl rfl h5_8) ?_
        rintro v5_9 w hm
        rw [h5_8e] at hm
        exact gF fo_57_2 rfl (gS1 hm 2 sizeOf55 (rep_one (hm.ow_rep 3 rfl)) rfl fun w hm => gE (gZ fun a hf => ⟨v5_9, hf.sb rfl, hm.pk [0, 1, 2, 3] rfl rfl⟩))
       exact gcf rfl (gSk (gZ fun a hf => ⟨v3_1, hf.sb rfl, hm.pk [0, 1, 2, 3] rfl rfl⟩))
      repeat clear hm
      rintro s4_1 a w ⟨v4_2, hf, hm⟩
      exact gv hf (gZ fun a hf => ⟨v4_2, hf.sb rfl, hm.pk [0, 1, 2, 3] rfl rfl⟩)
     repeat clear hm
     rintro s3_1 a w ⟨v3_5, hf, hm⟩
     exact gv hf (gR (gM rfl (gB rfl (gA rfl (gE (gZe fun a hf => ⟨v3_5, hf.sb rfl, hm.pk [0, 1, 2, 3] rfl rfl⟩))))))
    exact gcf rfl (gXt (gHh (gLp ho2_1 hq2_1 (gZ fun a hf => ⟨v3_1, hf.sb rfl, hm.pk [0, 1, 2, 3] rfl rfl⟩))))
   repeat clear hm
   rintro s1_1 a w ⟨v1_2, hf, hm⟩
   exact gv hf (gR (gM rfl (gP (by omega) (by omega) rfl (gA rfl (gE (gZe fun a hf => ⟨v1_2, hf.sb rfl, hm.pk [0, 1, 2, 3] rfl rfl⟩))))))
  repeat clear hm
  rintro i0_1 xs0_1 a w ⟨v0_3, hf, hm⟩ hi0_3 hi0_4
  refine gv hf (gS (gS (gR (gM rfl (gF fo_57_2 rfl (gL hm 0 isAgg55 rfl ?_))))))
  obtain ⟨p0_2, c0_2, rfl, hl0_2⟩ := ro_slice h1
  refine gY (yV st_55 rfl) (gB rfl (gE (go _ 20 rfl (decide_eq_false (by omega)) (gcf rfl (gXt (gHh (gS (gS (gR (gA rfl (gE ?_)))))))))))
  obtain ⟨p0_3, c0_3, rfl, hl0_3⟩ := ro_slice (hm.ow_rep 3 rfl)
  refine gBk (gNf hm (fun i1_2 xs1_2 => [(1, (pV b0_1)), (2, (pV b0_2)), (3, (pV b0_3)), (7, (nV i1_2))]) (fun i1_2 xs1_2 => [blk b0_1 [(nV c_.params), (nV c_.regs), (.slice p0_2 c_.blocks.length c0_2)] 57, blk b0_2 [(nV 0), (nV 0), (.slice none 0 0)] 57, blk b0_3 [(nV r0_1.params), (nV r0_1.regs), (.slice p0_3 xs0_1.length c0_3)] 57, ow [(.slice p0_3 xs0_1.length c0_3)] xs1_2]) [0, 1, 2, 3] rfl ?_ ?_)
  ·
   repeat clear hm
   intro _ _ i1_2 xs1_2 w hm hi0_5 hi0_6 q0_2 _
   refine gS (gS (gR (gM rfl (gF fo_57_2 rfl (gL hm 0 isAgg55 rfl (gY (yV st_55 rfl) (gB rfl (gE (go _ 72 rfl (decide_eq_true (by omega)) (gct rfl (gSk (gS (gBk (gS (gR (gY (yn (hm.blk_at 0 rfl) isAgg57 sizeOf57 rfl) (gM rfl (gCg rfl call153 (spec_l7Preds_ok _ c_ (.slice p0_2 c_.blocks.length c0_2) (hm.now h1) i1_2) ?_))))))))))))))))))
   rintro r1_1 hx1_1 v1_3 w ⟨_, rfl, hB⟩
   replace hm := hm.give hB; clear hB
   refine gA rfl (gE (gS (gR (gY (yn (hm.blk_at 3 rfl) isAgg57 sizeOf57 rfl) (gM rfl (gCg rfl call153 (spec_l7Preds_ok _ (⟨r0_1.params, r0_1.regs, xs1_2⟩ : Code_) (.slice p0_3 xs0_1.length c0_3) (hm.ow_rep 4 rfl) i1_2) ?_))))))
   rintro r1_2 hx1_2 v1_5 w ⟨_, rfl, hB⟩
   replace hm := hm.give hB; clear hB
   refine gA rfl (gE (gS (gR (gA rfl (gE ?_)))))
   obtain ⟨p1_3, c1_3, rfl, hl1_3⟩ := ro_slice (hm.ow_rep 1 rfl)
   obtain ⟨p1_4, c1_4, rfl, hl1_4⟩ := ro_slice (hm.ow_rep 0 rfl)
   refine gJ hm (fun s1_2 => [(1, (pV b0_1)), (2, (pV b0_2)), (3, (pV b0_3)), (7, (nV i1_2))]) (fun s1_2 => [blk b0_1 [(nV c_.params), (nV c_.regs), (.slice p0_2 c_.blocks.length c0_2)] 57, blk b0_2 [(nV 0), (nV 0), (.slice none 0 0)] 57, blk b0_3 [(nV r0_1.params), (nV r0_1.regs), (.slice p0_3 xs0_1.length c0_3)] 57, ow [(.slice p0_3 xs0_1.length c0_3)] s1_2]) (fun s1_2 => ?_) ?_
   ·
    refine gBk (gMf hm (fun xs3_2 => [(1, (pV b0_1)), (2, (pV b0_2)), (3, (pV b0_3)), (7, (nV i1_2)), (8, (.slice p1_3 r1_1.length c1_3)), (9, (.slice p1_4 r1_2.length c1_4)), (10, (nV xs3_2.2))]) (fun xs3_2 => [blk b0_1 [(nV c_.params), (nV c_.regs), (.slice p0_2 c_.blocks.length c0_2)] 57, blk b0_2 [(nV 0), (nV 0), (.slice none 0 0)] 57, blk b0_3 [(nV r0_1.params), (nV r0_1.regs), (.slice p0_3 xs0_1.length c0_3)] 57, ow [(.slice p0_3 xs0_1.length c0_3)] xs3_2.1, ow [(.slice p1_3 r1_1.length c1_3)] r1_1, ow [(.slice p1_4 r1_2.length c1_4)] r1_2]) [2, 3, 4, 5, 1, 0] rfl ?_)
    repeat clear hm
    intro r2_2 hq2_2 xs3_2 w hm q2_2 ho2_2
    refine gS (gS (gR (gM rfl (gF fo_57_2 rfl (gL hm 2 isAgg55 rfl (gM rfl (gg fun x3_2 h3_6 hx3_4 => ?_)))))))
    obtain ⟨b3_2, o3_2, c3_3, he⟩ := idx_form' (hm.ow_rep 3 rfl) hx3_4
    simp only [Value.slice.injEq, Option.some.injEq] at he; obtain ⟨rfl, _, rfl⟩ := he
    obtain ⟨v3_6, v3_7, v3_8, hc3_2, h3_7, h3_8, h3_9⟩ := rk_Block_ (hm.ow_rep 3 rfl) hx3_4
    have hL3_1 := rep_slice_len (hm.ow_rep 3 rfl)
    refine gI st_55 h3_6 (idx_lt2 hx3_4 hL3_1) rfl (gF fo_104_0 rfl ?_)
    obtain ⟨v3_9, v3_10, v3_11, hm⟩ := pin_Block_ hm 3 rfl hx3_4
    refine gY (yl isAgg101 ((hm.holeE_at 6 rfl).cell (j := 0) rfl) rfl) ?_
    obtain ⟨p3_2, c3_4, rfl, hl3_2⟩ := ro_slice (hm.ow_rep 2 rfl)
    refine gY (yV st_101 rfl) (gB rfl (gE (gsd 89 rfl (fun h3_10 => ?_) fun h3_10 => ?_)))
    ·
     refine gct rfl (gSk (gS (gBk (gS ?_))))
     replace hm := (mk_Block_ x3_2.jump x3_2.on hm 2 1 0 rfl).pk (L' := [ow [(.slice p3_2 x3_2.phis.length c3_4), v3_10, (nV x3_2.jump), (nV x3_2.on), v3_11] (x3_2 : Block_), blk b0_1 [(nV c_.params), (nV c_.regs), (.slice p0_2 c_.blocks.length c0_2)] 57, blk b0_2 [(nV 0), (nV 0), (.slice none 0 0)] 57, blk b0_3 [(nV r0_1.params), (nV r0_1.regs), (sV b3_2 o3_2 xs0_1.length c0_3)] 57, holeE b3_2 o3_2 xs0_1.length c0_3 (xs3_2.1 : List Block_) (i1_2).toNat [(.slice p3_2 x3_2.phis.length c3_4), v3_10, (nV x3_2.jump), (nV x3_2.on), v3_11], ow [(.slice p1_3 r1_1.length c1_3)] r1_1, ow [(.slice p1_4 r1_2.length c1_4)] r1_2]) [2, 3, 4, 5, 6, 7, 8] rfl rfl
     replace hm := (hm.shutE (y := (x3_2 : Block_)) 4 0 (by decide) rfl rfl).pk (L' := [blk b0_1 [(nV c_.params), (nV c_.regs), (.slice p0_2 c_.blocks.length c0_2)] 57, blk b0_2 [(nV 0), (nV 0), (.slice none 0 0)] 57, blk b0_3 [(nV r0_1.params), (nV r0_1.regs), (sV b3_2 o3_2 xs0_1.length c0_3)] 57, ow [(sV b3_2 o3_2 xs0_1.length c0_3)] (xs3_2.1.set (i1_2).toNat x3_2), ow [(.slice p1_3 r1_1.length c1_3)] r1_1, ow [(.slice p1_4 r1_2.length c1_4)] r1_2]) [1, 2, 3, 4, 5, 6] rfl rfl
     rw [set_same hx3_4] at hm
     refine gR (gf rfl (fun a hf => e_build0 (α := Int) et_37 hm rfl) ?_)
     rintro v3_12 w hm
     refine gA rfl (gE (gS (gS (gR (gA rfl (gE ?_))))))
     obtain ⟨p3_3, c3_5, rfl, hl3_3⟩ := ro_slice (hm.ow_rep 0 rfl)
     refine gBk (gNg (fun i4_1 xs4_1 a w => ∃ (v4_3 : Value), St 142 [(1, (pV b0_1)), (2, (pV b0_2)), (3, (pV b0_3)), (7, (nV i1_2)), (8, (.slice p1_3 r1_1.length c1_3)), (9, (.slice p1_4 r1_2.length c1_4)), (10, (nV xs3_2.2)), (11, v4_3), (12, (nV i4_1))] w0 (hp w0) [blk b0_1 [(nV c_.params), (nV c_.regs), (.slice p0_2 c_.blocks.length c0_2)] 57, blk b0_2 [(nV 0), (nV 0), (.slice none 0 0)] 57, blk b0_3 [(nV r0_1.params), (nV r0_1.regs), (sV b3_2 o3_2 xs0_1.length c0_3)] 57, ow [(sV b3_2 o3_2 xs0_1.length c0_3)] xs3_2.1, ow [(.slice p1_3 r1_1.length c1_3)] r1_1, ow [(.slice p1_4 r1_2.length c1_4)] r1_2, ow [v4_3] xs4_1] a w) (fun a hf => ⟨(.slice p3_3 ([] : List Int).length c3_5), hf.sb rfl, hm.pk [1, 2, 3, 4, 5, 6, 0] rfl rfl⟩) ?_ ?_)
     ·
      repeat clear hm
      rintro _ _ i4_1 xs4_1 a w ⟨v4_3, hf, hm⟩ hi3_1 hi3_2 q3_1 _
      refine gv hf (gS (gS (gR (gM rfl (gM rfl (gY (yV st_37 rfl) (gB rfl (gE (go _ 96 rfl (decide_eq_true (by omega)) (gct rfl (gSk (gS (gBk (gS (gR (gM rfl (gM rfl (gg fun x4_1 h4_1 hx4_3 => ?_))))))))))))))))))
      obtain ⟨b4_1, o4_1, c4_1, he⟩ := idx_form (hm.ow_rep 5 rfl) hx4_3
      simp only [Value.slice.injEq, Option.some.injEq] at he; obtain ⟨rfl, _, rfl⟩ := he
      refine gI st_37 h4_1 (idx_lt hx4_3) rfl (gY (yl isAgg3 ((flat_cells (cs := [(nV x4_1)]) (hm.ow_rep 5 rfl) hx4_3 rfl).cell (j := 0) rfl) rfl) (gA rfl (gE (gS (gS (gR (gM rfl (gF fo_57_2 rfl (gL hm 0 isAgg55 rfl (gY (yV st_55 rfl) (gB rfl (gE (gJ hm (fun s4_2 => [(1, (pV b0_1)), (2, (pV b0_2)), (3, (pV b0_3)), (7, (nV i1_2)), (8, (.slice p1_3 r1_1.length c1_3)), (9, (sV b4_1 o4_1 r1_2.length c1_4)), (10, (nV xs3_2.2)), (11, v4_3), (12, (nV i4_1)), (13, (nV s4_2))]) (fun s4_2 => [blk b0_1 [(nV c_.params), (nV c_.regs), (.slice p0_2 c_.blocks.length c0_2)] 57, blk b0_2 [(nV 0), (nV 0), (.slice none 0 0)] 57, blk b0_3 [(nV r0_1.params), (nV r0_1.regs), (sV b3_2 o3_2 xs0_1.length c0_3)] 57, ow [(sV b3_2 o3_2 xs0_1.length c0_3)] xs3_2.1, ow [(.slice p1_3 r1_1.length c1_3)] r1_1, ow [(sV b4_1 o4_1 r1_2.length c1_4)] r1_2, ow [v4_3] xs4_1]) (fun s4_2 => ?_) ?_)))))))))))))
      ·
       refine gsd 107 rfl (fun h5_9 => ?_) fun h5_9 => ?_
       ·
        refine gct rfl (gR (gY (yn (hm.blk_at 2 rfl) isAgg57 sizeOf57 rfl) (gM rfl (gCg rfl call153 (spec_l7Preds_ok _ (⟨r0_1.params, r0_1.regs, xs3_2.1⟩ : Code_) (sV b3_2 o3_2 xs0_1.length c0_3) (hm.ow_rep 3 rfl) x4_1) ?_))))
        rintro r5_1 hx5_10 v5_10 w ⟨_, rfl, hB⟩
        replace hm := hm.give hB; clear hB
        refine gg fun x5_4 h5_10 hx5_12 => ?_
        obtain ⟨b5_6, o5_4, c5_6, he⟩ := idx_form (hm.ow_rep 0 rfl) hx5_12
        subst he
        exact gI st_37 h5_10 (idx_lt hx5_12) rfl (gY (yl isAgg3 ((flat_cells (cs := [(nV x5_4)]) (hm.ow_rep 0 rfl) hx5_12 rfl).cell (j := 0) rfl) rfl) (gA rfl (gE (gz hm [1, 2, 3, 4, 5, 6, 7] rfl))))
       exact gcf rfl (gSk (gz hm [0, 1, 2, 3, 4, 5, 6] rfl))
      repeat clear hm
      intro s4_2 w hm
      refine gJg (fun s4_3 a w => ∃ (v4_4 : Value), St 142 [(1, (pV b0_1)), (2, (pV b0_2)), (3, (pV b0_3)), (7, (nV i1_2)), (8, (.slice p1_3 r1_1.length c1_3)), (9, (sV b4_1 o4_1 r1_2.length c1_4)), (10, (nV xs3_2.2)), (11, v4_4), (12, (nV i4_1))] w0 (hp w0) [blk b0_1 [(nV c_.params), (nV c_.regs), (.slice p0_2 c_.blocks.length c0_2)] 57, blk b0_2 [(nV 0), (nV 0), (.slice none 0 0)] 57, blk b0_3 [(nV r0_1.params), (nV r0_1.regs), (sV b3_2 o3_2 xs0_1.length c0_3)] 57, ow [(sV b3_2 o3_2 xs0_1.length c0_3)] xs3_2.1, ow [(.slice p1_3 r1_1.length c1_3)] r1_1, ow [(sV b4_1 o4_1 r1_2.length c1_4)] r1_2, ow [v4_4] s4_3] a w) (fun s4_3 => ?_) ?_
      ·
       refine gW (.p 0 (.p 1 (.p 3 (.p 7 (.p 11 (.p 12 (.q 2 (.p 4 (.p 5 (.e 6 (.p 8 (.p 9 (.e 10 (.e 13 (.p 14 (.e 15 (.e 16 (.e 17 (.p 18 .fin) .nil) .nil) .nil)) .nil) (.e 13 (.e 10 (.p 14 (.e 15 (.e 16 (.e 17 (.p 18 .fin) .nil) .nil) .nil)) .nil) .nil)))) (.e 13 (.e 6 (.p 8 (.p 9 (.e 10 (.p 14 (.e 15 (.e 16 (.e 17 (.p 18 .fin) .nil) .nil) .nil)) .nil))) .nil) .nil))))))))))) [13] [0, 1, 3, 4, 5, 7, 8, 9, 11, 12, 14, 18] hm [0, 1, 2, 3, 4, 5, 6] [blk b0_1 [(nV c_.params), (nV c_.regs), (.slice p0_2 c_.blocks.length c0_2)] 57, blk b0_2 [(nV 0), (nV 0), (.slice none 0 0)] 57, blk b0_3 [(nV r0_1.params), (nV r0_1.regs), (sV b3_2 o3_2 xs0_1.length c0_3)] 57, ow [(sV b3_2 o3_2 xs0_1.length c0_3)] xs3_2.1, ow [(.slice p1_3 r1_1.length c1_3)] r1_1, ow [(sV b4_1 o4_1 r1_2.length c1_4)] r1_2, ow [v4_3] xs4_1] rfl mxo (by kernel_rfl) (fun _ _ _ h => h.2) fun w hm hS => tP rfl (fun w => yM rfl) (tP rfl (fun w => yF fo_57_2 rfl) (tP rfl (fun w => yM rfl) (tP rfl (fun w => yM rfl) (tP rfl (fun w => yM rfl) (tP rfl (fun w => yM rfl) (tQ rfl hS (fun w hm => yL hm 0 isAgg55 rfl) (gg fun x5_5 h5_11 hx5_14 => ?_)))))))
       obtain ⟨b5_7, o5_5, c5_7, he⟩ := idx_form' h1 hx5_14
       simp only [Value.slice.injEq, Option.some.injEq] at he; obtain ⟨rfl, _, rfl⟩ := he
       obtain ⟨v5_12, v5_13, v5_14, hc5_2, h5_12, h5_13, h5_14⟩ := rk_Block_ h1 hx5_14
       refine tP rfl (fun w => yI st_55 h5_11 (idx_lt hx5_14) rfl) (tP rfl (fun w => yF fo_104_0 rfl) (gb fun pb5_1 hpb5_1 => gb fun pb5_2 hpb5_2 => gb fun pb5_3 hpb5_3 => gb fun pb5_4 hpb5_4 => tMo ?_ ?_))
       ·
        refine tY rfl (yl isAgg101 ((hc5_2.mono hm.lez).cell (j := 0) rfl) rfl) (tAn rfl ?_)
        obtain ⟨h5_15, hx5_15⟩ := getI_some.1 hpb5_1
        obtain ⟨b5_8, o5_6, c5_8, he⟩ := idx_form' h5_12 hx5_15
        subst he
        obtain ⟨v5_15, hc5_3, h5_16⟩ := rk_Phi_ h5_12 hx5_15
        refine tP rfl (fun w => yI st_101 h5_15 (idx_lt hx5_15) rfl) (tP rfl (fun w => yF fo_143_1 rfl) (tMo ?_ ?_))
        ·
         refine tY rfl (yl isAgg37 ((hc5_3.mono hm.lez).cell (j := 1) rfl) rfl) (tAn rfl (tO (tf rfl rfl (fun a hf => e_call hf rfl call206 rfl (spec_l10At_ok _ r1_1 (.slice p1_3 r1_1.length c1_3) (hm.ow_rep 4 rfl) s4_2 _ hpb5_2)) ?_)))
         rintro v5_16 w ⟨rfl, hB⟩
         replace hm := hm.below' hB; clear hB
         refine tAk hm [0, 1, 2, 3, 4, 5, 6] rfl fun hS => ?_
         obtain ⟨h5_17, hx5_16⟩ := getI_some.1 hpb5_3
         obtain ⟨b5_9, o5_7, c5_9, he⟩ := idx_form h5_16 hx5_16
         subst he
         refine tP rfl (fun w => yI st_37 h5_17 (idx_lt hx5_16) rfl) (tO (tY rfl (yl isAgg3 ((flat_cells (cs := [(nV pb5_3)]) (hm.now h5_16) hx5_16 rfl).cell (j := 0) rfl) rfl) (tAn rfl (tO (tf rfl rfl (fun a hf => e_build (vs := #[(0, (nV pb5_3))]) (cs := [(nV pb5_3)]) et_37 hf hm rfl rfl (by kernel_rfl) rfl rfl) ?_)))))
         rintro _ w ⟨b5_10, rfl, hm⟩
         replace hm := hm.lit (xs := ([pb5_3] : List Int)) 0 rfl rfl rfl rfl
         refine tAn rfl (tO ?_)
         obtain ⟨h5_18, h5_18e⟩ := appM_some.1 hpb5_4
         refine tf rfl rfl (fun a hf => e_append 7 et_37 hf hm rfl (hm.ow_rep 0 rfl) rfl rfl rfl h5_18) ?_
         rintro v5_17 w hm
         rw [h5_18e] at hm
         exact tAn rfl (tP rfl (fun w => yA rfl) (tE (gZ fun a hf => ⟨v5_17, hf.sb rfl, hm.pk [1, 2, 3, 4, 5, 6, 7] rfl rfl⟩)))
        refine tO (tf rfl rfl (fun a hf => e_call hf rfl call206 rfl (spec_l10At_ok _ r1_1 (.slice p1_3 r1_1.length c1_3) (hm.ow_rep 4 rfl) s4_2 _ hpb5_2)) ?_)
        rintro v5_18 w ⟨rfl, hB⟩
        replace hm := hm.below' hB; clear hB
        refine tAk hm [0, 1, 2, 3, 4, 5, 6] rfl fun hS => tO (tY rfl (yl isAgg37 ((hc5_3.mono hm.lez).cell (j := 1) rfl) rfl) (tAn rfl ?_))
        obtain ⟨h5_19, hx5_17⟩ := getI_some.1 hpb5_3
        obtain ⟨b5_11, o5_8, c5_10, he⟩ := idx_form h5_16 hx5_17
        subst he
        refine tP rfl (fun w => yI st_37 h5_19 (idx_lt hx5_17) rfl) (tO (tY rfl (yl isAgg3 ((flat_cells (cs := [(nV pb5_3)]) (hm.now h5_16) hx5_17 rfl).cell (j := 0) rfl) rfl) (tAn rfl (tO (tf rfl rfl (fun a hf => e_build (vs := #[(0, (nV pb5_3))]) (cs := [(nV pb5_3)]) et_37 hf hm rfl rfl (by kernel_rfl) rfl rfl) ?_)))))
        rintro _ w ⟨b5_12, rfl, hm⟩
        replace hm := hm.lit (xs := ([pb5_3] : List Int)) 0 rfl rfl rfl rfl
        refine tAn rfl (tO ?_)
        obtain ⟨h5_20, h5_20e⟩ := appM_some.1 hpb5_4
        refine tf rfl rfl (fun a hf => e_append 7 et_37 hf hm rfl (hm.ow_rep 0 rfl) rfl rfl rfl h5_20) ?_
        rintro v5_19 w hm
        rw [h5_20e] at hm
        exact tAn rfl (tP rfl (fun w => yA rfl) (tE (gZ fun a hf => ⟨v5_19, hf.sb rfl, hm.pk [1, 2, 3, 4, 5, 6, 7] rfl rfl⟩)))
       refine tO (tf rfl rfl (fun a hf => e_call hf rfl call206 rfl (spec_l10At_ok _ r1_1 (.slice p1_3 r1_1.length c1_3) (hm.ow_rep 4 rfl) s4_2 _ hpb5_2)) ?_)
       rintro v5_20 w ⟨rfl, hB⟩
       replace hm := hm.below' hB; clear hB
       refine tAk hm [0, 1, 2, 3, 4, 5, 6] rfl fun hS => tO (tY rfl (yl isAgg101 ((hc5_2.mono hm.lez).cell (j := 0) rfl) rfl) (tAn rfl ?_))
       obtain ⟨h5_21, hx5_18⟩ := getI_some.1 hpb5_1
       obtain ⟨b5_13, o5_9, c5_11, he⟩ := idx_form' h5_12 hx5_18
       subst he
       obtain ⟨v5_21, hc5_4, h5_22⟩ := rk_Phi_ h5_12 hx5_18
       refine tP rfl (fun w => yI st_101 h5_21 (idx_lt hx5_18) rfl) (tP rfl (fun w => yF fo_143_1 rfl) (tO (tY rfl (yl isAgg37 ((hc5_4.mono hm.lez).cell (j := 1) rfl) rfl) (tAn rfl ?_))))
       obtain ⟨h5_23, hx5_19⟩ := getI_some.1 hpb5_3
       obtain ⟨b5_14, o5_10, c5_12, he⟩ := idx_form h5_22 hx5_19
       subst he
       refine tP rfl (fun w => yI st_37 h5_23 (idx_lt hx5_19) rfl) (tO (tY rfl (yl isAgg3 ((flat_cells (cs := [(nV pb5_3)]) (hm.now h5_22) hx5_19 rfl).cell (j := 0) rfl) rfl) (tAn rfl (tO (tf rfl rfl (fun a hf => e_build (vs := #[(0, (nV pb5_3))]) (cs := [(nV pb5_3)]) et_37 hf hm rfl rfl (by kernel_rfl) rfl rfl) ?_)))))
       rintro _ w ⟨b5_15, rfl, hm⟩
       replace hm := hm.lit (xs := ([pb5_3] : List Int)) 0 rfl rfl rfl rfl
       refine tAn rfl (tO ?_)
       obtain ⟨h5_24, h5_24e⟩ := appM_some.1 hpb5_4
       refine tf rfl rfl (fun a hf => e_append 7 et_37 hf hm rfl (hm.ow_rep 0 rfl) rfl rfl rfl h5_24) ?_
       rintro v5_22 w hm
       rw [h5_24e] at hm
       exact tAn rfl (tP rfl (fun w => yA rfl) (tE (gZ fun a hf => ⟨v5_22, hf.sb rfl, hm.pk [1, 2, 3, 4, 5, 6, 7] rfl rfl⟩)))
      repeat clear hm
      rintro s4_3 a w ⟨v4_4, hf, hm⟩
      exact gv hf (gR (gM rfl (gP (by omega) (by omega) rfl (gA rfl (gE (gZe fun a hf => ⟨v4_4, hf.sb rfl, hm.pk [0, 1, 2, 3, 4, 5, 6] rfl rfl⟩))))))
     repeat clear hm
     rintro i3_3 xs3_3 a w ⟨v3_13, hf, hm⟩ hi3_3 hi3_4
     refine gv hf (gS (gS (gR (gM rfl (gM rfl (gY (yV st_37 rfl) (gB rfl (gE (go _ 96 rfl (decide_eq_false (by omega)) (gcf rfl (gXt (gHh (gR (gF fo_57_2 rfl (gL hm 2 isAgg55 rfl (gM rfl (gg fun x3_3 h3_11 hx3_6 => ?_)))))))))))))))))
     obtain ⟨v3_14, v3_15, v3_16, hc3_3, h3_12, h3_13, h3_14⟩ := rk_Block_ (hm.ow_rep 3 rfl) hx3_6
     have hL3_2 := rep_slice_len (hm.ow_rep 3 rfl)
     refine gI st_55 h3_11 (idx_lt2 hx3_6 hL3_2) rfl (gF fo_104_0 rfl ?_)
     obtain ⟨v3_17, v3_18, v3_19, hm⟩ := pin_Block_ hm 3 rfl hx3_6
     refine gY (yl isAgg101 ((hm.holeE_at 6 rfl).cell (j := 0) rfl) rfl) (gM rfl (gM rfl (gg fun x3_4 h3_15 hx3_8 => ?_)))
     obtain ⟨b3_3, o3_3, c3_6, he⟩ := idx_form' (hm.ow_rep 2 rfl) hx3_8
     subst he
     obtain ⟨v3_20, hc3_4, h3_16⟩ := rk_Phi_ (hm.ow_rep 2 rfl) hx3_8
     refine gI st_101 h3_15 (idx_lt hx3_8) rfl (gF fo_143_1 rfl ?_)
     obtain ⟨v3_21, hm⟩ := pin_Phi_ hm 2 rfl hx3_8
     have h13_1 : ∀ u ∈ ([v3_13] : List Value), u.oneCell' = true := (one_cons (rep_one (hm.ow_rep 10 rfl)) one_nil)
     refine gf0 rfl (fun a hf => e_storeH (j := 1) (vs := [v3_13]) 3 hf hm rfl rfl rfl sizeOf37 rfl rfl (cells_one (h13_1 _ (List.mem_singleton.2 rfl))) h13_1 rfl) ?_
     rintro _ w hm
     replace hm : Mem w0 (hp w0) _ [ow [v3_21] x3_4.args, ow [v3_19] x3_3.next_, ow [v3_18] x3_3.ins, holeE b3_3 o3_3 x3_3.phis.length c3_6 (x3_3.phis : List Phi_) (xs3_2.2).toNat [(nV x3_4.to), v3_13], blk b0_1 [(nV c_.params), (nV c_.regs), (.slice p0_2 c_.blocks.length c0_2)] 57, blk b0_2 [(nV 0), (nV 0), (.slice none 0 0)] 57, blk b0_3 [(nV r0_1.params), (nV r0_1.regs), (sV b3_2 o3_2 xs0_1.length c0_3)] 57, holeE b3_2 o3_2 xs0_1.length c0_3 (xs3_2.1 : List Block_) (i1_2).toNat [(sV b3_3 o3_3 x3_3.phis.length c3_6), v3_18, (nV x3_3.jump), (nV x3_3.on), v3_19], ow [(.slice p1_3 r1_1.length c1_3)] r1_1, ow [(.slice p1_4 r1_2.length c1_4)] r1_2, ow [v3_13] xs3_3] := hm
     refine gE ?_
     replace hm : Mem w0 (hp w0) _ [ow [v3_21] x3_4.args, ow [v3_19] x3_3.next_, ow [v3_18] x3_3.ins, holeE b3_3 o3_3 x3_3.phis.length c3_6 (x3_3.phis : List Phi_) (xs3_2.2).toNat [(nV x3_4.to), v3_13], blk b0_1 [(nV c_.params), (nV c_.regs), (.slice p0_2 c_.blocks.length c0_2)] 57, blk b0_2 [(nV 0), (nV 0), (.slice none 0 0)] 57, blk b0_3 [(nV r0_1.params), (nV r0_1.regs), (sV b3_2 o3_2 xs0_1.length c0_3)] 57, holeE b3_2 o3_2 xs0_1.length c0_3 (xs3_2.1 : List Block_) (i1_2).toNat [(sV b3_3 o3_3 x3_3.phis.length c3_6), v3_18, (nV x3_3.jump), (nV x3_3.on), v3_19], ow [(.slice p1_3 r1_1.length c1_3)] r1_1, ow [(.slice p1_4 r1_2.length c1_4)] r1_2, ow [(nV x3_4.to), v3_13] ((⟨x3_4.to, xs3_3⟩ : Phi_) : Phi_)] := mk_Phi_ x3_4.to hm 10 rfl
     replace hm := (hm.shutE (y := ((⟨x3_4.to, xs3_3⟩ : Phi_) : Phi_)) 3 10 (by decide) rfl rfl).pk (L' := [ow [v3_21] x3_4.args, ow [v3_19] x3_3.next_, ow [v3_18] x3_3.ins, ow [(sV b3_3 o3_3 x3_3.phis.length c3_6)] (x3_3.phis.set (xs3_2.2).toNat (⟨x3_4.to, xs3_3⟩ : Phi_)), blk b0_1 [(nV c_.params), (nV c_.regs), (.slice p0_2 c_.blocks.length c0_2)] 57, blk b0_2 [(nV 0), (nV 0), (.slice none 0 0)] 57, blk b0_3 [(nV r0_1.params), (nV r0_1.regs), (sV b3_2 o3_2 xs0_1.length c0_3)] 57, holeE b3_2 o3_2 xs0_1.length c0_3 (xs3_2.1 : List Block_) (i1_2).toNat [(sV b3_3 o3_3 x3_3.phis.length c3_6), v3_18, (nV x3_3.jump), (nV x3_3.on), v3_19], ow [(.slice p1_3 r1_1.length c1_3)] r1_1, ow [(.slice p1_4 r1_2.length c1_4)] r1_2]) [0, 1, 2, 3, 4, 5, 6, 7, 8, 9] rfl rfl
     have hx3_9 := List.getElem?_set_self (a := ((⟨x3_4.to, xs3_3⟩ : Phi_) : Phi_)) (idx_lt hx3_8)
     replace hm := (mk_Block_ x3_3.jump x3_3.on hm 3 2 1 rfl).pk (L' := [ow [v3_21] x3_4.args, ow [(sV b3_3 o3_3 x3_3.phis.length c3_6), v3_18, (nV x3_3.jump), (nV x3_3.on), v3_19] ((⟨(x3_3.phis.set (xs3_2.2).toNat (⟨x3_4.to, xs3_3⟩ : Phi_)), x3_3.ins, x3_3.jump, x3_3.on, x3_3.next_⟩ : Block_) : Block_), blk b0_1 [(nV c_.params), (nV c_.regs), (.slice p0_2 c_.blocks.length c0_2)] 57, blk b0_2 [(nV 0), (nV 0), (.slice none 0 0)] 57, blk b0_3 [(nV r0_1.params), (nV r0_1.regs), (sV b3_2 o3_2 xs0_1.length c0_3)] 57, holeE b3_2 o3_2 xs0_1.length c0_3 (xs3_2.1 : List Block_) (i1_2).toNat [(sV b3_3 o3_3 x3_3.phis.length c3_6), v3_18, (nV x3_3.jump), (nV x3_3.on), v3_19], ow [(.slice p1_3 r1_1.length c1_3)] r1_1, ow [(.slice p1_4 r1_2.length c1_4)] r1_2]) [0, 3, 4, 5, 6, 7, 8, 9] rfl rfl
     replace hm := (hm.shutE (y := ((⟨(x3_3.phis.set (xs3_2.2).toNat (⟨x3_4.to, xs3_3⟩ : Phi_)), x3_3.ins, x3_3.jump, x3_3.on, x3_3.next_⟩ : Block_) : Block_)) 5 1 (by decide) rfl rfl).pk (L' := [ow [v3_21] x3_4.args, blk b0_1 [(nV c_.params), (nV c_.regs), (.slice p0_2 c_.blocks.length c0_2)] 57, blk b0_2 [(nV 0), (nV 0), (.slice none 0 0)] 57, blk b0_3 [(nV r0_1.params), (nV r0_1.regs), (sV b3_2 o3_2 xs0_1.length c0_3)] 57, ow [(sV b3_2 o3_2 xs0_1.length c0_3)] (xs3_2.1.set (i1_2).toNat (⟨(x3_3.phis.set (xs3_2.2).toNat (⟨x3_4.to, xs3_3⟩ : Phi_)), x3_3.ins, x3_3.jump, x3_3.on, x3_3.next_⟩ : Block_)), ow [(.slice p1_3 r1_1.length c1_3)] r1_1, ow [(.slice p1_4 r1_2.length c1_4)] r1_2]) [0, 2, 3, 4, 5, 6, 7] rfl rfl
     have hx3_10 := List.getElem?_set_self (a := ((⟨(x3_3.phis.set (xs3_2.2).toNat (⟨x3_4.to, xs3_3⟩ : Phi_)), x3_3.ins, x3_3.jump, x3_3.on, x3_3.next_⟩ : Block_) : Block_)) (idx_lt hx3_6)
     exact gR (gM rfl (gB rfl (gA rfl (gE (gze hm [1, 2, 3, 4, 5, 6] rfl)))))
    refine gcf rfl (gXt (gHh ?_))
    replace hm := (mk_Block_ x3_2.jump x3_2.on hm 2 1 0 rfl).pk (L' := [ow [(.slice p3_2 x3_2.phis.length c3_4), v3_10, (nV x3_2.jump), (nV x3_2.on), v3_11] (x3_2 : Block_), blk b0_1 [(nV c_.params), (nV c_.regs), (.slice p0_2 c_.blocks.length c0_2)] 57, blk b0_2 [(nV 0), (nV 0), (.slice none 0 0)] 57, blk b0_3 [(nV r0_1.params), (nV r0_1.regs), (sV b3_2 o3_2 xs0_1.length c0_3)] 57, holeE b3_2 o3_2 xs0_1.length c0_3 (xs3_2.1 : List Block_) (i1_2).toNat [(.slice p3_2 x3_2.phis.length c3_4), v3_10, (nV x3_2.jump), (nV x3_2.on), v3_11], ow [(.slice p1_3 r1_1.length c1_3)] r1_1, ow [(.slice p1_4 r1_2.length c1_4)] r1_2]) [2, 3, 4, 5, 6, 7, 8] rfl rfl
    replace hm := (hm.shutE (y := (x3_2 : Block_)) 4 0 (by decide) rfl rfl).pk (L' := [blk b0_1 [(nV c_.params), (nV c_.regs), (.slice p0_2 c_.blocks.length c0_2)] 57, blk b0_2 [(nV 0), (nV 0), (.slice none 0 0)] 57, blk b0_3 [(nV r0_1.params), (nV r0_1.regs), (sV b3_2 o3_2 xs0_1.length c0_3)] 57, ow [(sV b3_2 o3_2 xs0_1.length c0_3)] (xs3_2.1.set (i1_2).toNat x3_2), ow [(.slice p1_3 r1_1.length c1_3)] r1_1, ow [(.slice p1_4 r1_2.length c1_4)] r1_2]) [1, 2, 3, 4, 5, 6] rfl rfl
    rw [set_same hx3_4] at hm
    exact gLp ho2_2 hq2_2 (gz hm [0, 1, 2, 3] rfl)
   repeat clear hm
   intro s1_2 w hm
   exact gR (gM rfl (gP (by omega) (by omega) rfl (gA rfl (gE (gze hm [0, 1, 2, 3] rfl)))))
  repeat clear hm
  intro i0_2 xs0_2 w hm hi0_7 hi0_8
  exact gS (gS (gR (gM rfl (gF fo_57_2 rfl (gL hm 0 isAgg55 rfl (gY (yV st_55 rfl) (gB rfl (gE (go _ 72 rfl (decide_eq_false (by omega)) (gcf rfl (gXt (gHh (gS (gR (gY (yn (hm.blk_at 2 rfl) isAgg57 sizeOf57 rfl) (gSN hm 1 sizeOf57 (one_cons rfl (one_cons rfl (one_cons rfl one_nil))) rfl fun w hm => gE (gRt (grc 1 results168 hm rfl isAgg57 sizeOf57 ⟨(.slice p0_3 xs0_1.length c0_3), rfl, hm.pk [3] rfl rfl⟩))))))))))))))))))

theorem spec_l10Turn_ok (w0 : World) (c_ : Code_) (v1 : Value) (h1 : GT.rep (hp w0) [v1] c_.blocks) (pass : Str) :
    ConM Tryz.prog 118 [(.agg #[(nV c_.params), (nV c_.regs), v1]), (.string ⟨(pass).b.toArray⟩)] w0 (spec_l10Turn c_ pass) fun r v w' => ∃ (x1 : Value), v = (.agg #[(nV r.params), (nV r.regs), x1]) ∧ Mem w0 (hp w0) w' [ow [x1] r.blocks] := by
  unfold spec_l10Turn
  refine gcon func118 rfl fun r => ?_
  have hm := Mem.start w0
  refine gS (gR (gBx hm rfl fun b0_1 w hm => gAl hm zeroValue57 rfl fun b0_2 w hm => gE (gS (gS (gR (gM rfl (gE (gBk (gS (gR (gY (yG rfl (y_eqls (p := pass) (q := (mkS [114, 101, 97, 99, 104])) rfl rfl rfl)) (gA rfl (gE (gsd 6 rfl (fun h0_1 => ?_) fun h0_1 => ?_))))))))))))))
  ·
   exact gno
  refine gcf rfl (gS (gR (gY (yG rfl (y_eqls (p := pass) (q := (mkS [111, 114, 100, 101, 114])) rfl rfl rfl)) (gA rfl (gE (gsd 10 rfl (fun h0_2 => ?_) fun h0_2 => ?_))))))
  ·
   exact gno
  refine gcf rfl (gS (gR (gY (yG rfl (y_eqls (p := pass) (q := (mkS [115, 112, 108, 105, 116])) rfl rfl rfl)) (gA rfl (gE (gsd 16 rfl (fun h0_3 => ?_) fun h0_3 => ?_))))))
  ·
   refine gct rfl (gS (gR (gY (yn (hm.blk_at 1 rfl) isAgg57 sizeOf57 rfl) (gCg rfl call168 (spec_l10Split_ok _ c_ v1 (hm.now h1)) ?_))))
   rintro r0_1 hx0_1 v0_1 w ⟨v0_2, rfl, hB⟩
   replace hm := hm.give hB; clear hB
   exact gSN hm 1 sizeOf57 (one_cons rfl (one_cons rfl (one_cons (rep_one (hm.ow_rep 0 rfl)) one_nil))) rfl fun w hm => gE (gRt (grc 1 results118 hm rfl isAgg57 sizeOf57 ⟨v0_2, rfl, hm.pk [0] rfl rfl⟩))
  refine gcf rfl (gS (gR (gY (yG rfl (y_eqls (p := pass) (q := (mkS [105, 100, 108, 101])) rfl rfl rfl)) (gA rfl (gE (gsd 20 rfl (fun h0_4 => ?_) fun h0_4 => ?_))))))
  ·
   exact gno
  refine gcf rfl (gS (gR (gY (yG rfl (y_eqls (p := pass) (q := (mkS [115, 105, 110, 103, 108, 101])) rfl rfl rfl)) (gA rfl (gE (gsd 24 rfl (fun h0_5 => ?_) fun h0_5 => ?_))))))
  ·
   exact gno
  refine gcf rfl (gS (gR (gY (yG rfl (y_eqls (p := pass) (q := (mkS [107, 110, 111, 119, 110])) rfl rfl rfl)) (gA rfl (gE (gsd 28 rfl (fun h0_6 => ?_) fun h0_6 => ?_))))))
  ·
   exact gno
  refine gcf rfl (gS (gR (gY (yG rfl (y_eqls (p := pass) (q := (mkS [115, 104, 97, 114, 101])) rfl rfl rfl)) (gA rfl (gE (gsd 32 rfl (fun h0_7 => ?_) fun h0_7 => ?_))))))
  ·
   exact gno
  refine gcf rfl (gS (gR (gY (yG rfl (y_eqls (p := pass) (q := (mkS [104, 111, 105, 115, 116])) rfl rfl rfl)) (gA rfl (gE (gsd 36 rfl (fun h0_8 => ?_) fun h0_8 => ?_))))))
  ·
   exact gno
  refine gcf rfl (gS (gR (gY (yG rfl (y_eqls (p := pass) (q := (mkS [101, 118, 101, 110])) rfl rfl rfl)) (gA rfl (gE (gsd 40 rfl (fun h0_9 => ?_) fun h0_9 => ?_))))))
  ·
   exact gno
  refine gcf rfl (gS (gR (gY (yG rfl (y_eqls (p := pass) (q := (mkS [115, 107, 105, 112])) rfl rfl rfl)) (gA rfl (gE (gsd 44 rfl (fun h0_10 => ?_) fun h0_10 => ?_))))))
  ·
   exact gno
  refine gcf rfl (gS (gR (gY (yG rfl (y_eqls (p := pass) (q := (mkS [106, 111, 105, 110])) rfl rfl rfl)) (gA rfl (gE (gsd 48 rfl (fun h0_11 => ?_) fun h0_11 => ?_))))))
  ·
   exact gno
  exact gno

theorem spec_l10Each_ok (w0 : World) (u : Unit_) (v1 : Value) (h1 : GT.rep (hp w0) [v1] u.codes) (pass : Str) :
    ConM Tryz.prog 75 [(.agg #[v1]), (.string ⟨(pass).b.toArray⟩)] w0 (spec_l10Each u pass) fun r v w' => ∃ (x1 : Value), v = (.tuple #[(.agg #[x1]), (.bool (r.2))]) ∧ Mem w0 (hp w0) w' [ow [x1] r.1.codes] := by
  unfold spec_l10Each
  refine gcon func75 rfl fun r => ?_
  have hm := Mem.start w0
  refine gS (gR (gBx hm rfl fun b0_1 w hm => gAl hm zeroValue30 rfl fun b0_2 w hm => gA rfl (gE (gS (gS (gR (gY (yn (hm.blk_at 1 rfl) isAgg30 sizeOf30 rfl) (gC hm rfl call67 (spec_UnitValid_ok _ u v1 (hm.now h1)) fun r0_1 hx0_1 w hm => gN rfl (gE (gsn 10 rfl (fun h0_1 => ?_) fun h0_1 => ?_))))))))))
  ·
   refine gct rfl (gS (gR (gY (yG rfl (y_build (vs := []) (cs := #[(.slice none 0 0)]) rfl rfl (by kernel_rfl))) (gSN hm 0 sizeOf30 (one_cons rfl one_nil) rfl fun w hm => gA rfl (gE (gRt ?_))))))
   replace hm := hm.nilow (α := Code_)
   exact grct 1 results75 hm rfl isAgg30 sizeOf30 ⟨(.slice none 0 0), rfl, hm.pk [0] rfl rfl⟩
  refine gcf rfl (gSk (gS (gR (gY (yG rfl (y_build (vs := []) (cs := #[(.slice none 0 0)]) rfl rfl (by kernel_rfl))) (gAl hm zeroValue30 rfl fun b0_3 w hm => gSN hm 0 sizeOf30 (one_cons rfl one_nil) rfl fun w hm => gE (gS (gS (gR (gA rfl (gE (gBk ?_)))))))))))
  replace hm := hm.nilow (α := Code_)
  refine gNg (fun i1_1 xs1_1 a w => ∃ (v1_1 : Value), St 37 [(1, (.string ⟨(pass).b.toArray⟩)), (2, (pV b0_1)), (4, (pV b0_2)), (6, (pV b0_3)), (7, (nV i1_1))] w0 (hp w0) [blk b0_1 [v1] 30, blk b0_2 [(.slice none 0 0)] 30, blk b0_3 [v1_1] 30, ow [v1_1] xs1_1] a w) (fun a hf => ⟨(.slice none 0 0), hf.sb rfl, hm.pk [3, 2, 1, 0] rfl rfl⟩) ?_ ?_
  ·
   repeat clear hm
   rintro _ _ i1_1 xs1_1 a w ⟨v1_1, hf, hm⟩ hi0_1 hi0_2 q0_1 _
   refine gv hf (gS (gS (gR (gM rfl (gF fo_30_0 rfl (gL hm 0 isAgg28 rfl ?_))))))
   obtain ⟨p1_1, c1_1, rfl, hl1_1⟩ := ro_slice h1
   refine gY (yV st_28 rfl) (gB rfl (gE (go _ 17 rfl (decide_eq_true (by omega)) (gct rfl (gSk (gS (gBk (gW (.p 0 (.p 2 (.p 4 (.p 7 (.q 1 (.e 3 (.p 5 (.e 6 (.e 8 (.e 9 (.e 10 (.p 11 (.e 12 .fin .nil)) .nil) .nil) .nil) .nil)) .nil)))))) [3, 6, 8, 9] [0, 2, 4, 5, 7, 11] hm [0, 1, 2, 3] [blk b0_1 [(.slice p1_1 u.codes.length c1_1)] 30, blk b0_2 [(.slice none 0 0)] 30, blk b0_3 [v1_1] 30, ow [v1_1] xs1_1] rfl mxo (by kernel_rfl) (fun _ _ _ h => h.2) fun w hm hS => tP rfl (fun w => yF fo_30_0 rfl) (tP rfl (fun w => yF fo_30_0 rfl) (tP rfl (fun w => yM rfl) (tP rfl (fun w => yM rfl) (tQ rfl hS (fun w hm => yL hm 2 isAgg28 rfl) (tO (tY rfl (yL hm 0 isAgg28 rfl) (tAs hS (gg fun x1_1 h1_1 hx1_2 => ?_))))))))))))))))
   obtain ⟨b1_1, o1_1, c1_2, he⟩ := idx_form' h1 hx1_2
   simp only [Value.slice.injEq, Option.some.injEq] at he; obtain ⟨rfl, _, rfl⟩ := he
   obtain ⟨v1_2, hc1_1, h1_2⟩ := rk_Code_ h1 hx1_2
   refine tP rfl (fun w => yI st_28 h1_1 (idx_lt hx1_2) rfl) (tO (tY rfl (yn (hc1_1.mono hm.lez) isAgg57 sizeOf57 rfl) (tAs hS (tO (gb fun r1_1 hx1_3 => tf rfl rfl (fun a hf => e_call hf rfl call118 rfl (spec_l10Turn_ok _ x1_1 v1_2 (hm.now h1_2) pass _ hx1_3)) ?_)))))
   rintro v1_3 w ⟨v1_4, rfl, hB⟩
   replace hm := hm.give hB; clear hB
   refine tAk hm [1, 2, 3, 4] rfl fun hS => tO (tf rfl rfl (fun a hf => e_build (vs := #[(0, (.agg #[(nV r1_1.params), (nV r1_1.regs), v1_4]))]) (cs := [(nV r1_1.params), (nV r1_1.regs), v1_4]) et_28 hf hm rfl rfl (by kernel_rfl) rfl rfl) ?_)
   rintro _ w ⟨b1_2, rfl, hm⟩
   replace hm := hm.els_nil (α := Code_)
   replace hm : Mem w0 (hp w0) _ [els [] ([] : List Code_), blk b1_2 [(nV r1_1.params), (nV r1_1.regs), v1_4] 57, ow [(nV r1_1.params), (nV r1_1.regs), v1_4] (r1_1 : Code_), blk b0_1 [(sV b1_1 o1_1 u.codes.length c1_1)] 30, blk b0_2 [(.slice none 0 0)] 30, blk b0_3 [v1_1] 30, ow [v1_1] xs1_1] := mk_Code_ r1_1.params r1_1.regs hm 2 rfl
   replace hm := (hm.els_cons 0 2 (by decide) rfl rfl).pk (L' := [els [(nV r1_1.params), (nV r1_1.regs), v1_4] ([r1_1] : List Code_), blk b1_2 [(nV r1_1.params), (nV r1_1.regs), v1_4] 57, blk b0_1 [(sV b1_1 o1_1 u.codes.length c1_1)] 30, blk b0_2 [(.slice none 0 0)] 30, blk b0_3 [v1_1] 30, ow [v1_1] xs1_1]) [0, 1, 3, 4, 5, 6] rfl rfl
   replace hm := (hm.lit_els 1 0 (by decide) rfl rfl rfl rfl).pk (L' := [ow [(sV b1_2 0 1 1)] ([r1_1] : List Code_), blk b0_1 [(sV b1_1 o1_1 u.codes.length c1_1)] 30, blk b0_2 [(.slice none 0 0)] 30, blk b0_3 [v1_1] 30, ow [v1_1] xs1_1]) [1, 2, 3, 4, 5] rfl rfl
   refine tAk hm [1, 2, 3, 4] rfl fun hS => tO (gb fun ys1_1 hx1_4 => ?_)
   obtain ⟨h1_3, h1_3e⟩ := appM_some.1 hx1_4
   replace hm := (hm.both 4 0 (by decide) rfl rfl).pk (L' := [blk b0_1 [(sV b1_1 o1_1 u.codes.length c1_1)] 30, blk b0_2 [(.slice none 0 0)] 30, blk b0_3 [v1_1] 30, both (ow [v1_1] xs1_1) (ow [(sV b1_2 0 1 1)] ([r1_1] : List Code_))]) [1, 2, 3, 4] rfl rfl
   refine tf rfl rfl (fun a hf => e_appendD (xs := xs1_1) (ys := ([r1_1] : List Code_)) 3 et_28 hf hm rfl rfl rfl rfl h1_3) ?_
   rintro v1_5 w hm
   rw [h1_3e] at hm
   refine tAn rfl (tP rfl (fun w => yF fo_30_0 rfl) (tO (tf0 rfl rfl (fun a hf => e_store1 2 hf hm rfl sizeOf28 rfl rfl rfl (rep_one (hm.ow_rep 3 rfl)) rfl) ?_)))
   rintro _ w hm
   exact tAn rfl (tE (gR (gM rfl (gP (by omega) (by omega) rfl (gA rfl (gE (gZe fun a hf => ⟨v1_5, hf.sb rfl, hm.pk [0, 1, 2, 3] rfl rfl⟩)))))))
  repeat clear hm
  rintro i0_1 xs0_1 a w ⟨v0_2, hf, hm⟩ hi0_3 hi0_4
  refine gv hf (gS (gS (gR (gM rfl (gF fo_30_0 rfl (gL hm 0 isAgg28 rfl ?_))))))
  obtain ⟨p0_1, c0_1, rfl, hl0_1⟩ := ro_slice h1
  refine gY (yV st_28 rfl) (gB rfl (gE (go _ 17 rfl (decide_eq_false (by omega)) (gcf rfl (gXt (gHh (gS (gS (gR (gY (yn (hm.blk_at 2 rfl) isAgg30 sizeOf30 rfl) (gC hm rfl call67 (spec_UnitValid_ok _ (⟨xs0_1⟩ : Unit_) v0_2 (hm.ow_rep 3 rfl)) fun r0_3 hx0_2 w hm => gN rfl (gE (gsn 34 rfl (fun h0_2 => ?_) fun h0_2 => ?_)))))))))))))
  ·
   refine gct rfl (gS (gR (gY (yG rfl (y_build (vs := []) (cs := #[(.slice none 0 0)]) rfl rfl (by kernel_rfl))) (gSN hm 1 sizeOf30 (one_cons rfl one_nil) rfl fun w hm => gA rfl (gE (gRt ?_))))))
   replace hm := hm.nilow (α := Code_)
   exact grct 2 results75 hm rfl isAgg30 sizeOf30 ⟨(.slice none 0 0), rfl, hm.pk [0] rfl rfl⟩
  exact gcf rfl (gSk (gS (gR (gY (yn (hm.blk_at 2 rfl) isAgg30 sizeOf30 rfl) (gSN hm 1 sizeOf30 (one_cons (rep_one (hm.ow_rep 3 rfl)) one_nil) rfl fun w hm => gA rfl (gE (gRt (grct 1 results75 hm rfl isAgg30 sizeOf30 ⟨v0_2, rfl, hm.pk [3] rfl rfl⟩))))))))

theorem spec_SplitEdges_ok (w0 : World) (u : Unit_) (v1 : Value) (h1 : GT.rep (hp w0) [v1] u.codes) :
    ConM Tryz.prog 36 [(.agg #[v1])] w0 (spec_SplitEdges u) fun r v w' => ∃ (x1 : Value), v = (.tuple #[(.agg #[x1]), (.bool (r.2))]) ∧ Mem w0 (hp w0) w' [ow [x1] r.1.codes] := by
  unfold spec_SplitEdges
  refine gcon func36 rfl fun r => ?_
  have hm := Mem.start w0
  refine gS (gR (gBx hm rfl fun b0_1 w hm => gAl hm zeroValue30 rfl fun b0_2 w hm => gA rfl (gE (gS (gR (gY (yn (hm.blk_at 1 rfl) isAgg30 sizeOf30 rfl) (gCg rfl call75 (spec_l10Each_ok _ u v1 (hm.now h1) (mkS [115, 112, 108, 105, 116])) ?_)))))))
  rintro r0_1 hx0_1 v0_1 w ⟨v0_2, rfl, hB⟩
  replace hm := hm.give hB; clear hB
  exact gX rfl (gX rfl (gSN hm 1 sizeOf30 (one_cons (rep_one (hm.ow_rep 0 rfl)) one_nil) rfl fun w hm => gA rfl (gE (gRt (grct 1 results36 hm rfl isAgg30 sizeOf30 ⟨v0_2, rfl, hm.pk [0] rfl rfl⟩)))))

theorem impl_within_ok (w0 : World) (n_ : Int) (low : Int) (high : Int) :
    ConM Tryz.prog 63 [(nV n_), (nV low), (nV high)] w0 (impl_within n_ low high) fun r v w' => v = (.bool (r)) ∧ Below w0.heap.size w0 w' := by
  unfold impl_within
  refine gcon func63 rfl fun r => ?_
  have hm := Mem.start w0
  refine gS (gR (gA rfl (gE (gS (gJ hm (fun s0_1 => [(6, (.bool (s0_1)))]) (fun s0_1 => []) (fun s0_1 => ?_) ?_)))))
  ·
   refine gR (gM rfl (gM rfl (gB rfl (gM rfl (gsd 10 rfl (fun h1_1 => ?_) fun h1_1 => ?_)))))
   ·
    exact gM rfl (gM rfl (gB rfl (gKt rfl (gA rfl (gE (gz hm [] rfl))))))
   exact gO rfl (gO rfl (gO rfl (gKf rfl (gA rfl (gE (gz hm [] rfl))))))
  repeat clear hm
  intro s0_1 w hm
  exact gRt (gr1 results63 rfl ⟨rfl, hm.below⟩)

theorem impl_codeOk_1_ok (w0 : World) (r_ : Int) (c0_ : Code_) (v1 : Value) (h1 : GT.rep (hp w0) [v1] c0_.blocks) (bf0 : Nat) (hbf0 : w0.heap[bf0]? = some (.cells ([(nV c0_.params), (nV c0_.regs), v1] : List Value).toArray 57 (0, 0))) :
    ConM Tryz.prog 228 [(nV r_), (pV bf0)] w0 (impl_codeOk_1 r_ c0_) fun r v w' => v = (.bool (r)) ∧ Below w0.heap.size w0 w' := by
  unfold impl_codeOk_1
  refine gcon func228 rfl fun r => ?_
  have hm := Mem.start w0
  exact gS (gR (gA rfl (gE (gS (gR (gM rfl (gF fo_57_1 rfl (gY (yl isAgg3 (hm.old_cell hbf0 rfl) rfl) (gB rfl (gC hm rfl call63 (impl_within_ok _ r_ 0 (w64 (c0_.regs - 1))) fun r0_1 hx0_1 w hm => gA rfl (gE (gRt (gr1 results228 rfl ⟨rfl, hm.below⟩)))))))))))))

theorem impl_nextCount_ok (w0 : World) (jump : Int) :
    ConM Tryz.prog 229 [(nV jump)] w0 (impl_nextCount jump) fun r v w' => v = (nV r) ∧ Below w0.heap.size w0 w' := by
  unfold impl_nextCount
  refine gcon func229 rfl fun r => ?_
  have hm := Mem.start w0
  refine gS (gR (gA rfl (gE (gS (gS (gR (gM rfl (gE (gBk (gS (gR (gB rfl (gA rfl (gE (gsd 4 rfl (fun h0_1 => ?_) fun h0_1 => ?_)))))))))))))))
  ·
   exact gct rfl (gS (gR (gA rfl (gE (gRt (gr1 results229 rfl ⟨rfl, hm.below⟩))))))
  refine gcf rfl (gS (gR (gB rfl (gA rfl (gE (gsd 6 rfl (fun h0_2 => ?_) fun h0_2 => ?_))))))
  ·
   exact gct rfl (gS (gR (gA rfl (gE (gRt (gr1 results229 rfl ⟨rfl, hm.below⟩))))))
  refine gcf rfl (gS (gR (gB rfl (gA rfl (gE (gsd 8 rfl (fun h0_3 => ?_) fun h0_3 => ?_))))))
  ·
   exact gct rfl (gS (gR (gA rfl (gE (gRt (gr1 results229 rfl ⟨rfl, hm.below⟩))))))
  exact gcf rfl (gSk (gS (gR (gA rfl (gE (gRt (gr1 results229 rfl ⟨rfl, hm.below⟩)))))))

theorem impl_usesOn_ok (w0 : World) (jump : Int) :
    ConM Tryz.prog 144 [(nV jump)] w0 (impl_usesOn jump) fun r v w' => v = (.bool (r)) ∧ Below w0.heap.size w0 w' := by
  unfold impl_usesOn
  refine gcon func144 rfl fun r => ?_
  have hm := Mem.start w0
  refine gS (gR (gA rfl (gE (gS (gJ hm (fun s0_1 => [(2, (.bool (s0_1)))]) (fun s0_1 => []) (fun s0_1 => ?_) ?_)))))
  ·
   refine gR (gM rfl (gB rfl (gM rfl (gsd 5 rfl (fun h1_1 => ?_) fun h1_1 => ?_))))
   ·
    exact gO rfl (gO rfl (gKt rfl (gA rfl (gE (gz hm [] rfl)))))
   exact gM rfl (gB rfl (gKf rfl (gA rfl (gE (gz hm [] rfl)))))
  repeat clear hm
  intro s0_1 w hm
  exact gRt (gr1 results144 rfl ⟨rfl, hm.below⟩)

theorem impl_codeOk_2_ok (w0 : World) (n_ : Int) (c0_ : Code_) (v1 : Value) (h1 : GT.rep (hp w0) [v1] c0_.blocks) (bf0 : Nat) (hbf0 : w0.heap[bf0]? = some (.cells ([(nV c0_.params), (nV c0_.regs), v1] : List Value).toArray 57 (0, 0))) :
    ConM Tryz.prog 230 [(nV n_), (pV bf0)] w0 (impl_codeOk_2 n_ c0_) fun r v w' => v = (.bool (r)) ∧ Below w0.heap.size w0 w' := by
  unfold impl_codeOk_2
  refine gcon func230 rfl fun r => ?_
  have hm := Mem.start w0
  refine gS (gR (gA rfl (gE (gS (gR (gM rfl (gF fo_57_2 rfl (gY (yl isAgg55 (hm.old_cell hbf0 rfl) rfl) ?_))))))))
  obtain ⟨p0_1, c0_1, rfl, hl0_1⟩ := ro_slice h1
  exact gY (yV st_55 rfl) (gY (yS (by omega) (by omega) rfl) (gC hm rfl call63 (impl_within_ok _ n_ 1 (((c0_.blocks.length : Int)) - 1)) fun r0_1 hx0_1 w hm => gN rfl (gA rfl (gE (gRt (gr1 results230 rfl ⟨rfl, hm.below⟩))))))

theorem slices_IndexFunc_S_int_int_ok (w0 : World) (s_ : List Int) (v1 : Value) (h1 : GT.rep (hp w0) [v1] s_) (f : Int → Option Bool) (fv1 : Value) (hfn1 : ∀ (w : World) (y0 : Int) (r : Bool), Below w0.heap.size w0 w → f y0 = some r → FnOk Tryz.prog fv1 [(nV y0)] w (fun v w' => v = (.bool (r)) ∧ Below w.heap.size w w')) :
    ConM Tryz.prog 103 [v1, fv1] w0 (slices_IndexFunc_S_int_int s_ f) fun r v w' => v = (nV r) ∧ Below w0.heap.size w0 w' := by
  unfold slices_IndexFunc_S_int_int
  refine gcon func103 rfl fun r => ?_
  have hm := Mem.start w0
  refine gS (gR (gA rfl (gE (gS (gS (gR (gM rfl ?_)))))))
  obtain ⟨p0_1, c0_1, rfl, hl0_1⟩ := ro_slice h1
  refine gY (yV st_37 rfl) (gM rfl (gE (gBk (gNf hm (fun i1_1 xs1_1 => [(0, (.slice p0_1 s_.length c0_1)), (1, fv1), (7, (nV ((s_.length : Int)))), (8, (nV i1_1))]) (fun i1_1 xs1_1 => []) [] rfl ?_ ?_))))
  ·
   repeat clear hm
   intro r0_1 hq0_1 i1_1 xs1_1 w hm hi0_1 hi0_2 q0_1 ho0_1
   refine gS (gR (gB rfl (gE (gS (go _ 9 rfl (decide_eq_true (by omega)) (gct rfl (gSk (gS (gBk (gS (gR (gM rfl (gA rfl (gE (gS (gR (gM rfl (gM rfl (gM rfl (gg fun x1_1 h1_1 hx1_2 => ?_))))))))))))))))))))
   obtain ⟨b1_1, o1_1, c1_1, he⟩ := idx_form h1 hx1_2
   simp only [Value.slice.injEq, Option.some.injEq] at he; obtain ⟨rfl, _, rfl⟩ := he
   refine gI st_37 h1_1 (idx_lt hx1_2) rfl (gY (yl isAgg3 ((flat_cells (cs := [(nV x1_1)]) (hm.now h1) hx1_2 rfl).cell (j := 0) rfl) rfl) (gb fun r1_1 hx1_3 => gf rfl (fun a hf => e_callv hf rfl rfl rfl (hfn1 _ x1_1 _ hm.below hx1_3)) ?_))
   rintro v1_1 w ⟨rfl, hB⟩
   replace hm := hm.below' hB; clear hB
   refine gE (gs 16 rfl (fun h1_2 => ?_) fun h1_2 => ?_)
   ·
    exact gct rfl (gS (gR (gM rfl (gA rfl (gE (gRt (gLr ho0_1 hq0_1 (gr1 results103 rfl ⟨rfl, hm.below⟩))))))))
   exact gcf rfl (gSk (gR (gP (by omega) (by omega) rfl (gM rfl (gE (gze hm [] rfl))))))
  repeat clear hm
  intro i0_1 xs0_1 w hm hi0_3 hi0_4
  exact gS (gR (gB rfl (gE (gS (go _ 9 rfl (decide_eq_false (by omega)) (gcf rfl (gXt (gHh (gS (gR (gA rfl (gE (gRt (gr1 results103 rfl ⟨rfl, hm.below⟩))))))))))))))

theorem slices_ContainsFunc_S_int_int_ok (w0 : World) (s_ : List Int) (v1 : Value) (h1 : GT.rep (hp w0) [v1] s_) (f : Int → Option Bool) (fv1 : Value) (hfn1 : ∀ (w : World) (y0 : Int) (r : Bool), Below w0.heap.size w0 w → f y0 = some r → FnOk Tryz.prog fv1 [(nV y0)] w (fun v w' => v = (.bool (r)) ∧ Below w.heap.size w w')) :
    ConM Tryz.prog 57 [v1, fv1] w0 (slices_ContainsFunc_S_int_int s_ f) fun r v w' => v = (.bool (r)) ∧ Below w0.heap.size w0 w' := by
  unfold slices_ContainsFunc_S_int_int
  refine gcon func57 rfl fun r => ?_
  have hm := Mem.start w0
  exact gS (gR (gA rfl (gE (gS (gR (gM rfl (gM rfl (gC hm rfl call103 (slices_IndexFunc_S_int_int_ok _ s_ v1 (hm.now h1) f fv1 (fun w y0 r hB hq => hfn1 w y0 r (hm.below.trans (hB.mono hm.below.size)) hq)) fun r0_1 hx0_1 w hm => gB rfl (gA rfl (gE (gRt (gr1 results57 rfl ⟨rfl, hm.below⟩))))))))))))

theorem impl_insOk_1_ok (w0 : World) (r_ : Int) (c0_ : Code_) (v1 : Value) (h1 : GT.rep (hp w0) [v1] c0_.blocks) (bf0 : Nat) (hbf0 : w0.heap[bf0]? = some (.cells ([(nV c0_.params), (nV c0_.regs), v1] : List Value).toArray 57 (0, 0))) :
    ConM Tryz.prog 280 [(nV r_), (pV bf0)] w0 (impl_insOk_1 r_ c0_) fun r v w' => v = (.bool (r)) ∧ Below w0.heap.size w0 w' := by
  unfold impl_insOk_1
  refine gcon func280 rfl fun r => ?_
  have hm := Mem.start w0
  exact gS (gR (gA rfl (gE (gS (gR (gM rfl (gF fo_57_1 rfl (gY (yl isAgg3 (hm.old_cell hbf0 rfl) rfl) (gB rfl (gC hm rfl call63 (impl_within_ok _ r_ 0 (w64 (c0_.regs - 1))) fun r0_1 hx0_1 w hm => gA rfl (gE (gRt (gr1 results280 rfl ⟨rfl, hm.below⟩)))))))))))))

theorem impl_isIns_ok (w0 : World) (op : Int) :
    ConM Tryz.prog 208 [(nV op)] w0 (impl_isIns op) fun r v w' => v = (.bool (r)) ∧ Below w0.heap.size w0 w' := by
  unfold impl_isIns
  refine gcon func208 rfl fun r => ?_
  have hm := Mem.start w0
  exact gS (gR (gA rfl (gE (gS (gR (gM rfl (gC hm rfl call63 (impl_within_ok _ op 1 14) fun r0_1 hx0_1 w hm => gA rfl (gE (gRt (gr1 results208 rfl ⟨rfl, hm.below⟩))))))))))

theorem impl_insOk_2_ok (w0 : World) (r_ : Int) (c0_0_ : Code_) (v1 : Value) (h1 : GT.rep (hp w0) [v1] c0_0_.blocks) (bf0_0 : Nat) (hbf0_0 : w0.heap[bf0_0]? = some (.cells ([(nV c0_0_.params), (nV c0_0_.regs), v1] : List Value).toArray 57 (0, 0))) (bf0 : Nat) (hbf0 : w0.heap[bf0]? = some (.cells ([(.func (.func 280) #[] #[(pV bf0_0)])] : List Value).toArray 68 (0, 0))) :
    ConM Tryz.prog 281 [(nV r_), (pV bf0)] w0 (impl_insOk_2 r_ c0_0_) fun r v w' => v = (.bool (r)) ∧ Below w0.heap.size w0 w' := by
  unfold impl_insOk_2
  refine gcon func281 rfl fun r => ?_
  have hm := Mem.start w0
  refine gS (gR (gA rfl (gE (gS (gR (gY (yl isAgg68 (hm.old_cell hbf0 rfl) rfl) (gM rfl (gb fun r0_1 hx0_1 => gf rfl (fun a hf => e_callv hf rfl rfl rfl ⟨280, [(pV bf0_0)], rfl, call280, impl_insOk_1_ok _ r_ c0_0_ v1 (rep_later (hm.now h1) (Below.refl _ _)) bf0_0 (hm.old_later hbf0_0 (Below.refl _ _)) _ hx0_1⟩) ?_))))))))
  rintro v0_1 w ⟨rfl, hB⟩
  replace hm := hm.below' hB; clear hB
  exact gN rfl (gA rfl (gE (gRt (gr1 results281 rfl ⟨rfl, hm.below⟩))))

end Go.Proofs.YtpllkdbmgcmklaaGreat
