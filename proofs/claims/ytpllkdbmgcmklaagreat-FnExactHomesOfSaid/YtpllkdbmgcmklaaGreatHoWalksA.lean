/- A part of the proof of FnExactHomesOfSaid. -/
import Derived.Test.YtpllkdbmgcmklaaGreatHoModels
import Derived.Test.YtpllkdbmgcmklaaGreatChecked
import Derived.Test.YtpllkdbmgcmklaaGreatHoCm
import Derived.Test.YtpllkdbmgcmklaaGreatHoLays
import Derived.Test.YtpllkdbmgcmklaaGreatWkAd
namespace Go.Proofs.YtpllkdbmgcmklaaGreat
open Go Go.Wk Go.RowKit
set_option maxRecDepth 4000
set_option maxHeartbeats 4000000

open Tryz
theorem mxo : Tryz.prog.follows .mixedOrders = true := by kernel_rfl
theorem fo_24_0 : FieldOff Tryz.prog 24 0 0 := by have h := FieldOff.mk (k := 0) underlying24 rfl sizeOf22; exact h
theorem fo_30_0 : FieldOff Tryz.prog 30 0 0 := by have h := FieldOff.mk (k := 0) underlying30 rfl sizeOf28; exact h
theorem fo_57_0 : FieldOff Tryz.prog 57 0 0 := by have h := FieldOff.mk (k := 0) underlying57 rfl sizeOf3; exact h
theorem fo_57_1 : FieldOff Tryz.prog 57 1 1 := by have h := FieldOff.mk (k := 1) underlying57 rfl sizeOf3; exact h
theorem fo_57_2 : FieldOff Tryz.prog 57 2 2 := by have h := FieldOff.mk (k := 2) underlying57 rfl sizeOf55; exact h
theorem fo_97_0 : FieldOff Tryz.prog 97 0 0 := by have h := FieldOff.mk (k := 0) underlying97 rfl sizeOf3; exact h
theorem fo_97_1 : FieldOff Tryz.prog 97 1 1 := by have h := FieldOff.mk (k := 1) underlying97 rfl sizeOf3; exact h
theorem fo_97_2 : FieldOff Tryz.prog 97 2 2 := by have h := FieldOff.mk (k := 2) underlying97 rfl sizeOf95; exact h
theorem fo_99_0 : FieldOff Tryz.prog 99 0 0 := by have h := FieldOff.mk (k := 0) underlying99 rfl sizeOf53; exact h
theorem fo_99_1 : FieldOff Tryz.prog 99 1 1 := by have h := FieldOff.mk (k := 1) underlying99 rfl sizeOf53; exact h
theorem fo_104_0 : FieldOff Tryz.prog 104 0 0 := by have h := FieldOff.mk (k := 0) underlying104 rfl sizeOf101; exact h
theorem fo_104_1 : FieldOff Tryz.prog 104 1 1 := by have h := FieldOff.mk (k := 1) underlying104 rfl sizeOf102; exact h
theorem fo_104_2 : FieldOff Tryz.prog 104 2 2 := by have h := FieldOff.mk (k := 2) underlying104 rfl sizeOf3; exact h
theorem fo_104_3 : FieldOff Tryz.prog 104 3 3 := by have h := FieldOff.mk (k := 3) underlying104 rfl sizeOf3; exact h
theorem fo_104_4 : FieldOff Tryz.prog 104 4 4 := by have h := FieldOff.mk (k := 4) underlying104 rfl sizeOf37; exact h
theorem fo_106_0 : FieldOff Tryz.prog 106 0 0 := by have h := FieldOff.mk (k := 0) underlying106 rfl sizeOf3; exact h
theorem fo_106_1 : FieldOff Tryz.prog 106 1 1 := by have h := FieldOff.mk (k := 1) underlying106 rfl sizeOf3; exact h
theorem fo_106_2 : FieldOff Tryz.prog 106 2 2 := by have h := FieldOff.mk (k := 2) underlying106 rfl sizeOf37; exact h
theorem fo_106_3 : FieldOff Tryz.prog 106 3 3 := by have h := FieldOff.mk (k := 3) underlying106 rfl sizeOf3; exact h
theorem fo_113_0 : FieldOff Tryz.prog 113 0 0 := by have h := FieldOff.mk (k := 0) underlying113 rfl sizeOf57; exact h
theorem fo_113_1 : FieldOff Tryz.prog 113 1 3 := by have h := FieldOff.mk (k := 1) underlying113 rfl sizeOf60; exact h
theorem fo_113_2 : FieldOff Tryz.prog 113 2 4 := by have h := FieldOff.mk (k := 2) underlying113 rfl sizeOf26; exact h
theorem fo_143_0 : FieldOff Tryz.prog 143 0 0 := by have h := FieldOff.mk (k := 0) underlying143 rfl sizeOf3; exact h
theorem fo_143_1 : FieldOff Tryz.prog 143 1 1 := by have h := FieldOff.mk (k := 1) underlying143 rfl sizeOf37; exact h
theorem fo_196_0 : FieldOff Tryz.prog 196 0 0 := by have h := FieldOff.mk (k := 0) underlying196 rfl sizeOf193; exact h
theorem fo_196_1 : FieldOff Tryz.prog 196 1 1 := by have h := FieldOff.mk (k := 1) underlying196 rfl sizeOf194; exact h
theorem fo_196_2 : FieldOff Tryz.prog 196 2 2 := by have h := FieldOff.mk (k := 2) underlying196 rfl sizeOf3; exact h
theorem fo_196_3 : FieldOff Tryz.prog 196 3 3 := by have h := FieldOff.mk (k := 3) underlying196 rfl sizeOf3; exact h
theorem fo_196_4 : FieldOff Tryz.prog 196 4 4 := by have h := FieldOff.mk (k := 4) underlying196 rfl sizeOf37; exact h
theorem fo_268_0 : FieldOff Tryz.prog 268 0 0 := by have h := FieldOff.mk (k := 0) underlying268 rfl sizeOf3; exact h
theorem fo_268_1 : FieldOff Tryz.prog 268 1 1 := by have h := FieldOff.mk (k := 1) underlying268 rfl sizeOf37; exact h
theorem fo_270_0 : FieldOff Tryz.prog 270 0 0 := by have h := FieldOff.mk (k := 0) underlying270 rfl sizeOf3; exact h
theorem fo_270_1 : FieldOff Tryz.prog 270 1 1 := by have h := FieldOff.mk (k := 1) underlying270 rfl sizeOf3; exact h
theorem fo_270_2 : FieldOff Tryz.prog 270 2 2 := by have h := FieldOff.mk (k := 2) underlying270 rfl sizeOf37; exact h
theorem fo_270_3 : FieldOff Tryz.prog 270 3 3 := by have h := FieldOff.mk (k := 3) underlying270 rfl sizeOf3; exact h
theorem st_22 : SliceTy Tryz.prog 22 97 3 := ⟨underlying22, sizeOf97⟩
theorem st_26 : SliceTy Tryz.prog 26 37 1 := ⟨underlying26, sizeOf37⟩
theorem st_28 : SliceTy Tryz.prog 28 57 3 := ⟨underlying28, sizeOf57⟩
theorem st_37 : SliceTy Tryz.prog 37 3 1 := ⟨underlying37, sizeOf3⟩
theorem st_53 : SliceTy Tryz.prog 53 58 1 := ⟨underlying53, sizeOf58⟩
theorem st_55 : SliceTy Tryz.prog 55 104 5 := ⟨underlying55, sizeOf104⟩
theorem st_58 : SliceTy Tryz.prog 58 4 1 := ⟨underlying58, sizeOf4⟩
theorem st_60 : SliceTy Tryz.prog 60 63 1 := ⟨underlying60, sizeOf63⟩
theorem st_95 : SliceTy Tryz.prog 95 196 5 := ⟨underlying95, sizeOf196⟩
theorem st_101 : SliceTy Tryz.prog 101 143 2 := ⟨underlying101, sizeOf143⟩
theorem st_102 : SliceTy Tryz.prog 102 106 4 := ⟨underlying102, sizeOf106⟩
theorem st_193 : SliceTy Tryz.prog 193 268 2 := ⟨underlying193, sizeOf268⟩
theorem st_194 : SliceTy Tryz.prog 194 270 4 := ⟨underlying194, sizeOf270⟩
theorem et_26 : ElemTy Tryz.prog 26 37 1 (.slice none 0 0) := ⟨underlying26, ⟨_, (by kernel_rfl : Tryz.prog.info? 37 = some t37), rfl, by decide, rfl⟩, rfl, by decide⟩
theorem et_28 : ElemTy Tryz.prog 28 57 3 (.agg #[(.int .i64 (0)), (.int .i64 (0)), (.slice none 0 0)]) := ⟨underlying28, ⟨_, (by kernel_rfl : Tryz.prog.info? 57 = some t57), rfl, by decide, rfl⟩, rfl, by decide⟩
theorem et_37 : ElemTy Tryz.prog 37 3 1 (.int .i64 (0)) := ⟨underlying37, ⟨_, (by kernel_rfl : Tryz.prog.info? 3 = some t3), rfl, by decide, rfl⟩, rfl, by decide⟩
theorem et_53 : ElemTy Tryz.prog 53 58 1 (.slice none 0 0) := ⟨underlying53, ⟨_, (by kernel_rfl : Tryz.prog.info? 58 = some t58), rfl, by decide, rfl⟩, rfl, by decide⟩
theorem et_55 : ElemTy Tryz.prog 55 104 5 (.agg #[(.slice none 0 0), (.slice none 0 0), (.int .i64 (0)), (.int .i64 (0)), (.slice none 0 0)]) := ⟨underlying55, ⟨_, (by kernel_rfl : Tryz.prog.info? 104 = some t104), rfl, by decide, rfl⟩, rfl, by decide⟩
theorem et_58 : ElemTy Tryz.prog 58 4 1 (.bool (false)) := ⟨underlying58, ⟨_, (by kernel_rfl : Tryz.prog.info? 4 = some t4), rfl, by decide, rfl⟩, rfl, by decide⟩
theorem et_60 : ElemTy Tryz.prog 60 63 1 (.map none) := ⟨underlying60, ⟨_, (by kernel_rfl : Tryz.prog.info? 63 = some t63), rfl, by decide, rfl⟩, rfl, by decide⟩
theorem et_101 : ElemTy Tryz.prog 101 143 2 (.agg #[(.int .i64 (0)), (.slice none 0 0)]) := ⟨underlying101, ⟨_, (by kernel_rfl : Tryz.prog.info? 143 = some t143), rfl, by decide, rfl⟩, rfl, by decide⟩
theorem et_102 : ElemTy Tryz.prog 102 106 4 (.agg #[(.int .i64 (0)), (.int .i64 (0)), (.slice none 0 0), (.int .i64 (0))]) := ⟨underlying102, ⟨_, (by kernel_rfl : Tryz.prog.info? 106 = some t106), rfl, by decide, rfl⟩, rfl, by decide⟩

theorem slB : SliceTy Tryz.prog 37 3 1 := ⟨underlying37, sizeOf3⟩

theorem back151 : Back2 Tryz.prog 151 := by
  intro xs b v lp J W hJ hY h0 kk
  refine jCon (args := [.func (.yield lp) #[] #[], .pointer (some ⟨b, 0, none⟩)]) func151 rfl ?_
  have hc := hJ 0 W h0
  obtain ⟨p, cap, hv, hlen⟩ := (rep_list.1 hc.2).len
  subst hv
  refine jS (jR (jY (yl isAgg37 hc.1 rfl) (jY (yV slB rfl) (jY (yS (by omega) (by omega) rfl) (jY (yA rfl) (jE ?_))))))
  refine jBk (jDn (I := fun j a w => ∃ k, k + j = xs.length ∧ Fr 19 [(0, .func (.yield lp) #[] #[]), (1, .pointer (some ⟨b, 0, none⟩)), (3, .int .i64 ((j : Int) - 1))] a ∧ J k w) xs.length
    (fun a hf => ⟨0, by omega, hf.sb rfl, h0⟩) (fun (a : Act) => match a.tmps[3]? with | some (Value.int _ i) => (i + 1).toNat | _ => 0) ?_ ?_ ?_)
  · rintro j a w ⟨k, _, hf, _⟩
    show (match a.tmps[3]? with | some (Value.int _ i) => (i + 1).toNat | _ => 0) = j
    rw [hf.get 3 _ rfl]
    show ((j : Int) - 1 + 1).toNat = j
    omega
  · rintro j a w ⟨k, hk, hf, hj⟩
    have hc := hJ k w hj
    have hd : j < xs.length := by omega
    obtain ⟨b2, off, cap2, e, hcell⟩ := rep_cell hc.2 hd
    have ej : ((j + 1 : Nat) : Int) - 1 = (j : Int) := by omega
    rw [ej] at hf
    have hc1 := hc.1
    rw [e] at hc1
    refine gv (m := some ()) (r := ()) hf ?_ rfl
    refine jS (jS (jR (jY (yM rfl) (jY (yB rfl) (jE (go _ 8 rfl (show decide ((j : Int) ≥ 0) = true from decide_eq_true (by omega)) (jCt rfl (jSk ?_))))))))
    refine jS (jBk (jS (jR (jY (yM rfl) (jY (yM rfl) (jY (yl isAgg37 hc1 rfl) (jY (yM rfl) (jY (yI slB (by omega) (show (j : Int).toNat < _ from hd) rfl) (jY (yl isAgg3 (show w.cell? ⟨b2, off + (j : Int).toNat * 1, none⟩ = _ from hcell) rfl) (jYd rfl (fun m => hY k j w hk hj m) fun w' hR => jY (yN rfl) (jE ?_)))))))))))
    refine jCf rfl (jSk (jR (jY (yM rfl) (jY (yS (by omega) (by omega) rfl) (jY (yA rfl) (jE ?_))))))
    exact fun _ a hf => ⟨k + 1, by omega, hf.sb rfl, hR⟩
  · rintro a w ⟨k, hk, hf, hj⟩
    refine gv (m := some ()) (r := ()) hf ?_ rfl
    refine jS (jS (jR (jY (yM rfl) (jY (yB rfl) (jE (go _ 8 rfl (show decide (((0 : Nat) : Int) - 1 ≥ 0) = false by decide) (jCf rfl (jXt (gHh (jEnd rfl ⟨⟨_, rfl⟩, ?_⟩))))))))))
    obtain rfl : k = xs.length := by omega
    exact hj

theorem back106 {w0 w : World} {hz : Heap} {L : List Ch} (hm : Mem w0 hz w L) {p : Option Addr} {n c : Nat} :
    Con Tryz.prog 106 [.slice p n c] w fun u w' => ∃ b, u = .func (.func 151) #[] #[.pointer (some ⟨b, 0, none⟩)] ∧ Mem w0 hz w' (blk b [.slice p n c] 37 :: L) :=
  gconr (ρ := Unit) (m := some ()) (r := ()) (R := fun _ u w' => ∃ b, u = .func (.func 151) #[] #[.pointer (some ⟨b, 0, none⟩)] ∧ Mem w0 hz w' (blk b [.slice p n c] 37 :: L)) func106 rfl rfl
    (gS (gR (gBx hm rfl fun b _ hm => gA rfl (gE (gS (gR (gY (yU rfl) (gA rfl (gE (gRt (gr1 rfl rfl ⟨b, rfl, hm⟩)))))))))))

theorem laws_szIntS_ok (w0 : World) (a_ : List Int) (v1 : Value) (h1 : GT.rep (hp w0) [v1] a_) (left : Int) :
    ConM Tryz.prog 268 [v1, (nV left)] w0 (laws_szIntS a_ left) fun r v w' => v = (nV r) ∧ Below w0.heap.size w0 w' := by
  unfold laws_szIntS
  refine gcon func268 rfl fun r => ?_
  have hm := Mem.start w0
  refine gS (gR (gA rfl (gE (gS (gR (gM rfl (gM rfl ?_)))))))
  obtain ⟨p0_1, c0_1, rfl, hl0_1⟩ := ro_slice h1
  refine gY (yV st_37 rfl) (gB rfl (gA rfl (gE (gS (gS (gR (gM rfl (gB rfl (gE (gsd 10 rfl (fun h0_1 => ?_) fun h0_1 => ?_))))))))))
  ·
   exact gct rfl (gS (gR (gA rfl (gE (gRt (gr1 results268 rfl ⟨rfl, hm.below⟩))))))
  exact gcf rfl (gSk (gS (gR (gM rfl (gA rfl (gE (gRt (gr1 results268 rfl ⟨rfl, hm.below⟩))))))))

theorem laws_szPhi_ok (w0 : World) (a_ : Phi_) (v1 : Value) (h1 : GT.rep (hp w0) [v1] a_.args) (left : Int) :
    ConM Tryz.prog 301 [(.agg #[(nV a_.to), v1]), (nV left)] w0 (laws_szPhi a_ left) fun r v w' => v = (nV r) ∧ Below w0.heap.size w0 w' := by
  unfold laws_szPhi
  refine gcon func301 rfl fun r => ?_
  have hm := Mem.start w0
  refine gS (gR (gBx hm rfl fun b0_1 w hm => gA rfl (gE (gS (gR (gF fo_268_1 rfl (gL hm 0 isAgg37 rfl (gM rfl (gC hm rfl call268 (laws_szIntS_ok _ a_.args v1 (hm.now h1) left) fun r0_1 hx0_1 w hm => gA rfl (gE (gS (gS (gR (gM rfl (gB rfl (gE (gsd 10 rfl (fun h0_1 => ?_) fun h0_1 => ?_)))))))))))))))))
  ·
   exact gct rfl (gS (gR (gA rfl (gE (gRt (gr1 results301 rfl ⟨rfl, hm.below⟩))))))
  exact gcf rfl (gSk (gS (gR (gM rfl (gA rfl (gE (gRt (gr1 results301 rfl ⟨rfl, hm.below⟩))))))))

theorem laws_szPhiS_ok (w0 : World) (a_ : List Phi_) (v1 : Value) (h1 : GT.rep (hp w0) [v1] a_) (left : Int) :
    ConM Tryz.prog 266 [v1, (nV left)] w0 (laws_szPhiS a_ left) fun r v w' => v = (nV r) ∧ Below w0.heap.size w0 w' := by
  unfold laws_szPhiS
  refine gcon func266 rfl fun r => ?_
  have hm := Mem.start w0
  refine gS (gR (gA rfl (gE (gS (gR (gM rfl (gM rfl ?_)))))))
  obtain ⟨p0_1, c0_1, rfl, hl0_1⟩ := ro_slice h1
  refine gY (yV st_193 rfl) (gB rfl (gA rfl (gE (gS (gS (gR (gM rfl (gB rfl (gE (gsd 11 rfl (fun h0_1 => ?_) fun h0_1 => ?_))))))))))
  ·
   exact gct rfl (gS (gR (gA rfl (gE (gRt (gr1 results266 rfl ⟨rfl, hm.below⟩))))))
  refine gcf rfl (gSk (gS (gS (gR (gA rfl (gE (gBk (gNg (fun i1_1 xs1_1 a w => 0 ≤ xs1_1 ∧ St 27 [(0, (.slice p0_1 a_.length c0_1)), (1, (nV xs1_1)), (5, (nV i1_1))] w0 (hp w0) [] a w) (fun a hf => ⟨(by first | omega | (dsimp only; omega)), hf.sb rfl, hm.pk [] rfl rfl⟩) ?_ ?_))))))))
  ·
   repeat clear hm
   rintro r0_1 hq0_1 i1_1 xs1_1 a w ⟨hn0_1, hf, hm⟩ hi0_1 hi0_2 q0_1 ho0_1
   refine gv hf (gS (gS (gR (gM rfl (gM rfl (gY (yV st_193 rfl) (gB rfl (gE (go _ 15 rfl (decide_eq_true (by omega)) (gct rfl (gSk (gS (gBk (gS (gR (gM rfl (gM rfl (gg fun x1_1 h1_1 hx1_2 => ?_))))))))))))))))))
   obtain ⟨b1_1, o1_1, c1_1, he⟩ := idx_form' h1 hx1_2
   simp only [Value.slice.injEq, Option.some.injEq] at he; obtain ⟨rfl, _, rfl⟩ := he
   obtain ⟨v1_1, hc1_1, h1_2⟩ := rk_Phi_ h1 hx1_2
   refine gI st_193 h1_1 (idx_lt hx1_2) rfl (gY (yn (hc1_1.mono hm.lez) isAgg268 sizeOf268 rfl) (gM rfl (gC hm rfl call301 (laws_szPhi_ok _ x1_1 v1_1 (hm.now h1_2) xs1_1) fun r1_1 hx1_3 w hm => gA rfl (gE (gS (gR (gM rfl (gB rfl (gE (gsd 25 rfl (fun h1_3 => ?_) fun h1_3 => ?_))))))))))
   ·
    exact gct rfl (gS (gR (gA rfl (gE (gRt (gLr ho0_1 hq0_1 (gr1 results266 rfl ⟨rfl, hm.below⟩)))))))
   exact gcf rfl (gSk (gR (gM rfl (gP (by omega) (by omega) rfl (gA rfl (gE (gZe fun a hf => ⟨(by first | omega | (dsimp only; omega)), hf.sb rfl, hm.pk [] rfl rfl⟩)))))))
  repeat clear hm
  rintro i0_1 xs0_1 a w ⟨hn0_2, hf, hm⟩ hi0_3 hi0_4
  exact gv hf (gS (gS (gR (gM rfl (gM rfl (gY (yV st_193 rfl) (gB rfl (gE (go _ 15 rfl (decide_eq_false (by omega)) (gcf rfl (gXt (gHh (gS (gR (gM rfl (gA rfl (gE (gRt (gr1 results266 rfl ⟨rfl, hm.below⟩)))))))))))))))))))

theorem laws_szIns_ok (w0 : World) (a_ : Ins_) (v1 : Value) (h1 : GT.rep (hp w0) [v1] a_.args) (left : Int) :
    ConM Tryz.prog 302 [(.agg #[(nV a_.op), (nV a_.to), v1, (nV a_.n_)]), (nV left)] w0 (laws_szIns a_ left) fun r v w' => v = (nV r) ∧ Below w0.heap.size w0 w' := by
  unfold laws_szIns
  refine gcon func302 rfl fun r => ?_
  have hm := Mem.start w0
  refine gS (gR (gBx hm rfl fun b0_1 w hm => gA rfl (gE (gS (gR (gF fo_270_2 rfl (gL hm 0 isAgg37 rfl (gM rfl (gC hm rfl call268 (laws_szIntS_ok _ a_.args v1 (hm.now h1) left) fun r0_1 hx0_1 w hm => gA rfl (gE (gS (gS (gR (gM rfl (gB rfl (gE (gsd 10 rfl (fun h0_1 => ?_) fun h0_1 => ?_)))))))))))))))))
  ·
   exact gct rfl (gS (gR (gA rfl (gE (gRt (gr1 results302 rfl ⟨rfl, hm.below⟩))))))
  exact gcf rfl (gSk (gS (gR (gM rfl (gA rfl (gE (gRt (gr1 results302 rfl ⟨rfl, hm.below⟩))))))))

theorem laws_szInsS_ok (w0 : World) (a_ : List Ins_) (v1 : Value) (h1 : GT.rep (hp w0) [v1] a_) (left : Int) :
    ConM Tryz.prog 267 [v1, (nV left)] w0 (laws_szInsS a_ left) fun r v w' => v = (nV r) ∧ Below w0.heap.size w0 w' := by
  unfold laws_szInsS
  refine gcon func267 rfl fun r => ?_
  have hm := Mem.start w0
  refine gS (gR (gA rfl (gE (gS (gR (gM rfl (gM rfl ?_)))))))
  obtain ⟨p0_1, c0_1, rfl, hl0_1⟩ := ro_slice h1
  refine gY (yV st_194 rfl) (gB rfl (gA rfl (gE (gS (gS (gR (gM rfl (gB rfl (gE (gsd 11 rfl (fun h0_1 => ?_) fun h0_1 => ?_))))))))))
  ·
   exact gct rfl (gS (gR (gA rfl (gE (gRt (gr1 results267 rfl ⟨rfl, hm.below⟩))))))
  refine gcf rfl (gSk (gS (gS (gR (gA rfl (gE (gBk (gNg (fun i1_1 xs1_1 a w => 0 ≤ xs1_1 ∧ St 27 [(0, (.slice p0_1 a_.length c0_1)), (1, (nV xs1_1)), (5, (nV i1_1))] w0 (hp w0) [] a w) (fun a hf => ⟨(by first | omega | (dsimp only; omega)), hf.sb rfl, hm.pk [] rfl rfl⟩) ?_ ?_))))))))
  ·
   repeat clear hm
   rintro r0_1 hq0_1 i1_1 xs1_1 a w ⟨hn0_1, hf, hm⟩ hi0_1 hi0_2 q0_1 ho0_1
   refine gv hf (gS (gS (gR (gM rfl (gM rfl (gY (yV st_194 rfl) (gB rfl (gE (go _ 15 rfl (decide_eq_true (by omega)) (gct rfl (gSk (gS (gBk (gS (gR (gM rfl (gM rfl (gg fun x1_1 h1_1 hx1_2 => ?_))))))))))))))))))
   obtain ⟨b1_1, o1_1, c1_1, he⟩ := idx_form' h1 hx1_2
   simp only [Value.slice.injEq, Option.some.injEq] at he; obtain ⟨rfl, _, rfl⟩ := he
   obtain ⟨v1_1, hc1_1, h1_2⟩ := rk_Ins_ h1 hx1_2
   refine gI st_194 h1_1 (idx_lt hx1_2) rfl (gY (yn (hc1_1.mono hm.lez) isAgg270 sizeOf270 rfl) (gM rfl (gC hm rfl call302 (laws_szIns_ok _ x1_1 v1_1 (hm.now h1_2) xs1_1) fun r1_1 hx1_3 w hm => gA rfl (gE (gS (gR (gM rfl (gB rfl (gE (gsd 25 rfl (fun h1_3 => ?_) fun h1_3 => ?_))))))))))
   ·
    exact gct rfl (gS (gR (gA rfl (gE (gRt (gLr ho0_1 hq0_1 (gr1 results267 rfl ⟨rfl, hm.below⟩)))))))
   exact gcf rfl (gSk (gR (gM rfl (gP (by omega) (by omega) rfl (gA rfl (gE (gZe fun a hf => ⟨(by first | omega | (dsimp only; omega)), hf.sb rfl, hm.pk [] rfl rfl⟩)))))))
  repeat clear hm
  rintro i0_1 xs0_1 a w ⟨hn0_2, hf, hm⟩ hi0_3 hi0_4
  exact gv hf (gS (gS (gR (gM rfl (gM rfl (gY (yV st_194 rfl) (gB rfl (gE (go _ 15 rfl (decide_eq_false (by omega)) (gcf rfl (gXt (gHh (gS (gR (gM rfl (gA rfl (gE (gRt (gr1 results267 rfl ⟨rfl, hm.below⟩)))))))))))))))))))

theorem laws_szBlock_ok (w0 : World) (a_ : Block_) (v1 : Value) (h1 : GT.rep (hp w0) [v1] a_.phis) (v2 : Value) (h2 : GT.rep (hp w0) [v2] a_.ins) (v3 : Value) (h3 : GT.rep (hp w0) [v3] a_.next_) (left : Int) :
    ConM Tryz.prog 205 [(.agg #[v1, v2, (nV a_.jump), (nV a_.on), v3]), (nV left)] w0 (laws_szBlock a_ left) fun r v w' => v = (nV r) ∧ Below w0.heap.size w0 w' := by
  unfold laws_szBlock
  refine gcon func205 rfl fun r => ?_
  have hm := Mem.start w0
  refine gS (gR (gBx hm rfl fun b0_1 w hm => gA rfl (gE (gS (gR (gF fo_196_0 rfl (gL hm 0 isAgg193 rfl (gM rfl (gC hm rfl call266 (laws_szPhiS_ok _ a_.phis v1 (hm.now h1) left) fun r0_1 hx0_1 w hm => gA rfl (gE (gS (gS (gR (gM rfl (gB rfl (gE (gsd 10 rfl (fun h0_1 => ?_) fun h0_1 => ?_)))))))))))))))))
  ·
   exact gct rfl (gS (gR (gA rfl (gE (gRt (gr1 results205 rfl ⟨rfl, hm.below⟩))))))
  refine gcf rfl (gSk (gS (gR (gF fo_196_1 rfl (gL hm 0 isAgg194 rfl (gM rfl (gC hm rfl call267 (laws_szInsS_ok _ a_.ins v2 (hm.now h2) r0_1) fun r0_2 hx0_2 w hm => gA rfl (gE (gS (gS (gR (gM rfl (gB rfl (gE (gsd 16 rfl (fun h0_2 => ?_) fun h0_2 => ?_)))))))))))))))
  ·
   exact gct rfl (gS (gR (gA rfl (gE (gRt (gr1 results205 rfl ⟨rfl, hm.below⟩))))))
  refine gcf rfl (gSk (gS (gR (gF fo_196_4 rfl (gL hm 0 isAgg37 rfl (gM rfl (gC hm rfl call268 (laws_szIntS_ok _ a_.next_ v3 (hm.now h3) r0_2) fun r0_3 hx0_3 w hm => gA rfl (gE (gS (gS (gR (gM rfl (gB rfl (gE (gsd 22 rfl (fun h0_3 => ?_) fun h0_3 => ?_)))))))))))))))
  ·
   exact gct rfl (gS (gR (gA rfl (gE (gRt (gr1 results205 rfl ⟨rfl, hm.below⟩))))))
  exact gcf rfl (gSk (gS (gR (gM rfl (gA rfl (gE (gRt (gr1 results205 rfl ⟨rfl, hm.below⟩))))))))

theorem laws_szBlockS_ok (w0 : World) (a_ : List Block_) (v1 : Value) (h1 : GT.rep (hp w0) [v1] a_) (left : Int) :
    ConM Tryz.prog 136 [v1, (nV left)] w0 (laws_szBlockS a_ left) fun r v w' => v = (nV r) ∧ Below w0.heap.size w0 w' := by
  unfold laws_szBlockS
  refine gcon func136 rfl fun r => ?_
  have hm := Mem.start w0
  refine gS (gR (gA rfl (gE (gS (gR (gM rfl (gM rfl ?_)))))))
  obtain ⟨p0_1, c0_1, rfl, hl0_1⟩ := ro_slice h1
  refine gY (yV st_95 rfl) (gB rfl (gA rfl (gE (gS (gS (gR (gM rfl (gB rfl (gE (gsd 11 rfl (fun h0_1 => ?_) fun h0_1 => ?_))))))))))
  ·
   exact gct rfl (gS (gR (gA rfl (gE (gRt (gr1 results136 rfl ⟨rfl, hm.below⟩))))))
  refine gcf rfl (gSk (gS (gS (gR (gA rfl (gE (gBk (gNg (fun i1_1 xs1_1 a w => 0 ≤ xs1_1 ∧ St 27 [(0, (.slice p0_1 a_.length c0_1)), (1, (nV xs1_1)), (5, (nV i1_1))] w0 (hp w0) [] a w) (fun a hf => ⟨(by first | omega | (dsimp only; omega)), hf.sb rfl, hm.pk [] rfl rfl⟩) ?_ ?_))))))))
  ·
   repeat clear hm
   rintro r0_1 hq0_1 i1_1 xs1_1 a w ⟨hn0_1, hf, hm⟩ hi0_1 hi0_2 q0_1 ho0_1
   refine gv hf (gS (gS (gR (gM rfl (gM rfl (gY (yV st_95 rfl) (gB rfl (gE (go _ 15 rfl (decide_eq_true (by omega)) (gct rfl (gSk (gS (gBk (gS (gR (gM rfl (gM rfl (gg fun x1_1 h1_1 hx1_2 => ?_))))))))))))))))))
   obtain ⟨b1_1, o1_1, c1_1, he⟩ := idx_form' h1 hx1_2
   simp only [Value.slice.injEq, Option.some.injEq] at he; obtain ⟨rfl, _, rfl⟩ := he
   obtain ⟨v1_1, v1_2, v1_3, hc1_1, h1_2, h1_3, h1_4⟩ := rk_Block_ h1 hx1_2
   refine gI st_95 h1_1 (idx_lt hx1_2) rfl (gY (yn (hc1_1.mono hm.lez) isAgg196 sizeOf196 rfl) (gM rfl (gC hm rfl call205 (laws_szBlock_ok _ x1_1 v1_1 (hm.now h1_2) v1_2 (hm.now h1_3) v1_3 (hm.now h1_4) xs1_1) fun r1_1 hx1_3 w hm => gA rfl (gE (gS (gR (gM rfl (gB rfl (gE (gsd 25 rfl (fun h1_5 => ?_) fun h1_5 => ?_))))))))))
   ·
    exact gct rfl (gS (gR (gA rfl (gE (gRt (gLr ho0_1 hq0_1 (gr1 results136 rfl ⟨rfl, hm.below⟩)))))))
   exact gcf rfl (gSk (gR (gM rfl (gP (by omega) (by omega) rfl (gA rfl (gE (gZe fun a hf => ⟨(by first | omega | (dsimp only; omega)), hf.sb rfl, hm.pk [] rfl rfl⟩)))))))
  repeat clear hm
  rintro i0_1 xs0_1 a w ⟨hn0_2, hf, hm⟩ hi0_3 hi0_4
  exact gv hf (gS (gS (gR (gM rfl (gM rfl (gY (yV st_95 rfl) (gB rfl (gE (go _ 15 rfl (decide_eq_false (by omega)) (gcf rfl (gXt (gHh (gS (gR (gM rfl (gA rfl (gE (gRt (gr1 results136 rfl ⟨rfl, hm.below⟩)))))))))))))))))))

theorem laws_szCode_ok (w0 : World) (a_ : Code_) (v1 : Value) (h1 : GT.rep (hp w0) [v1] a_.blocks) (left : Int) :
    ConM Tryz.prog 88 [(.agg #[(nV a_.params), (nV a_.regs), v1]), (nV left)] w0 (laws_szCode a_ left) fun r v w' => v = (nV r) ∧ Below w0.heap.size w0 w' := by
  unfold laws_szCode
  refine gcon func88 rfl fun r => ?_
  have hm := Mem.start w0
  refine gS (gR (gBx hm rfl fun b0_1 w hm => gA rfl (gE (gS (gR (gF fo_97_2 rfl (gL hm 0 isAgg95 rfl (gM rfl (gC hm rfl call136 (laws_szBlockS_ok _ a_.blocks v1 (hm.now h1) left) fun r0_1 hx0_1 w hm => gA rfl (gE (gS (gS (gR (gM rfl (gB rfl (gE (gsd 10 rfl (fun h0_1 => ?_) fun h0_1 => ?_)))))))))))))))))
  ·
   exact gct rfl (gS (gR (gA rfl (gE (gRt (gr1 results88 rfl ⟨rfl, hm.below⟩))))))
  exact gcf rfl (gSk (gS (gR (gM rfl (gA rfl (gE (gRt (gr1 results88 rfl ⟨rfl, hm.below⟩))))))))

theorem laws_szCodeS_ok (w0 : World) (a_ : List Code_) (v1 : Value) (h1 : GT.rep (hp w0) [v1] a_) (left : Int) :
    ConM Tryz.prog 48 [v1, (nV left)] w0 (laws_szCodeS a_ left) fun r v w' => v = (nV r) ∧ Below w0.heap.size w0 w' := by
  unfold laws_szCodeS
  refine gcon func48 rfl fun r => ?_
  have hm := Mem.start w0
  refine gS (gR (gA rfl (gE (gS (gR (gM rfl (gM rfl ?_)))))))
  obtain ⟨p0_1, c0_1, rfl, hl0_1⟩ := ro_slice h1
  refine gY (yV st_22 rfl) (gB rfl (gA rfl (gE (gS (gS (gR (gM rfl (gB rfl (gE (gsd 11 rfl (fun h0_1 => ?_) fun h0_1 => ?_))))))))))
  ·
   exact gct rfl (gS (gR (gA rfl (gE (gRt (gr1 results48 rfl ⟨rfl, hm.below⟩))))))
  refine gcf rfl (gSk (gS (gS (gR (gA rfl (gE (gBk (gNg (fun i1_1 xs1_1 a w => 0 ≤ xs1_1 ∧ St 27 [(0, (.slice p0_1 a_.length c0_1)), (1, (nV xs1_1)), (5, (nV i1_1))] w0 (hp w0) [] a w) (fun a hf => ⟨(by first | omega | (dsimp only; omega)), hf.sb rfl, hm.pk [] rfl rfl⟩) ?_ ?_))))))))
  ·
   repeat clear hm
   rintro r0_1 hq0_1 i1_1 xs1_1 a w ⟨hn0_1, hf, hm⟩ hi0_1 hi0_2 q0_1 ho0_1
   refine gv hf (gS (gS (gR (gM rfl (gM rfl (gY (yV st_22 rfl) (gB rfl (gE (go _ 15 rfl (decide_eq_true (by omega)) (gct rfl (gSk (gS (gBk (gS (gR (gM rfl (gM rfl (gg fun x1_1 h1_1 hx1_2 => ?_))))))))))))))))))
   obtain ⟨b1_1, o1_1, c1_1, he⟩ := idx_form' h1 hx1_2
   simp only [Value.slice.injEq, Option.some.injEq] at he; obtain ⟨rfl, _, rfl⟩ := he
   obtain ⟨v1_1, hc1_1, h1_2⟩ := rk_Code_ h1 hx1_2
   refine gI st_22 h1_1 (idx_lt hx1_2) rfl (gY (yn (hc1_1.mono hm.lez) isAgg97 sizeOf97 rfl) (gM rfl (gC hm rfl call88 (laws_szCode_ok _ x1_1 v1_1 (hm.now h1_2) xs1_1) fun r1_1 hx1_3 w hm => gA rfl (gE (gS (gR (gM rfl (gB rfl (gE (gsd 25 rfl (fun h1_3 => ?_) fun h1_3 => ?_))))))))))
   ·
    exact gct rfl (gS (gR (gA rfl (gE (gRt (gLr ho0_1 hq0_1 (gr1 results48 rfl ⟨rfl, hm.below⟩)))))))
   exact gcf rfl (gSk (gR (gM rfl (gP (by omega) (by omega) rfl (gA rfl (gE (gZe fun a hf => ⟨(by first | omega | (dsimp only; omega)), hf.sb rfl, hm.pk [] rfl rfl⟩)))))))
  repeat clear hm
  rintro i0_1 xs0_1 a w ⟨hn0_2, hf, hm⟩ hi0_3 hi0_4
  exact gv hf (gS (gS (gR (gM rfl (gM rfl (gY (yV st_22 rfl) (gB rfl (gE (go _ 15 rfl (decide_eq_false (by omega)) (gcf rfl (gXt (gHh (gS (gR (gM rfl (gA rfl (gE (gRt (gr1 results48 rfl ⟨rfl, hm.below⟩)))))))))))))))))))

theorem laws_szUnit_ok (w0 : World) (a_ : Unit_) (v1 : Value) (h1 : GT.rep (hp w0) [v1] a_.codes) (left : Int) :
    ConM Tryz.prog 14 [(.agg #[v1]), (nV left)] w0 (laws_szUnit a_ left) fun r v w' => v = (nV r) ∧ Below w0.heap.size w0 w' := by
  unfold laws_szUnit
  refine gcon func14 rfl fun r => ?_
  have hm := Mem.start w0
  refine gS (gR (gBx hm rfl fun b0_1 w hm => gA rfl (gE (gS (gR (gF fo_24_0 rfl (gL hm 0 isAgg22 rfl (gM rfl (gC hm rfl call48 (laws_szCodeS_ok _ a_.codes v1 (hm.now h1) left) fun r0_1 hx0_1 w hm => gA rfl (gE (gS (gS (gR (gM rfl (gB rfl (gE (gsd 10 rfl (fun h0_1 => ?_) fun h0_1 => ?_)))))))))))))))))
  ·
   exact gct rfl (gS (gR (gA rfl (gE (gRt (gr1 results14 rfl ⟨rfl, hm.below⟩))))))
  exact gcf rfl (gSk (gS (gR (gM rfl (gA rfl (gE (gRt (gr1 results14 rfl ⟨rfl, hm.below⟩))))))))

theorem laws_toIntS_ok (w0 : World) (a_ : List Int) (v1 : Value) (h1 : GT.rep (hp w0) [v1] a_) :
    ConM Tryz.prog 24 [v1] w0 (laws_toIntS a_) fun r v w' => ∃ (x1 : Value), v = x1 ∧ Mem w0 (hp w0) w' [ow [x1] r] := by
  unfold laws_toIntS
  refine gcon func24 rfl fun r => ?_
  have hm := Mem.start w0
  refine gS (gR (gA rfl (gE (gS (gR (gM rfl ?_))))))
  obtain ⟨p0_1, c0_1, rfl, hl0_1⟩ := ro_slice h1
  refine gY (yV st_37 rfl) (gb fun ys0_1 hx0_1 => ?_)
  obtain ⟨⟨h0_11, h0_12⟩, h0_1e⟩ := makeM_some.1 hx0_1
  refine gf rfl (fun a hf => e_make (x0 := (0 : Int)) et_37 (fun _ => (Flat.own_iff.2 rfl)) hf hm rfl rfl rfl h0_11 (Int.le_refl _) h0_12) ?_
  rintro v0_1 w hm
  rw [h0_1e] at hm
  have h0_1l : (ys0_1.length : Int) = (a_.length : Int) := by rw [← h0_1e]; simp only [List.length_replicate]; omega
  refine gA rfl (gE (gS (gS (gR (gA rfl (gE ?_))))))
  obtain ⟨p0_2, c0_2, rfl, hl0_2⟩ := ro_slice (hm.ow_rep 0 rfl)
  refine gBk (gNf hm (fun i1_1 xs1_1 => [(0, (.slice p0_1 a_.length c0_1)), (3, (.slice p0_2 ys0_1.length c0_2)), (4, (nV i1_1))]) (fun i1_1 xs1_1 => [ow [(.slice p0_2 ys0_1.length c0_2)] xs1_1]) [0] rfl ?_ ?_)
  ·
   repeat clear hm
   intro _ _ i1_1 xs1_1 w hm hi0_1 hi0_2 q0_1 _
   refine gS (gS (gR (gM rfl (gM rfl (gY (yV st_37 rfl) (gB rfl (gE (go _ 11 rfl (decide_eq_true (by omega)) (gct rfl (gSk (gS (gBk (gR (gM rfl (gM rfl (gM rfl (gM rfl (gg fun x1_1 h1_1 hx1_2 => ?_))))))))))))))))))
   obtain ⟨b1_1, o1_1, c1_1, he⟩ := idx_form h1 hx1_2
   simp only [Value.slice.injEq, Option.some.injEq] at he; obtain ⟨rfl, _, rfl⟩ := he
   refine gI st_37 h1_1 (idx_lt hx1_2) rfl (gY (yl isAgg3 ((flat_cells (cs := [(nV x1_1)]) (hm.now h1) hx1_2 rfl).cell (j := 0) rfl) rfl) (gg fun x1_2 h1_2 hx1_4 => ?_))
   obtain ⟨b1_2, o1_2, c1_2, he⟩ := idx_form (hm.ow_rep 0 rfl) hx1_4
   simp only [Value.slice.injEq, Option.some.injEq] at he; obtain ⟨rfl, _, rfl⟩ := he
   have hL1_1 := rep_slice_len (hm.ow_rep 0 rfl)
   refine gI st_37 h1_2 (idx_lt2 hx1_4 hL1_1) rfl (gf0 rfl (fun a hf => e_setElem (x1 := x1_1) (j := 0) (vs := [(nV x1_1)]) 0 hf hm rfl hx1_4 rfl sizeOf3 rfl rfl rfl (one_cons rfl one_nil) rfl rfl) ?_)
   rintro _ w hm
   have hx1_5 := List.getElem?_set_self (a := x1_1) (idx_lt hx1_4)
   exact gE (gR (gM rfl (gP (by omega) (by omega) rfl (gA rfl (gE (gze hm [0] rfl))))))
  repeat clear hm
  intro i0_1 xs0_1 w hm hi0_3 hi0_4
  exact gS (gS (gR (gM rfl (gM rfl (gY (yV st_37 rfl) (gB rfl (gE (go _ 11 rfl (decide_eq_false (by omega)) (gcf rfl (gXt (gHh (gS (gR (gM rfl (gA rfl (gE (gRt (gr1 results24 rfl ⟨(.slice p0_2 ys0_1.length c0_2), rfl, hm.pk [0] rfl rfl⟩))))))))))))))))))

theorem laws_toPhi_ok (w0 : World) (a_ : Phi_) (v1 : Value) (h1 : GT.rep (hp w0) [v1] a_.args) :
    ConM Tryz.prog 303 [(.agg #[(nV a_.to), v1])] w0 (laws_toPhi a_) fun r v w' => ∃ (x1 : Value), v = (.agg #[(nV r.to), x1]) ∧ Mem w0 (hp w0) w' [ow [x1] r.args] := by
  unfold laws_toPhi
  refine gcon func303 rfl fun r => ?_
  have hm := Mem.start w0
  refine gS (gR (gBx hm rfl fun b0_1 w hm => gAl hm zeroValue143 rfl fun b0_2 w hm => gE (gS (gR (gAl hm zeroValue143 rfl fun b0_3 w hm => gE (gS (gR (gF fo_268_0 rfl (gL hm 2 isAgg3 rfl (gF fo_143_0 rfl (gS1 hm 0 sizeOf3 rfl rfl fun w hm => gE (gS (gR (gF fo_268_1 rfl (gL hm 2 isAgg37 rfl (gCg rfl call24 (laws_toIntS_ok _ a_.args v1 (hm.now h1)) ?_))))))))))))))))
  rintro r0_1 hx0_1 v0_1 w ⟨_, rfl, hB⟩
  replace hm := hm.give hB; clear hB
  exact gF fo_143_1 rfl (gS1 hm 1 sizeOf37 (rep_one (hm.ow_rep 0 rfl)) rfl fun w hm => gE (gS (gR (gY (yn (hm.blk_at 1 rfl) isAgg143 sizeOf143 rfl) (gSN hm 2 sizeOf143 (one_cons rfl (one_cons (rep_one (hm.ow_rep 0 rfl)) one_nil)) rfl fun w hm => gE (gRt (grc 2 results303 hm rfl isAgg143 sizeOf143 ⟨v0_1, rfl, hm.pk [0] rfl rfl⟩)))))))

theorem laws_toPhiS_ok (w0 : World) (a_ : List Phi_) (v1 : Value) (h1 : GT.rep (hp w0) [v1] a_) :
    ConM Tryz.prog 269 [v1] w0 (laws_toPhiS a_) fun r v w' => ∃ (x1 : Value), v = x1 ∧ Mem w0 (hp w0) w' [ow [x1] r] := by
  unfold laws_toPhiS
  refine gcon func269 rfl fun r => ?_
  have hm := Mem.start w0
  refine gS (gR (gA rfl (gE (gS (gR (gM rfl ?_))))))
  obtain ⟨p0_1, c0_1, rfl, hl0_1⟩ := ro_slice h1
  refine gY (yV st_193 rfl) (gb fun ys0_1 hx0_1 => ?_)
  obtain ⟨⟨h0_11, h0_12⟩, h0_1e⟩ := makeM_some.1 hx0_1
  refine gf rfl (fun a hf => e_make (x0 := ((⟨0, []⟩ : Phi_) : Phi_)) et_101 (fun _ => ⟨[(nV 0)], [(.slice none 0 0)], rfl, fun _ => False, fun _ => False, fun _ h => h.elim, fun _ h => h.elim, fun _ h => h.elim, (Flat.own_iff.2 rfl), (own_list.2 (.inl ⟨rfl, rfl⟩))⟩) hf hm rfl rfl rfl h0_11 (Int.le_refl _) h0_12) ?_
  rintro v0_1 w hm
  rw [h0_1e] at hm
  have h0_1l : (ys0_1.length : Int) = (a_.length : Int) := by rw [← h0_1e]; simp only [List.length_replicate]; omega
  refine gA rfl (gE (gS (gS (gR (gA rfl (gE ?_))))))
  obtain ⟨p0_2, c0_2, rfl, hl0_2⟩ := ro_slice (hm.ow_rep 0 rfl)
  refine gBk (gNf hm (fun i1_1 xs1_1 => [(0, (.slice p0_1 a_.length c0_1)), (3, (.slice p0_2 ys0_1.length c0_2)), (4, (nV i1_1))]) (fun i1_1 xs1_1 => [ow [(.slice p0_2 ys0_1.length c0_2)] xs1_1]) [0] rfl ?_ ?_)
  ·
   repeat clear hm
   intro _ _ i1_1 xs1_1 w hm hi0_1 hi0_2 q0_1 _
   refine gS (gS (gR (gM rfl (gM rfl (gY (yV st_193 rfl) (gB rfl (gE (go _ 11 rfl (decide_eq_true (by omega)) (gct rfl (gSk (gS (gBk (gR (gM rfl (gM rfl (gM rfl (gM rfl (gg fun x1_1 h1_1 hx1_2 => ?_))))))))))))))))))
   obtain ⟨b1_1, o1_1, c1_1, he⟩ := idx_form' h1 hx1_2
   simp only [Value.slice.injEq, Option.some.injEq] at he; obtain ⟨rfl, _, rfl⟩ := he
   obtain ⟨v1_1, hc1_1, h1_2⟩ := rk_Phi_ h1 hx1_2
   refine gI st_193 h1_1 (idx_lt hx1_2) rfl (gY (yn (hc1_1.mono hm.lez) isAgg268 sizeOf268 rfl) (gCg rfl call303 (laws_toPhi_ok _ x1_1 v1_1 (hm.now h1_2)) ?_))
   rintro r1_1 hx1_3 v1_2 w ⟨v1_3, rfl, hB⟩
   replace hm := hm.give hB; clear hB
   refine gg fun x1_2 h1_3 hx1_5 => ?_
   obtain ⟨b1_2, o1_2, c1_2, he⟩ := idx_form' (hm.ow_rep 1 rfl) hx1_5
   simp only [Value.slice.injEq, Option.some.injEq] at he; obtain ⟨rfl, _, rfl⟩ := he
   obtain ⟨v1_4, hc1_2, h1_4⟩ := rk_Phi_ (hm.ow_rep 1 rfl) hx1_5
   have hL1_1 := rep_slice_len (hm.ow_rep 1 rfl)
   refine gI st_101 h1_3 (idx_lt2 hx1_5 hL1_1) rfl ?_
   replace hm : Mem w0 (hp w0) _ [ow [(nV r1_1.to), v1_3] (r1_1 : Phi_), ow [(sV b1_2 o1_2 ys0_1.length c0_2)] xs1_1] := mk_Phi_ r1_1.to hm 0 rfl
   replace hm := (hm.both 1 0 (by decide) rfl rfl).pk (L' := [both (ow [(sV b1_2 o1_2 ys0_1.length c0_2)] xs1_1) (ow [(nV r1_1.to), v1_3] (r1_1 : Phi_))]) [1] rfl rfl
   refine gf0 rfl (fun a hf => e_putElem (x1 := (r1_1 : Phi_)) (vs := [(nV r1_1.to), v1_3]) 0 hf hm rfl hx1_5 rfl sizeOf143 rfl rfl rfl rfl) ?_
   rintro _ w hm
   have hx1_6 := List.getElem?_set_self (a := (r1_1 : Phi_)) (idx_lt hx1_5)
   exact gE (gR (gM rfl (gP (by omega) (by omega) rfl (gA rfl (gE (gze hm [0] rfl))))))
  repeat clear hm
  intro i0_1 xs0_1 w hm hi0_3 hi0_4
  exact gS (gS (gR (gM rfl (gM rfl (gY (yV st_193 rfl) (gB rfl (gE (go _ 11 rfl (decide_eq_false (by omega)) (gcf rfl (gXt (gHh (gS (gR (gM rfl (gA rfl (gE (gRt (gr1 results269 rfl ⟨(.slice p0_2 ys0_1.length c0_2), rfl, hm.pk [0] rfl rfl⟩))))))))))))))))))

theorem laws_toIns_ok (w0 : World) (a_ : Ins_) (v1 : Value) (h1 : GT.rep (hp w0) [v1] a_.args) :
    ConM Tryz.prog 304 [(.agg #[(nV a_.op), (nV a_.to), v1, (nV a_.n_)])] w0 (laws_toIns a_) fun r v w' => ∃ (x1 : Value), v = (.agg #[(nV r.op), (nV r.to), x1, (nV r.n_)]) ∧ Mem w0 (hp w0) w' [ow [x1] r.args] := by
  unfold laws_toIns
  refine gcon func304 rfl fun r => ?_
  have hm := Mem.start w0
  refine gS (gR (gBx hm rfl fun b0_1 w hm => gAl hm zeroValue106 rfl fun b0_2 w hm => gE (gS (gR (gAl hm zeroValue106 rfl fun b0_3 w hm => gE (gS (gR (gF fo_270_0 rfl (gL hm 2 isAgg3 rfl (gF fo_106_0 rfl (gS1 hm 0 sizeOf3 rfl rfl fun w hm => gE (gS (gR (gF fo_270_1 rfl (gL hm 2 isAgg3 rfl (gF fo_106_1 rfl (gS1 hm 0 sizeOf3 rfl rfl fun w hm => gE (gS (gR (gF fo_270_2 rfl (gL hm 2 isAgg37 rfl (gCg rfl call24 (laws_toIntS_ok _ a_.args v1 (hm.now h1)) ?_))))))))))))))))))))))
  rintro r0_1 hx0_1 v0_1 w ⟨_, rfl, hB⟩
  replace hm := hm.give hB; clear hB
  exact gF fo_106_2 rfl (gS1 hm 1 sizeOf37 (rep_one (hm.ow_rep 0 rfl)) rfl fun w hm => gE (gS (gR (gF fo_270_3 rfl (gL hm 3 isAgg3 rfl (gF fo_106_3 rfl (gS1 hm 1 sizeOf3 rfl rfl fun w hm => gE (gS (gR (gY (yn (hm.blk_at 1 rfl) isAgg106 sizeOf106 rfl) (gSN hm 2 sizeOf106 (one_cons rfl (one_cons rfl (one_cons (rep_one (hm.ow_rep 0 rfl)) (one_cons rfl one_nil)))) rfl fun w hm => gE (gRt (grc 2 results304 hm rfl isAgg106 sizeOf106 ⟨v0_1, rfl, hm.pk [0] rfl rfl⟩)))))))))))))

theorem laws_toInsS_ok (w0 : World) (a_ : List Ins_) (v1 : Value) (h1 : GT.rep (hp w0) [v1] a_) :
    ConM Tryz.prog 270 [v1] w0 (laws_toInsS a_) fun r v w' => ∃ (x1 : Value), v = x1 ∧ Mem w0 (hp w0) w' [ow [x1] r] := by
  unfold laws_toInsS
  refine gcon func270 rfl fun r => ?_
  have hm := Mem.start w0
  refine gS (gR (gA rfl (gE (gS (gR (gM rfl ?_))))))
  obtain ⟨p0_1, c0_1, rfl, hl0_1⟩ := ro_slice h1
  refine gY (yV st_194 rfl) (gb fun ys0_1 hx0_1 => ?_)
  obtain ⟨⟨h0_11, h0_12⟩, h0_1e⟩ := makeM_some.1 hx0_1
  refine gf rfl (fun a hf => e_make (x0 := ((⟨0, 0, [], 0⟩ : Ins_) : Ins_)) et_102 (fun _ => ⟨[(nV 0)], [(nV 0), (.slice none 0 0), (nV 0)], rfl, fun _ => False, fun _ => False, fun _ h => h.elim, fun _ h => h.elim, fun _ h => h.elim, (Flat.own_iff.2 rfl), ⟨[(nV 0)], [(.slice none 0 0), (nV 0)], rfl, fun _ => False, fun _ => False, fun _ h => h.elim, fun _ h => h.elim, fun _ h => h.elim, (Flat.own_iff.2 rfl), ⟨[(.slice none 0 0)], [(nV 0)], rfl, fun _ => False, fun _ => False, fun _ h => h.elim, fun _ h => h.elim, fun _ h => h.elim, (own_list.2 (.inl ⟨rfl, rfl⟩)), (Flat.own_iff.2 rfl)⟩⟩⟩) hf hm rfl rfl rfl h0_11 (Int.le_refl _) h0_12) ?_
  rintro v0_1 w hm
  rw [h0_1e] at hm
  have h0_1l : (ys0_1.length : Int) = (a_.length : Int) := by rw [← h0_1e]; simp only [List.length_replicate]; omega
  refine gA rfl (gE (gS (gS (gR (gA rfl (gE ?_))))))
  obtain ⟨p0_2, c0_2, rfl, hl0_2⟩ := ro_slice (hm.ow_rep 0 rfl)
  refine gBk (gNf hm (fun i1_1 xs1_1 => [(0, (.slice p0_1 a_.length c0_1)), (3, (.slice p0_2 ys0_1.length c0_2)), (4, (nV i1_1))]) (fun i1_1 xs1_1 => [ow [(.slice p0_2 ys0_1.length c0_2)] xs1_1]) [0] rfl ?_ ?_)
  ·
   repeat clear hm
   intro _ _ i1_1 xs1_1 w hm hi0_1 hi0_2 q0_1 _
   refine gS (gS (gR (gM rfl (gM rfl (gY (yV st_194 rfl) (gB rfl (gE (go _ 11 rfl (decide_eq_true (by omega)) (gct rfl (gSk (gS (gBk (gR (gM rfl (gM rfl (gM rfl (gM rfl (gg fun x1_1 h1_1 hx1_2 => ?_))))))))))))))))))
   obtain ⟨b1_1, o1_1, c1_1, he⟩ := idx_form' h1 hx1_2
   simp only [Value.slice.injEq, Option.some.injEq] at he; obtain ⟨rfl, _, rfl⟩ := he
   obtain ⟨v1_1, hc1_1, h1_2⟩ := rk_Ins_ h1 hx1_2
   refine gI st_194 h1_1 (idx_lt hx1_2) rfl (gY (yn (hc1_1.mono hm.lez) isAgg270 sizeOf270 rfl) (gCg rfl call304 (laws_toIns_ok _ x1_1 v1_1 (hm.now h1_2)) ?_))
   rintro r1_1 hx1_3 v1_2 w ⟨v1_3, rfl, hB⟩
   replace hm := hm.give hB; clear hB
   refine gg fun x1_2 h1_3 hx1_5 => ?_
   obtain ⟨b1_2, o1_2, c1_2, he⟩ := idx_form' (hm.ow_rep 1 rfl) hx1_5
   simp only [Value.slice.injEq, Option.some.injEq] at he; obtain ⟨rfl, _, rfl⟩ := he
   obtain ⟨v1_4, hc1_2, h1_4⟩ := rk_Ins_ (hm.ow_rep 1 rfl) hx1_5
   have hL1_1 := rep_slice_len (hm.ow_rep 1 rfl)
   refine gI st_102 h1_3 (idx_lt2 hx1_5 hL1_1) rfl ?_
   replace hm : Mem w0 (hp w0) _ [ow [(nV r1_1.op), (nV r1_1.to), v1_3, (nV r1_1.n_)] (r1_1 : Ins_), ow [(sV b1_2 o1_2 ys0_1.length c0_2)] xs1_1] := mk_Ins_ r1_1.op r1_1.to r1_1.n_ hm 0 rfl
   replace hm := (hm.both 1 0 (by decide) rfl rfl).pk (L' := [both (ow [(sV b1_2 o1_2 ys0_1.length c0_2)] xs1_1) (ow [(nV r1_1.op), (nV r1_1.to), v1_3, (nV r1_1.n_)] (r1_1 : Ins_))]) [1] rfl rfl
   refine gf0 rfl (fun a hf => e_putElem (x1 := (r1_1 : Ins_)) (vs := [(nV r1_1.op), (nV r1_1.to), v1_3, (nV r1_1.n_)]) 0 hf hm rfl hx1_5 rfl sizeOf106 rfl rfl rfl rfl) ?_
   rintro _ w hm
   have hx1_6 := List.getElem?_set_self (a := (r1_1 : Ins_)) (idx_lt hx1_5)
   exact gE (gR (gM rfl (gP (by omega) (by omega) rfl (gA rfl (gE (gze hm [0] rfl))))))
  repeat clear hm
  intro i0_1 xs0_1 w hm hi0_3 hi0_4
  exact gS (gS (gR (gM rfl (gM rfl (gY (yV st_194 rfl) (gB rfl (gE (go _ 11 rfl (decide_eq_false (by omega)) (gcf rfl (gXt (gHh (gS (gR (gM rfl (gA rfl (gE (gRt (gr1 results270 rfl ⟨(.slice p0_2 ys0_1.length c0_2), rfl, hm.pk [0] rfl rfl⟩))))))))))))))))))

theorem laws_toBlock_ok (w0 : World) (a_ : Block_) (v1 : Value) (h1 : GT.rep (hp w0) [v1] a_.phis) (v2 : Value) (h2 : GT.rep (hp w0) [v2] a_.ins) (v3 : Value) (h3 : GT.rep (hp w0) [v3] a_.next_) :
    ConM Tryz.prog 207 [(.agg #[v1, v2, (nV a_.jump), (nV a_.on), v3])] w0 (laws_toBlock a_) fun r v w' => ∃ (x1 : Value) (x2 : Value) (x3 : Value), v = (.agg #[x1, x2, (nV r.jump), (nV r.on), x3]) ∧ Mem w0 (hp w0) w' [ow [x1] r.phis, ow [x2] r.ins, ow [x3] r.next_] := by
  unfold laws_toBlock
  refine gcon func207 rfl fun r => ?_
  have hm := Mem.start w0
  refine gS (gR (gBx hm rfl fun b0_1 w hm => gAl hm zeroValue104 rfl fun b0_2 w hm => gE (gS (gR (gAl hm zeroValue104 rfl fun b0_3 w hm => gE (gS (gR (gF fo_196_0 rfl (gL hm 2 isAgg193 rfl (gCg rfl call269 (laws_toPhiS_ok _ a_.phis v1 (hm.now h1)) ?_))))))))))
  rintro r0_1 hx0_1 v0_1 w ⟨_, rfl, hB⟩
  replace hm := hm.give hB; clear hB
  refine gF fo_104_0 rfl (gS1 hm 1 sizeOf101 (rep_one (hm.ow_rep 0 rfl)) rfl fun w hm => gE (gS (gR (gF fo_196_1 rfl (gL hm 3 isAgg194 rfl (gCg rfl call270 (laws_toInsS_ok _ a_.ins v2 (hm.now h2)) ?_))))))
  rintro r0_2 hx0_2 v0_3 w ⟨_, rfl, hB⟩
  replace hm := hm.give hB; clear hB
  refine gF fo_104_1 rfl (gS1 hm 2 sizeOf102 (rep_one (hm.ow_rep 0 rfl)) rfl fun w hm => gE (gS (gR (gF fo_196_2 rfl (gL hm 4 isAgg3 rfl (gF fo_104_2 rfl (gS1 hm 2 sizeOf3 rfl rfl fun w hm => gE (gS (gR (gF fo_196_3 rfl (gL hm 4 isAgg3 rfl (gF fo_104_3 rfl (gS1 hm 2 sizeOf3 rfl rfl fun w hm => gE (gS (gR (gF fo_196_4 rfl (gL hm 4 isAgg37 rfl (gCg rfl call24 (laws_toIntS_ok _ a_.next_ v3 (hm.now h3)) ?_))))))))))))))))))
  rintro r0_3 hx0_3 v0_5 w ⟨_, rfl, hB⟩
  replace hm := hm.give hB; clear hB
  exact gF fo_104_4 rfl (gS1 hm 3 sizeOf37 (rep_one (hm.ow_rep 0 rfl)) rfl fun w hm => gE (gS (gR (gY (yn (hm.blk_at 3 rfl) isAgg104 sizeOf104 rfl) (gSN hm 4 sizeOf104 (one_cons (rep_one (hm.ow_rep 2 rfl)) (one_cons (rep_one (hm.ow_rep 1 rfl)) (one_cons rfl (one_cons rfl (one_cons (rep_one (hm.ow_rep 0 rfl)) one_nil))))) rfl fun w hm => gE (gRt (grc 4 results207 hm rfl isAgg104 sizeOf104 ⟨v0_1, v0_3, v0_5, rfl, hm.pk [2, 1, 0] rfl rfl⟩)))))))

theorem laws_toBlockS_ok (w0 : World) (a_ : List Block_) (v1 : Value) (h1 : GT.rep (hp w0) [v1] a_) :
    ConM Tryz.prog 139 [v1] w0 (laws_toBlockS a_) fun r v w' => ∃ (x1 : Value), v = x1 ∧ Mem w0 (hp w0) w' [ow [x1] r] := by
  unfold laws_toBlockS
  refine gcon func139 rfl fun r => ?_
  have hm := Mem.start w0
  refine gS (gR (gA rfl (gE (gS (gR (gM rfl ?_))))))
  obtain ⟨p0_1, c0_1, rfl, hl0_1⟩ := ro_slice h1
  refine gY (yV st_95 rfl) (gb fun ys0_1 hx0_1 => ?_)
  obtain ⟨⟨h0_11, h0_12⟩, h0_1e⟩ := makeM_some.1 hx0_1
  refine gf rfl (fun a hf => e_make (x0 := ((⟨[], [], 0, 0, []⟩ : Block_) : Block_)) et_55 (fun _ => ⟨[(.slice none 0 0)], [(.slice none 0 0), (nV 0), (nV 0), (.slice none 0 0)], rfl, fun _ => False, fun _ => False, fun _ h => h.elim, fun _ h => h.elim, fun _ h => h.elim, (own_list.2 (.inl ⟨rfl, rfl⟩)), ⟨[(.slice none 0 0)], [(nV 0), (nV 0), (.slice none 0 0)], rfl, fun _ => False, fun _ => False, fun _ h => h.elim, fun _ h => h.elim, fun _ h => h.elim, (own_list.2 (.inl ⟨rfl, rfl⟩)), ⟨[(nV 0)], [(nV 0), (.slice none 0 0)], rfl, fun _ => False, fun _ => False, fun _ h => h.elim, fun _ h => h.elim, fun _ h => h.elim, (Flat.own_iff.2 rfl), ⟨[(nV 0)], [(.slice none 0 0)], rfl, fun _ => False, fun _ => False, fun _ h => h.elim, fun _ h => h.elim, fun _ h => h.elim, (Flat.own_iff.2 rfl), (own_list.2 (.inl ⟨rfl, rfl⟩))⟩⟩⟩⟩) hf hm rfl rfl rfl h0_11 (Int.le_refl _) h0_12) ?_
  rintro v0_1 w hm
  rw [h0_1e] at hm
  have h0_1l : (ys0_1.length : Int) = (a_.length : Int) := by rw [← h0_1e]; simp only [List.length_replicate]; omega
  refine gA rfl (gE (gS (gS (gR (gA rfl (gE ?_))))))
  obtain ⟨p0_2, c0_2, rfl, hl0_2⟩ := ro_slice (hm.ow_rep 0 rfl)
  refine gBk (gNf hm (fun i1_1 xs1_1 => [(0, (.slice p0_1 a_.length c0_1)), (3, (.slice p0_2 ys0_1.length c0_2)), (4, (nV i1_1))]) (fun i1_1 xs1_1 => [ow [(.slice p0_2 ys0_1.length c0_2)] xs1_1]) [0] rfl ?_ ?_)
  ·
   repeat clear hm
   intro _ _ i1_1 xs1_1 w hm hi0_1 hi0_2 q0_1 _
   refine gS (gS (gR (gM rfl (gM rfl (gY (yV st_95 rfl) (gB rfl (gE (go _ 11 rfl (decide_eq_true (by omega)) (gct rfl (gSk (gS (gBk (gR (gM rfl (gM rfl (gM rfl (gM rfl (gg fun x1_1 h1_1 hx1_2 => ?_))))))))))))))))))
   obtain ⟨b1_1, o1_1, c1_1, he⟩ := idx_form' h1 hx1_2
   simp only [Value.slice.injEq, Option.some.injEq] at he; obtain ⟨rfl, _, rfl⟩ := he
   obtain ⟨v1_1, v1_2, v1_3, hc1_1, h1_2, h1_3, h1_4⟩ := rk_Block_ h1 hx1_2
   refine gI st_95 h1_1 (idx_lt hx1_2) rfl (gY (yn (hc1_1.mono hm.lez) isAgg196 sizeOf196 rfl) (gCg rfl call207 (laws_toBlock_ok _ x1_1 v1_1 (hm.now h1_2) v1_2 (hm.now h1_3) v1_3 (hm.now h1_4)) ?_))
   rintro r1_1 hx1_3 v1_4 w ⟨v1_5, v1_6, v1_7, rfl, hB⟩
   replace hm := hm.give hB; clear hB
   refine gg fun x1_2 h1_5 hx1_5 => ?_
   obtain ⟨b1_2, o1_2, c1_2, he⟩ := idx_form' (hm.ow_rep 3 rfl) hx1_5
   simp only [Value.slice.injEq, Option.some.injEq] at he; obtain ⟨rfl, _, rfl⟩ := he
   obtain ⟨v1_8, v1_9, v1_10, hc1_2, h1_6, h1_7, h1_8⟩ := rk_Block_ (hm.ow_rep 3 rfl) hx1_5
   have hL1_1 := rep_slice_len (hm.ow_rep 3 rfl)
   refine gI st_55 h1_5 (idx_lt2 hx1_5 hL1_1) rfl ?_
   replace hm := (mk_Block_ r1_1.jump r1_1.on hm 0 1 2 rfl).pk (L' := [ow [v1_5, v1_6, (nV r1_1.jump), (nV r1_1.on), v1_7] (r1_1 : Block_), ow [(sV b1_2 o1_2 ys0_1.length c0_2)] xs1_1]) [0, 3] rfl rfl
   replace hm := (hm.both 1 0 (by decide) rfl rfl).pk (L' := [both (ow [(sV b1_2 o1_2 ys0_1.length c0_2)] xs1_1) (ow [v1_5, v1_6, (nV r1_1.jump), (nV r1_1.on), v1_7] (r1_1 : Block_))]) [1] rfl rfl
   refine gf0 rfl (fun a hf => e_putElem (x1 := (r1_1 : Block_)) (vs := [v1_5, v1_6, (nV r1_1.jump), (nV r1_1.on), v1_7]) 0 hf hm rfl hx1_5 rfl sizeOf104 rfl rfl rfl rfl) ?_
   rintro _ w hm
   have hx1_6 := List.getElem?_set_self (a := (r1_1 : Block_)) (idx_lt hx1_5)
   exact gE (gR (gM rfl (gP (by omega) (by omega) rfl (gA rfl (gE (gze hm [0] rfl))))))
  repeat clear hm
  intro i0_1 xs0_1 w hm hi0_3 hi0_4
  exact gS (gS (gR (gM rfl (gM rfl (gY (yV st_95 rfl) (gB rfl (gE (go _ 11 rfl (decide_eq_false (by omega)) (gcf rfl (gXt (gHh (gS (gR (gM rfl (gA rfl (gE (gRt (gr1 results139 rfl ⟨(.slice p0_2 ys0_1.length c0_2), rfl, hm.pk [0] rfl rfl⟩))))))))))))))))))

theorem laws_toCode_ok (w0 : World) (a_ : Code_) (v1 : Value) (h1 : GT.rep (hp w0) [v1] a_.blocks) :
    ConM Tryz.prog 93 [(.agg #[(nV a_.params), (nV a_.regs), v1])] w0 (laws_toCode a_) fun r v w' => ∃ (x1 : Value), v = (.agg #[(nV r.params), (nV r.regs), x1]) ∧ Mem w0 (hp w0) w' [ow [x1] r.blocks] := by
  unfold laws_toCode
  refine gcon func93 rfl fun r => ?_
  have hm := Mem.start w0
  refine gS (gR (gBx hm rfl fun b0_1 w hm => gAl hm zeroValue57 rfl fun b0_2 w hm => gE (gS (gR (gAl hm zeroValue57 rfl fun b0_3 w hm => gE (gS (gR (gF fo_97_0 rfl (gL hm 2 isAgg3 rfl (gF fo_57_0 rfl (gS1 hm 0 sizeOf3 rfl rfl fun w hm => gE (gS (gR (gF fo_97_1 rfl (gL hm 2 isAgg3 rfl (gF fo_57_1 rfl (gS1 hm 0 sizeOf3 rfl rfl fun w hm => gE (gS (gR (gF fo_97_2 rfl (gL hm 2 isAgg95 rfl (gCg rfl call139 (laws_toBlockS_ok _ a_.blocks v1 (hm.now h1)) ?_))))))))))))))))))))))
  rintro r0_1 hx0_1 v0_1 w ⟨_, rfl, hB⟩
  replace hm := hm.give hB; clear hB
  exact gF fo_57_2 rfl (gS1 hm 1 sizeOf55 (rep_one (hm.ow_rep 0 rfl)) rfl fun w hm => gE (gS (gR (gY (yn (hm.blk_at 1 rfl) isAgg57 sizeOf57 rfl) (gSN hm 2 sizeOf57 (one_cons rfl (one_cons rfl (one_cons (rep_one (hm.ow_rep 0 rfl)) one_nil))) rfl fun w hm => gE (gRt (grc 2 results93 hm rfl isAgg57 sizeOf57 ⟨v0_1, rfl, hm.pk [0] rfl rfl⟩)))))))

theorem laws_toCodeS_ok (w0 : World) (a_ : List Code_) (v1 : Value) (h1 : GT.rep (hp w0) [v1] a_) :
    ConM Tryz.prog 51 [v1] w0 (laws_toCodeS a_) fun r v w' => ∃ (x1 : Value), v = x1 ∧ Mem w0 (hp w0) w' [ow [x1] r] := by
  unfold laws_toCodeS
  refine gcon func51 rfl fun r => ?_
  have hm := Mem.start w0
  refine gS (gR (gA rfl (gE (gS (gR (gM rfl ?_))))))
  obtain ⟨p0_1, c0_1, rfl, hl0_1⟩ := ro_slice h1
  refine gY (yV st_22 rfl) (gb fun ys0_1 hx0_1 => ?_)
  obtain ⟨⟨h0_11, h0_12⟩, h0_1e⟩ := makeM_some.1 hx0_1
  refine gf rfl (fun a hf => e_make (x0 := ((⟨0, 0, []⟩ : Code_) : Code_)) et_28 (fun _ => ⟨[(nV 0)], [(nV 0), (.slice none 0 0)], rfl, fun _ => False, fun _ => False, fun _ h => h.elim, fun _ h => h.elim, fun _ h => h.elim, (Flat.own_iff.2 rfl), ⟨[(nV 0)], [(.slice none 0 0)], rfl, fun _ => False, fun _ => False, fun _ h => h.elim, fun _ h => h.elim, fun _ h => h.elim, (Flat.own_iff.2 rfl), (own_list.2 (.inl ⟨rfl, rfl⟩))⟩⟩) hf hm rfl rfl rfl h0_11 (Int.le_refl _) h0_12) ?_
  rintro v0_1 w hm
  rw [h0_1e] at hm
  have h0_1l : (ys0_1.length : Int) = (a_.length : Int) := by rw [← h0_1e]; simp only [List.length_replicate]; omega
  refine gA rfl (gE (gS (gS (gR (gA rfl (gE ?_))))))
  obtain ⟨p0_2, c0_2, rfl, hl0_2⟩ := ro_slice (hm.ow_rep 0 rfl)
  refine gBk (gNf hm (fun i1_1 xs1_1 => [(0, (.slice p0_1 a_.length c0_1)), (3, (.slice p0_2 ys0_1.length c0_2)), (4, (nV i1_1))]) (fun i1_1 xs1_1 => [ow [(.slice p0_2 ys0_1.length c0_2)] xs1_1]) [0] rfl ?_ ?_)
  ·
   repeat clear hm
   intro _ _ i1_1 xs1_1 w hm hi0_1 hi0_2 q0_1 _
   refine gS (gS (gR (gM rfl (gM rfl (gY (yV st_22 rfl) (gB rfl (gE (go _ 11 rfl (decide_eq_true (by omega)) (gct rfl (gSk (gS (gBk (gR (gM rfl (gM rfl (gM rfl (gM rfl (gg fun x1_1 h1_1 hx1_2 => ?_))))))))))))))))))
   obtain ⟨b1_1, o1_1, c1_1, he⟩ := idx_form' h1 hx1_2
   simp only [Value.slice.injEq, Option.some.injEq] at he; obtain ⟨rfl, _, rfl⟩ := he
   obtain ⟨v1_1, hc1_1, h1_2⟩ := rk_Code_ h1 hx1_2
   refine gI st_22 h1_1 (idx_lt hx1_2) rfl (gY (yn (hc1_1.mono hm.lez) isAgg97 sizeOf97 rfl) (gCg rfl call93 (laws_toCode_ok _ x1_1 v1_1 (hm.now h1_2)) ?_))
   rintro r1_1 hx1_3 v1_2 w ⟨v1_3, rfl, hB⟩
   replace hm := hm.give hB; clear hB
   refine gg fun x1_2 h1_3 hx1_5 => ?_
   obtain ⟨b1_2, o1_2, c1_2, he⟩ := idx_form' (hm.ow_rep 1 rfl) hx1_5
   simp only [Value.slice.injEq, Option.some.injEq] at he; obtain ⟨rfl, _, rfl⟩ := he
   obtain ⟨v1_4, hc1_2, h1_4⟩ := rk_Code_ (hm.ow_rep 1 rfl) hx1_5
   have hL1_1 := rep_slice_len (hm.ow_rep 1 rfl)
   refine gI st_28 h1_3 (idx_lt2 hx1_5 hL1_1) rfl ?_
   replace hm : Mem w0 (hp w0) _ [ow [(nV r1_1.params), (nV r1_1.regs), v1_3] (r1_1 : Code_), ow [(sV b1_2 o1_2 ys0_1.length c0_2)] xs1_1] := mk_Code_ r1_1.params r1_1.regs hm 0 rfl
   replace hm := (hm.both 1 0 (by decide) rfl rfl).pk (L' := [both (ow [(sV b1_2 o1_2 ys0_1.length c0_2)] xs1_1) (ow [(nV r1_1.params), (nV r1_1.regs), v1_3] (r1_1 : Code_))]) [1] rfl rfl
   refine gf0 rfl (fun a hf => e_putElem (x1 := (r1_1 : Code_)) (vs := [(nV r1_1.params), (nV r1_1.regs), v1_3]) 0 hf hm rfl hx1_5 rfl sizeOf57 rfl rfl rfl rfl) ?_
   rintro _ w hm
   have hx1_6 := List.getElem?_set_self (a := (r1_1 : Code_)) (idx_lt hx1_5)
   exact gE (gR (gM rfl (gP (by omega) (by omega) rfl (gA rfl (gE (gze hm [0] rfl))))))
  repeat clear hm
  intro i0_1 xs0_1 w hm hi0_3 hi0_4
  exact gS (gS (gR (gM rfl (gM rfl (gY (yV st_22 rfl) (gB rfl (gE (go _ 11 rfl (decide_eq_false (by omega)) (gcf rfl (gXt (gHh (gS (gR (gM rfl (gA rfl (gE (gRt (gr1 results51 rfl ⟨(.slice p0_2 ys0_1.length c0_2), rfl, hm.pk [0] rfl rfl⟩))))))))))))))))))

theorem laws_toUnit_ok (w0 : World) (a_ : Unit_) (v1 : Value) (h1 : GT.rep (hp w0) [v1] a_.codes) :
    ConM Tryz.prog 16 [(.agg #[v1])] w0 (laws_toUnit a_) fun r v w' => ∃ (x1 : Value), v = (.agg #[x1]) ∧ Mem w0 (hp w0) w' [ow [x1] r.codes] := by
  unfold laws_toUnit
  refine gcon func16 rfl fun r => ?_
  have hm := Mem.start w0
  refine gS (gR (gBx hm rfl fun b0_1 w hm => gAl hm zeroValue30 rfl fun b0_2 w hm => gE (gS (gR (gAl hm zeroValue30 rfl fun b0_3 w hm => gE (gS (gR (gF fo_24_0 rfl (gL hm 2 isAgg22 rfl (gCg rfl call51 (laws_toCodeS_ok _ a_.codes v1 (hm.now h1)) ?_))))))))))
  rintro r0_1 hx0_1 v0_1 w ⟨_, rfl, hB⟩
  replace hm := hm.give hB; clear hB
  exact gF fo_30_0 rfl (gS1 hm 1 sizeOf28 (rep_one (hm.ow_rep 0 rfl)) rfl fun w hm => gE (gS (gR (gY (yn (hm.blk_at 1 rfl) isAgg30 sizeOf30 rfl) (gSN hm 2 sizeOf30 (one_cons (rep_one (hm.ow_rep 0 rfl)) one_nil) rfl fun w hm => gE (gRt (grc 2 results16 hm rfl isAgg30 sizeOf30 ⟨v0_1, rfl, hm.pk [0] rfl rfl⟩)))))))

theorem spec_l1In_ok (w0 : World) (n_ : Int) (low : Int) (high : Int) :
    ConM Tryz.prog 61 [(nV n_), (nV low), (nV high)] w0 (spec_l1In n_ low high) fun r v w' => v = (.bool (r)) ∧ Below w0.heap.size w0 w' := by
  unfold spec_l1In
  refine gcon func61 rfl fun r => ?_
  have hm := Mem.start w0
  refine gS (gR (gA rfl (gE (gS (gJ hm (fun s0_1 => [(6, (.bool (s0_1)))]) (fun s0_1 => []) (fun s0_1 => ?_) ?_)))))
  ·
   refine gR (gM rfl (gM rfl (gB rfl (gM rfl (gsd 10 rfl (fun h1_1 => ?_) fun h1_1 => ?_)))))
   ·
    exact gM rfl (gM rfl (gB rfl (gKt rfl (gA rfl (gE (gz hm [] rfl))))))
   exact gO rfl (gO rfl (gO rfl (gKf rfl (gA rfl (gE (gz hm [] rfl))))))
  repeat clear hm
  intro s0_1 w hm
  exact gRt (gr1 results61 rfl ⟨rfl, hm.below⟩)

theorem spec_l7Regs_ok (w0 : World) (c_ : Code_) (v1 : Value) (h1 : GT.rep (hp w0) [v1] c_.blocks) (list : List Int) (v2 : Value) (h2 : GT.rep (hp w0) [v2] list) :
    ConM Tryz.prog 154 [(.agg #[(nV c_.params), (nV c_.regs), v1]), v2] w0 (spec_l7Regs c_ list) fun r v w' => v = (.bool (r)) ∧ Below w0.heap.size w0 w' := by
  unfold spec_l7Regs
  refine gcon func154 rfl fun r => ?_
  have hm := Mem.start w0
  refine gS (gR (gBx hm rfl fun b0_1 w hm => gA rfl (gE (gS (gS (gR (gA rfl (gE (gBk (gNf hm (fun i1_1 xs1_1 => [(1, v2), (2, (pV b0_1)), (5, (nV i1_1))]) (fun i1_1 xs1_1 => [blk b0_1 [(nV c_.params), (nV c_.regs), v1] 57]) [0] rfl ?_ ?_))))))))))
  ·
   repeat clear hm
   intro r0_1 hq0_1 i1_1 xs1_1 w hm hi0_1 hi0_2 q0_1 ho0_1
   refine gS (gS (gR (gM rfl (gM rfl ?_))))
   obtain ⟨p1_1, c1_1, rfl, hl1_1⟩ := ro_slice h2
   refine gY (yV st_37 rfl) (gB rfl (gE (go _ 9 rfl (decide_eq_true (by omega)) (gct rfl (gSk (gS (gBk (gS (gW (.p 0 (.p 1 (.p 2 (.p 4 (.q 3 (.e 5 (.p 6 (.e 7 (.p 8 .fin) .nil)) .nil)))))) [5] [0, 1, 2, 4, 6, 8] hm [0] [blk b0_1 [(nV c_.params), (nV c_.regs), v1] 57] rfl mxo (by kernel_rfl) (fun _ _ _ h => h.2) fun w hm hS => tP rfl (fun w => yM rfl) (tP rfl (fun w => yM rfl) (gg fun x1_1 h1_1 hx1_2 => ?_)))))))))))
   obtain ⟨b1_1, o1_1, c1_2, he⟩ := idx_form h2 hx1_2
   simp only [Value.slice.injEq, Option.some.injEq] at he; obtain ⟨rfl, _, rfl⟩ := he
   refine tP rfl (fun w => yI st_37 h1_1 (idx_lt hx1_2) rfl) (tP rfl (fun w => yF fo_57_1 rfl) (tQ rfl hS (fun w hm => yl isAgg3 ((flat_cells (cs := [(nV x1_1)]) (hm.now h2) hx1_2 rfl).cell (j := 0) rfl) rfl) (tO (tY rfl (yL hm 0 isAgg3 rfl) (tAs hS (tP rfl (fun w => yB rfl) (tO (gb fun r1_1 hx1_3 => tf rfl rfl (fun a hf => e_call hf rfl call61 rfl (spec_l1In_ok _ x1_1 0 (w64 (c_.regs - 1)) _ hx1_3)) ?_))))))))
   rintro v1_1 w ⟨rfl, hB⟩
   replace hm := hm.below' hB; clear hB
   refine tAn rfl (tP rfl (fun w => yN rfl) (tE (gsn 20 rfl (fun h1_2 => ?_) fun h1_2 => ?_)))
   ·
    exact gct rfl (gS (gR (gA rfl (gE (gRt (gLr ho0_1 hq0_1 (gr1 results154 rfl ⟨rfl, hm.below⟩)))))))
   exact gcf rfl (gSk (gR (gM rfl (gP (by omega) (by omega) rfl (gA rfl (gE (gze hm [0] rfl)))))))
  repeat clear hm
  intro i0_1 xs0_1 w hm hi0_3 hi0_4
  refine gS (gS (gR (gM rfl (gM rfl ?_))))
  obtain ⟨p0_1, c0_1, rfl, hl0_1⟩ := ro_slice h2
  exact gY (yV st_37 rfl) (gB rfl (gE (go _ 9 rfl (decide_eq_false (by omega)) (gcf rfl (gXt (gHh (gS (gR (gA rfl (gE (gRt (gr1 results154 rfl ⟨rfl, hm.below⟩))))))))))))

theorem spec_l7Makes_ok (w0 : World) (op : Int) :
    ConM Tryz.prog 91 [(nV op)] w0 (spec_l7Makes op) fun r v w' => v = (.bool (r)) ∧ Below w0.heap.size w0 w' := by
  unfold spec_l7Makes
  refine gcon func91 rfl fun r => ?_
  have hm := Mem.start w0
  refine gS (gR (gA rfl (gE (gS (gJ hm (fun s0_1 => [(2, (.bool (s0_1)))]) (fun s0_1 => []) (fun s0_1 => ?_) ?_)))))
  ·
   refine gR (gM rfl (gC hm rfl call61 (spec_l1In_ok _ op 1 14) fun r1_1 hx1_1 w hm => gM rfl (gs 5 rfl (fun h1_1 => ?_) fun h1_1 => ?_)))
   ·
    refine gM rfl (gB rfl (gKt rfl (gM rfl (gsd 9 rfl (fun h1_2 => ?_) fun h1_2 => ?_))))
    ·
     exact gM rfl (gB rfl (gKt rfl (gA rfl (gE (gz hm [] rfl)))))
    exact gO rfl (gO rfl (gKf rfl (gA rfl (gE (gz hm [] rfl)))))
   exact gO rfl (gO rfl (gKf rfl (gM rfl (gO rfl (gO rfl (gKf rfl (gA rfl (gE (gz hm [] rfl)))))))))
  repeat clear hm
  intro s0_1 w hm
  exact gRt (gr1 results91 rfl ⟨rfl, hm.below⟩)

theorem spec_l7Args_ok (w0 : World) (op : Int) :
    ConM Tryz.prog 221 [(nV op)] w0 (spec_l7Args op) fun r v w' => v = (nV r) ∧ Below w0.heap.size w0 w' := by
  unfold spec_l7Args
  refine gcon func221 rfl fun r => ?_
  have hm := Mem.start w0
  refine gS (gR (gA rfl (gE (gS (gBk (gS (gR (gM rfl (gB rfl (gA rfl (gE (gsd 3 rfl (fun h0_1 => ?_) fun h0_1 => ?_))))))))))))
  ·
   exact gct rfl (gS (gR (gA rfl (gE (gRt (gr1 results221 rfl ⟨rfl, hm.below⟩))))))
  refine gcf rfl (gS (gJ hm (fun s0_1 => [(0, (nV op)), (6, (.bool (s0_1)))]) (fun s0_1 => []) (fun s0_1 => ?_) ?_))
  ·
   refine gR (gM rfl (gB rfl (gM rfl (gsd 9 rfl (fun h1_1 => ?_) fun h1_1 => ?_))))
   ·
    exact gO rfl (gO rfl (gKt rfl (gM rfl (gO rfl (gO rfl (gKt rfl (gM rfl (gO rfl (gO rfl (gKt rfl (gA rfl (gE (gz hm [] rfl)))))))))))))
   refine gM rfl (gB rfl (gKf rfl (gM rfl (gsd 13 rfl (fun h1_2 => ?_) fun h1_2 => ?_))))
   ·
    exact gO rfl (gO rfl (gKt rfl (gM rfl (gO rfl (gO rfl (gKt rfl (gA rfl (gE (gz hm [] rfl)))))))))
   refine gM rfl (gB rfl (gKf rfl (gM rfl (gsd 17 rfl (fun h1_3 => ?_) fun h1_3 => ?_))))
   ·
    exact gO rfl (gO rfl (gKt rfl (gA rfl (gE (gz hm [] rfl)))))
   exact gM rfl (gB rfl (gKf rfl (gA rfl (gE (gz hm [] rfl)))))
  repeat clear hm
  intro s0_1 w hm
  refine gs 6 rfl (fun h0_2 => ?_) fun h0_2 => ?_
  ·
   exact gct rfl (gS (gR (gA rfl (gE (gRt (gr1 results221 rfl ⟨rfl, hm.below⟩))))))
  refine gcf rfl (gS (gJ hm (fun s0_2 => [(21, (.bool (s0_2)))]) (fun s0_2 => []) (fun s0_2 => ?_) ?_))
  ·
   refine gR (gM rfl (gC hm rfl call61 (spec_l1In_ok _ op 3 9) fun r1_1 hx1_1 w hm => gM rfl (gs 24 rfl (fun h1_4 => ?_) fun h1_4 => ?_)))
   ·
    exact gO rfl (gO rfl (gKt rfl (gA rfl (gE (gz hm [] rfl)))))
   exact gM rfl (gB rfl (gKf rfl (gA rfl (gE (gz hm [] rfl)))))
  repeat clear hm
  intro s0_2 w hm
  refine gs 21 rfl (fun h0_3 => ?_) fun h0_3 => ?_
  ·
   exact gct rfl (gS (gR (gA rfl (gE (gRt (gr1 results221 rfl ⟨rfl, hm.below⟩))))))
  exact gcf rfl (gSk (gS (gR (gA rfl (gE (gRt (gr1 results221 rfl ⟨rfl, hm.below⟩)))))))

theorem spec_l7Ins_ok (w0 : World) (u : Unit_) (v1 : Value) (h1 : GT.rep (hp w0) [v1] u.codes) (k_ : Int) (x_ : Ins_) (v2 : Value) (h2 : GT.rep (hp w0) [v2] x_.args) :
    ConM Tryz.prog 152 [(.agg #[v1]), (nV k_), (.agg #[(nV x_.op), (nV x_.to), v2, (nV x_.n_)])] w0 (spec_l7Ins u k_ x_) fun r v w' => v = (.bool (r)) ∧ Below w0.heap.size w0 w' := by
  unfold spec_l7Ins
  refine gcon func152 rfl fun r => ?_
  have hm := Mem.start w0
  refine gS (gR (gBx hm rfl fun b0_1 w hm => gBx hm rfl fun b0_2 w hm => gA rfl (gE (gS (gR (gF fo_30_0 rfl (gL hm 1 isAgg28 rfl (gM rfl (gg fun x0_1 h0_1 hx0_2 => ?_)))))))))
  obtain ⟨b0_3, o0_1, c0_1, he⟩ := idx_form' h1 hx0_2
  subst he
  obtain ⟨v0_1, hc0_1, h0_2⟩ := rk_Code_ h1 hx0_2
  refine gI st_28 h0_1 (idx_lt hx0_2) rfl (gY (yn (hc0_1.mono hm.lez) isAgg57 sizeOf57 rfl) (gAl hm zeroValue57 rfl fun b0_4 w hm => gSN hm 0 sizeOf57 (one_cons rfl (one_cons rfl (one_cons (rep_one h0_2) one_nil))) rfl fun w hm => gE (gS (gS (gJ hm (fun s0_1 => [(1, (nV k_)), (3, (pV b0_1)), (5, (pV b0_2)), (7, (pV b0_4)), (23, (.bool (s0_1)))]) (fun s0_1 => [blk b0_1 [(sV b0_3 o0_1 u.codes.length c0_1)] 30, blk b0_2 [(nV x_.op), (nV x_.to), v2, (nV x_.n_)] 106, blk b0_4 [(nV x0_1.params), (nV x0_1.regs), v0_1] 57]) (fun s0_1 => ?_) ?_)))))
  ·
   refine gR (gF fo_106_0 rfl (gL hm 1 isAgg3 rfl (gC hm rfl call61 (spec_l1In_ok _ x_.op 1 14) fun r1_1 hx1_1 w hm => gN rfl (gM rfl (gsn 17 rfl (fun h1_1 => ?_) fun h1_1 => ?_)))))
   ·
    exact gO rfl (gO rfl (gO rfl (gO rfl (gO rfl (gKt rfl (gE (gz hm [2, 1, 0] rfl)))))))
   exact gY (yn (hm.blk_at 0 rfl) isAgg57 sizeOf57 rfl) (gF fo_106_2 rfl (gL hm 1 isAgg37 rfl (gC hm rfl call154 (spec_l7Regs_ok _ x0_1 v0_1 (hm.now h0_2) x_.args v2 (hm.now h2)) fun r1_2 hx1_2 w hm => gN rfl (gKf rfl (gE (gz hm [2, 1, 0] rfl))))))
  repeat clear hm
  intro s0_1 w hm
  refine gs 23 rfl (fun h0_3 => ?_) fun h0_3 => ?_
  ·
   exact gct rfl (gS (gR (gA rfl (gE (gRt (gr1 results152 rfl ⟨rfl, hm.below⟩))))))
  refine gcf rfl (gSk (gS (gS (gJ hm (fun s0_2 => [(1, (nV k_)), (3, (pV b0_1)), (5, (pV b0_2)), (44, (.bool (s0_2)))]) (fun s0_2 => [blk b0_1 [(sV b0_3 o0_1 u.codes.length c0_1)] 30, blk b0_2 [(nV x_.op), (nV x_.to), v2, (nV x_.n_)] 106]) (fun s0_2 => ?_) ?_))))
  ·
   refine gW (.p 0 (.p 3 (.p 5 (.q 1 (.q 4 (.q 6 (.p 7 (.e 2 (.e 8 (.p 9 (.p 10 (.p 11 (.e 12 (.e 13 (.p 14 (.p 15 (.p 16 (.e 17 (.p 18 (.p 19 (.p 20 .fin))) .nil)))) .nil) .nil)))) .nil) .nil)))))))) [1, 2, 4, 6] [0, 3, 5, 7, 9, 10, 11, 14, 15, 16, 18, 19, 20] hm [0, 1, 2] [blk b0_1 [(sV b0_3 o0_1 u.codes.length c0_1)] 30, blk b0_2 [(nV x_.op), (nV x_.to), v2, (nV x_.n_)] 106, blk b0_4 [(nV x0_1.params), (nV x0_1.regs), v0_1] 57] rfl mxo (by kernel_rfl) (fun _ _ _ h => h.2) fun w hm hS => tP rfl (fun w => yF fo_106_0 rfl) (tP rfl (fun w => yF fo_106_1 rfl) (tP rfl (fun w => yF fo_57_1 rfl) (tQ rfl hS (fun w hm => yL hm 1 isAgg3 rfl) (tQ rfl hS (fun w hm => yL hm 1 isAgg3 rfl) (tQ rfl hS (fun w hm => yL hm 2 isAgg3 rfl) (tP rfl (fun w => yB rfl) (tO (gb fun r1_3 hx1_3 => tf rfl rfl (fun a hf => e_call hf rfl call91 rfl (spec_l7Makes_ok _ x_.op _ hx1_3)) ?_))))))))
   rintro v1_3 w ⟨rfl, hB⟩
   replace hm := hm.below' hB; clear hB
   refine tAk hm [0, 1, 2] rfl fun hS => tO (gb fun r1_4 hx1_4 => tf rfl rfl (fun a hf => e_call hf rfl call61 rfl (spec_l1In_ok _ x_.to 0 (w64 (x0_1.regs - 1)) _ hx1_4)) ?_)
   rintro v1_4 w ⟨rfl, hB⟩
   replace hm := hm.below' hB; clear hB
   refine tAn rfl (tP rfl (fun w => yG rfl (y_neqb underlying4 rfl rfl rfl)) (tP rfl (fun w => yM rfl) (gsd 34 rfl (fun h1_2 => ?_) fun h1_2 => ?_)))
   ·
    exact tPo rfl rfl (tO (tEo rfl rfl (tAn rfl (tO (tEo rfl rfl (tAn rfl (tPo rfl rfl (tPo rfl rfl (tPo rfl rfl (tO (tEo rfl rfl (tAn rfl (tPo rfl rfl (tPo rfl rfl (tP rfl (fun w => yKt rfl) (tE (gz hm [0, 1] rfl)))))))))))))))))
   refine tP rfl (fun w => yF fo_106_0 rfl) (tO (tY rfl (yL hm 1 isAgg3 rfl) (tAn rfl (tO (gb fun r1_5 hx1_5 => tf rfl rfl (fun a hf => e_call hf rfl call91 rfl (spec_l7Makes_ok _ x_.op _ hx1_5)) ?_)))))
   rintro v1_5 w ⟨rfl, hB⟩
   replace hm := hm.below' hB; clear hB
   refine tAn rfl (tP rfl (fun w => yN rfl) (tP rfl (fun w => yM rfl) (gsn 39 rfl (fun h1_3 => ?_) fun h1_3 => ?_)))
   ·
    exact tP rfl (fun w => yF fo_106_1 rfl) (tO (tY rfl (yL hm 1 isAgg3 rfl) (tAn rfl (tP rfl (fun w => yB rfl) (tP rfl (fun w => yKt rfl) (tP rfl (fun w => yKf rfl) (tE (gz hm [0, 1] rfl))))))))
   exact tPo rfl rfl (tO (tEo rfl rfl (tAn rfl (tPo rfl rfl (tP rfl (fun w => yKf rfl) (tP rfl (fun w => yKf rfl) (tE (gz hm [0, 1] rfl))))))))
  repeat clear hm
  intro s0_2 w hm
  refine gs 44 rfl (fun h0_4 => ?_) fun h0_4 => ?_
  ·
   exact gct rfl (gS (gR (gA rfl (gE (gRt (gr1 results152 rfl ⟨rfl, hm.below⟩))))))
  refine gcf rfl (gSk (gS (gS (gR (gF fo_106_0 rfl (gL hm 1 isAgg3 rfl (gB rfl (gE (gsd 47 rfl (fun h0_5 => ?_) fun h0_5 => ?_)))))))))
  ·
   refine gct rfl (gS (gJ hm (fun s0_3 => [(6, (.bool (s0_3)))]) (fun s0_3 => []) (fun s0_3 => ?_) ?_))
   ·
    refine gW (.p 0 (.p 2 (.p 3 (.e 1 (.e 4 (.p 5 (.p 6 (.p 9 (.p 11 (.q 7 (.p 8 (.q 10 (.e 12 (.p 13 (.p 14 (.e 15 (.p 16 (.p 17 (.p 18 .fin))) .nil))) .nil)))))))) .nil) .nil)))) [7, 10, 12, 15] [0, 2, 3, 5, 6, 8, 9, 11, 13, 14, 16, 17, 18] hm [0, 1] [blk b0_1 [(sV b0_3 o0_1 u.codes.length c0_1)] 30, blk b0_2 [(nV x_.op), (nV x_.to), v2, (nV x_.n_)] 106] rfl mxo (by kernel_rfl) (fun _ _ _ h => h.2) fun w hm hS => tP rfl (fun w => yF fo_106_3 rfl) (tP rfl (fun w => yM rfl) (tP rfl (fun w => yB rfl) (tO (tY rfl (yL hm 1 isAgg3 rfl) (tAn rfl (tO (gb fun r1_6 hx1_6 => tf rfl rfl (fun a hf => e_call hf rfl call61 rfl (spec_l1In_ok _ x_.n_ 0 (w64 (k_ - 1)) _ hx1_6)) ?_)))))))
    rintro v1_6 w ⟨rfl, hB⟩
    replace hm := hm.below' hB; clear hB
    refine tAk hm [0, 1] rfl fun hS => tP rfl (fun w => yM rfl) (gs 53 rfl (fun h1_4 => ?_) fun h1_4 => ?_)
    ·
     refine tP rfl (fun w => yF fo_106_2 rfl) (tP rfl (fun w => yF fo_30_0 rfl) (tP rfl (fun w => yF fo_106_3 rfl) (tQ rfl hS (fun w hm => yL hm 1 isAgg37 rfl) ?_)))
     obtain ⟨p1_1, c1_1, rfl, hl1_1⟩ := ro_slice h2
     refine tP rfl (fun w => yV st_37 rfl) (tQ rfl hS (fun w hm => yL hm 0 isAgg28 rfl) (tO (tY rfl (yL hm 1 isAgg3 rfl) (tAs hS (gg fun x1_1 h1_5 hx1_8 => ?_)))))
     obtain ⟨v1_7, hc1_1, h1_6⟩ := rk_Code_ h1 hx1_8
     exact tP rfl (fun w => yI st_28 h1_5 (idx_lt hx1_8) rfl) (tP rfl (fun w => yF fo_57_0 rfl) (tO (tY rfl (yl isAgg3 ((hc1_1.mono hm.lez).cell (j := 0) rfl) rfl) (tAs hS (tP rfl (fun w => yB rfl) (tP rfl (fun w => yKt rfl) (tP rfl (fun w => yA rfl) (tE (gz hm [] rfl)))))))))
    exact tPo rfl rfl (tPo rfl rfl (tPo rfl rfl (tQo rfl hS rfl (tPo rfl rfl (tQo rfl hS rfl (tO (tEo rfl rfl (tAs hS (tPo rfl rfl (tPo rfl rfl (tO (tEo rfl rfl (tAs hS (tPo rfl rfl (tP rfl (fun w => yKf rfl) (tP rfl (fun w => yA rfl) (tE (gz hm [] rfl))))))))))))))))))
   repeat clear hm
   intro s0_3 w hm
   exact gRt (gr1 results152 rfl ⟨rfl, hm.below⟩)
  refine gcf rfl (gSk (gS (gJ hm (fun s0_4 => [(6, (.bool (s0_4)))]) (fun s0_4 => []) (fun s0_4 => ?_) ?_)))
  ·
   refine gW (.p 0 (.p 3 (.q 1 (.p 2 (.e 4 (.e 5 (.p 6 (.p 7 (.p 8 (.e 9 (.e 10 (.p 11 (.p 12 (.p 13 (.e 14 (.p 15 (.p 16 (.p 17 (.e 18 (.p 19 (.p 20 (.p 21 (.p 22 .fin)))) .nil)))) .nil)))) .nil) .nil)))) .nil) .nil))))) [4, 5] [0, 2, 3, 6, 7, 8, 11, 12, 13, 15, 16, 17, 19, 20, 21, 22] hm [0, 1] [blk b0_1 [(sV b0_3 o0_1 u.codes.length c0_1)] 30, blk b0_2 [(nV x_.op), (nV x_.to), v2, (nV x_.n_)] 106] rfl mxo (by kernel_rfl) (fun _ _ _ h => h.2) fun w hm hS => tP rfl (fun w => yF fo_106_2 rfl) (tP rfl (fun w => yF fo_106_0 rfl) (tQ rfl hS (fun w hm => yL hm 1 isAgg37 rfl) ?_))
   obtain ⟨p1_2, c1_2, rfl, hl1_2⟩ := ro_slice h2
   refine tP rfl (fun w => yV st_37 rfl) (tO (tY rfl (yL hm 1 isAgg3 rfl) (tAs hS (tO (gb fun r1_7 hx1_9 => tf rfl rfl (fun a hf => e_call hf rfl call221 rfl (spec_l7Args_ok _ x_.op _ hx1_9)) ?_)))))
   rintro v1_8 w ⟨rfl, hB⟩
   replace hm := hm.below' hB; clear hB
   refine tAk hm [0, 1] rfl fun hS => tP rfl (fun w => yB rfl) (tP rfl (fun w => yM rfl) (gsd 73 rfl (fun h1_7 => ?_) fun h1_7 => ?_))
   ·
    refine tP rfl (fun w => yF fo_106_3 rfl) (tO (tY rfl (yL hm 1 isAgg3 rfl) (tAn rfl (tO (gb fun r1_8 hx1_10 => tf rfl rfl (fun a hf => e_call hf rfl call61 rfl (spec_l1In_ok _ x_.n_ 0 255 _ hx1_10)) ?_)))))
    rintro v1_9 w ⟨rfl, hB⟩
    replace hm := hm.below' hB; clear hB
    refine tAn rfl (tP rfl (fun w => yKt rfl) (tP rfl (fun w => yM rfl) (gs 78 rfl (fun h1_8 => ?_) fun h1_8 => ?_)))
    ·
     refine tP rfl (fun w => yF fo_106_3 rfl) (tO (tY rfl (yL hm 1 isAgg3 rfl) (tAn rfl (tP rfl (fun w => yB rfl) (tP rfl (fun w => yM rfl) (gsd 82 rfl (fun h1_9 => ?_) fun h1_9 => ?_))))))
     ·
      exact tPo rfl rfl (tO (tEo rfl rfl (tAn rfl (tPo rfl rfl (tP rfl (fun w => yKt rfl) (tP rfl (fun w => yKt rfl) (tP rfl (fun w => yA rfl) (tE (gz hm [] rfl)))))))))
     exact tP rfl (fun w => yF fo_106_0 rfl) (tO (tY rfl (yL hm 1 isAgg3 rfl) (tAn rfl (tP rfl (fun w => yB rfl) (tP rfl (fun w => yKf rfl) (tP rfl (fun w => yKt rfl) (tP rfl (fun w => yA rfl) (tE (gz hm [] rfl)))))))))
    exact tPo rfl rfl (tO (tEo rfl rfl (tAn rfl (tPo rfl rfl (tPo rfl rfl (tPo rfl rfl (tO (tEo rfl rfl (tAn rfl (tPo rfl rfl (tPo rfl rfl (tP rfl (fun w => yKf rfl) (tP rfl (fun w => yA rfl) (tE (gz hm [] rfl)))))))))))))))
   exact tPo rfl rfl (tO (tEo rfl rfl (tAn rfl (tO (tEo rfl rfl (tAn rfl (tP rfl (fun w => yKf rfl) (tP rfl (fun w => yM rfl) (tPo rfl rfl (tO (tEo rfl rfl (tAn rfl (tPo rfl rfl (tPo rfl rfl (tPo rfl rfl (tO (tEo rfl rfl (tAn rfl (tPo rfl rfl (tPo rfl rfl (tP rfl (fun w => yKf rfl) (tP rfl (fun w => yA rfl) (tE (gz hm [] rfl))))))))))))))))))))))))
  repeat clear hm
  intro s0_4 w hm
  exact gRt (gr1 results152 rfl ⟨rfl, hm.below⟩)

theorem spec_l7Preds_ok (w0 : World) (c_ : Code_) (v1 : Value) (h1 : GT.rep (hp w0) [v1] c_.blocks) (b_ : Int) :
    ConM Tryz.prog 153 [(.agg #[(nV c_.params), (nV c_.regs), v1]), (nV b_)] w0 (spec_l7Preds c_ b_) fun r v w' => ∃ (x1 : Value), v = x1 ∧ Mem w0 (hp w0) w' [ow [x1] r] := by
  unfold spec_l7Preds
  refine gcon func153 rfl fun r => ?_
  have hm := Mem.start w0
  refine gS (gR (gBx hm rfl fun b0_1 w hm => gA rfl (gE (gS (gR (gf rfl (fun a hf => e_build0 (α := Int) et_37 hm rfl) ?_))))))
  rintro v0_1 w hm
  refine gA rfl (gE (gS (gS (gR (gA rfl (gE ?_))))))
  obtain ⟨p0_1, c0_1, rfl, hl0_1⟩ := ro_slice (hm.ow_rep 0 rfl)
  refine gBk (gNg (fun i1_1 xs1_1 a w => ∃ (v1_1 : Value), St 43 [(1, (nV b_)), (2, (pV b0_1)), (5, v1_1), (6, (nV i1_1))] w0 (hp w0) [blk b0_1 [(nV c_.params), (nV c_.regs), v1] 57, ow [v1_1] xs1_1] a w) (fun a hf => ⟨(.slice p0_1 ([] : List Int).length c0_1), hf.sb rfl, hm.pk [1, 0] rfl rfl⟩) ?_ ?_)
  ·
   repeat clear hm
   rintro _ _ i1_1 xs1_1 a w ⟨v1_1, hf, hm⟩ hi0_1 hi0_2 q0_1 _
   refine gv hf (gS (gS (gR (gM rfl (gF fo_57_2 rfl (gL hm 0 isAgg55 rfl ?_))))))
   obtain ⟨p1_1, c1_1, rfl, hl1_1⟩ := ro_slice h1
   refine gY (yV st_55 rfl) (gB rfl (gE (go _ 13 rfl (decide_eq_true (by omega)) (gct rfl (gSk (gS (gBk (gS (gR (gA rfl (gE ?_)))))))))))
   obtain ⟨p1_2, c1_2, rfl, hl1_2⟩ := ro_slice (hm.ow_rep 1 rfl)
   refine gJg (fun s1_1 a w => ∃ (v1_2 : Value), St 43 [(1, (nV b_)), (2, (pV b0_1)), (5, v1_2), (6, (nV i1_1))] w0 (hp w0) [blk b0_1 [(nV c_.params), (nV c_.regs), (.slice p1_1 c_.blocks.length c1_1)] 57, ow [v1_2] s1_1] a w) (fun s1_1 => ?_) ?_
   ·
    refine gBk (gMf hm (fun xs3_1 => [(1, (nV b_)), (2, (pV b0_1)), (5, (.slice p1_2 xs1_1.length c1_2)), (6, (nV i1_1)), (7, (nV xs3_1))]) (fun xs3_1 => [blk b0_1 [(nV c_.params), (nV c_.regs), (.slice p1_1 c_.blocks.length c1_1)] 57, ow [(.slice p1_2 xs1_1.length c1_2)] xs1_1]) [0, 1] rfl ?_)
    repeat clear hm
    intro r2_1 hq2_1 xs3_1 w hm q2_1 ho2_1
    refine gS (gS (gR (gM rfl (gF fo_57_2 rfl (gL hm 0 isAgg55 rfl (gM rfl (gg fun x3_1 h3_1 hx3_2 => ?_)))))))
    obtain ⟨b3_1, o3_1, c3_1, he⟩ := idx_form' h1 hx3_2
    simp only [Value.slice.injEq, Option.some.injEq] at he; obtain ⟨rfl, _, rfl⟩ := he
    obtain ⟨v3_1, v3_2, v3_3, hc3_1, h3_2, h3_3, h3_4⟩ := rk_Block_ h1 hx3_2
    refine gI st_55 h3_1 (idx_lt hx3_2) rfl (gF fo_104_4 rfl (gY (yl isAgg37 ((hc3_1.mono hm.lez).cell (j := 4) rfl) rfl) ?_))
    obtain ⟨p3_1, c3_2, rfl, hl3_1⟩ := ro_slice h3_4
    refine gY (yV st_37 rfl) (gB rfl (gE (gsd 24 rfl (fun h3_5 => ?_) fun h3_5 => ?_)))
    ·
     refine gct rfl (gSk (gS (gBk (gS (gR (gF fo_57_2 rfl (gL hm 0 isAgg55 rfl (gM rfl (gI st_55 h3_1 (idx_lt hx3_2) rfl (gF fo_104_4 rfl (gY (yl isAgg37 ((hc3_1.mono hm.lez).cell (j := 4) rfl) rfl) (gM rfl (gg fun x3_2 h3_6 hx3_4 => ?_)))))))))))))
     obtain ⟨b3_2, o3_2, c3_3, he⟩ := idx_form h3_4 hx3_4
     simp only [Value.slice.injEq, Option.some.injEq] at he; obtain ⟨rfl, _, rfl⟩ := he
     refine gI st_37 h3_6 (idx_lt hx3_4) rfl (gY (yl isAgg3 ((flat_cells (cs := [(nV x3_2)]) (hm.now h3_4) hx3_4 rfl).cell (j := 0) rfl) rfl) (gM rfl (gB rfl (gE (gsd 37 rfl (fun h3_7 => ?_) fun h3_7 => ?_)))))
     ·
      refine gct rfl (gS (gR (gM rfl (gM rfl (gf rfl (fun a hf => e_build (vs := #[(0, (nV i1_1))]) (cs := [(nV i1_1)]) et_37 hf hm rfl rfl (by kernel_rfl) rfl rfl) ?_)))))
      rintro _ w ⟨b3_3, rfl, hm⟩
      replace hm := hm.lit (xs := ([i1_1] : List Int)) 0 rfl rfl rfl rfl
      refine gb fun ys3_1 hx3_5 => ?_
      obtain ⟨h3_8, h3_8e⟩ := appM_some.1 hx3_5
      refine gf rfl (fun a hf => e_append 2 et_37 hf hm rfl (hm.ow_rep 0 rfl) rfl rfl rfl h3_8) ?_
      rintro v3_4 w hm
      rw [h3_8e] at hm
      exact gA rfl (gE (gXt (gHm rfl (gHh (gLp ho2_1 hq2_1 (gZ fun a hf => ⟨v3_4, hf.sb rfl, hm.pk [1, 2] rfl rfl⟩))))))
     exact gcf rfl (gSk (gR (gM rfl (gB rfl (gA rfl (gE (gze hm [0, 1] rfl)))))))
    exact gcf rfl (gXt (gHh (gLp ho2_1 hq2_1 (gZ fun a hf => ⟨(.slice p1_2 xs1_1.length c1_2), hf.sb rfl, hm.pk [0, 1] rfl rfl⟩))))
   repeat clear hm
   rintro s1_1 a w ⟨v1_2, hf, hm⟩
   exact gv hf (gR (gM rfl (gP (by omega) (by omega) rfl (gA rfl (gE (gZe fun a hf => ⟨v1_2, hf.sb rfl, hm.pk [0, 1] rfl rfl⟩))))))
  repeat clear hm
  rintro i0_1 xs0_1 a w ⟨v0_2, hf, hm⟩ hi0_3 hi0_4
  refine gv hf (gS (gS (gR (gM rfl (gF fo_57_2 rfl (gL hm 0 isAgg55 rfl ?_))))))
  obtain ⟨p0_2, c0_2, rfl, hl0_2⟩ := ro_slice h1
  exact gY (yV st_55 rfl) (gB rfl (gE (go _ 13 rfl (decide_eq_false (by omega)) (gcf rfl (gXt (gHh (gS (gR (gM rfl (gA rfl (gE (gRt (gr1 results153 rfl ⟨v0_2, rfl, hm.pk [1] rfl rfl⟩)))))))))))))

theorem spec_l7Block_ok (w0 : World) (u : Unit_) (v1 : Value) (h1 : GT.rep (hp w0) [v1] u.codes) (k_ : Int) (b_ : Int) :
    ConM Tryz.prog 108 [(.agg #[v1]), (nV k_), (nV b_)] w0 (spec_l7Block u k_ b_) fun r v w' => v = (.bool (r)) ∧ Below w0.heap.size w0 w' := by
  unfold spec_l7Block
  refine gcon func108 rfl fun r => ?_
  have hm := Mem.start w0
  refine gS (gR (gBx hm rfl fun b0_1 w hm => gA rfl (gE (gS (gR (gF fo_30_0 rfl (gL hm 0 isAgg28 rfl (gM rfl (gg fun x0_1 h0_1 hx0_2 => ?_)))))))))
  obtain ⟨b0_2, o0_1, c0_1, he⟩ := idx_form' h1 hx0_2
  subst he
  obtain ⟨v0_1, hc0_1, h0_2⟩ := rk_Code_ h1 hx0_2
  refine gI st_28 h0_1 (idx_lt hx0_2) rfl (gY (yn (hc0_1.mono hm.lez) isAgg57 sizeOf57 rfl) (gAl hm zeroValue57 rfl fun b0_3 w hm => gSN hm 0 sizeOf57 (one_cons rfl (one_cons rfl (one_cons (rep_one h0_2) one_nil))) rfl fun w hm => gE (gS (gR (gF fo_57_2 rfl (gL hm 0 isAgg55 rfl (gM rfl (gg fun x0_2 h0_3 hx0_4 => ?_))))))))
  obtain ⟨b0_4, o0_2, c0_2, he⟩ := idx_form' h0_2 hx0_4
  subst he
  obtain ⟨v0_2, v0_3, v0_4, hc0_2, h0_4, h0_5, h0_6⟩ := rk_Block_ h0_2 hx0_4
  refine gI st_55 h0_3 (idx_lt hx0_4) rfl (gY (yn (hc0_2.mono hm.lez) isAgg104 sizeOf104 rfl) (gAl hm zeroValue104 rfl fun b0_5 w hm => gSN hm 0 sizeOf104 (one_cons (rep_one h0_4) (one_cons (rep_one h0_5) (one_cons rfl (one_cons rfl (one_cons (rep_one h0_6) one_nil))))) rfl fun w hm => gE (gS (gR (gA rfl (gE (gS (gS (gR (gF fo_104_2 rfl (gL hm 0 isAgg3 rfl (gE (gJge (fun s0_1 a w => 0 ≤ x0_2.jump ∧ x0_2.jump ≤ 3 ∧ 0 ≤ s0_1 ∧ s0_1 ≤ 2 ∧ St 136 [(1, (nV k_)), (2, (nV b_)), (3, (pV b0_1)), (7, (pV b0_3)), (8, (pV b0_5)), (9, (nV s0_1))] w0 (hp w0) [blk b0_1 [(sV b0_2 o0_1 u.codes.length c0_1)] 30, blk b0_3 [(nV x0_1.params), (nV x0_1.regs), (sV b0_4 o0_2 x0_1.blocks.length c0_2)] 57, blk b0_5 [v0_2, v0_3, (nV x0_2.jump), (nV x0_2.on), v0_4] 104] a w) (fun c0_3 hq0_1 => ?_) ?_)))))))))))))
  ·
   refine gBk (gS (gR (gB rfl (gA rfl (gE (gJge (fun s1_1 a w => 0 ≤ x0_2.jump ∧ x0_2.jump ≤ 3 ∧ 0 ≤ s1_1 ∧ s1_1 ≤ 2 ∧ St 136 [(1, (nV k_)), (2, (nV b_)), (3, (pV b0_1)), (7, (pV b0_3)), (8, (pV b0_5)), (9, (nV s1_1))] w0 (hp w0) [blk b0_1 [(sV b0_2 o0_1 u.codes.length c0_1)] 30, blk b0_3 [(nV x0_1.params), (nV x0_1.regs), (sV b0_4 o0_2 x0_1.blocks.length c0_2)] 57, blk b0_5 [v0_2, v0_3, (nV x0_2.jump), (nV x0_2.on), v0_4] 104] a w) (fun c1_1 hq1_1 => ?_) ?_))))))
   ·
    refine gsd 26 rfl (fun h2_1 => ?_) fun h2_1 => ?_
    ·
     refine gct rfl (gS (gR (gF fo_104_3 rfl (gL hm 0 isAgg3 rfl (gB rfl (gE (gsd 30 rfl (fun h2_2 => ?_) fun h2_2 => ?_)))))))
     ·
      exact gct rfl (gS (gR (gA rfl (gE (gRt (gEr hq1_1 (gEr hq0_1 (gr1 results108 rfl ⟨rfl, hm.below⟩))))))))
     exact gcf rfl (gSk (gZe fun a hf => ⟨(by first | omega | (dsimp only; omega)), (by first | omega | (dsimp only; omega)), (by first | omega | (dsimp only; omega)), (by first | omega | (dsimp only; omega)), hf.sb rfl, hm.pk [2, 1, 0] rfl rfl⟩))
    refine gcf rfl (gS (gR (gB rfl (gA rfl (gE (gJge (fun s2_1 a w => 0 ≤ x0_2.jump ∧ x0_2.jump ≤ 3 ∧ 0 ≤ s2_1 ∧ s2_1 ≤ 2 ∧ St 136 [(1, (nV k_)), (2, (nV b_)), (3, (pV b0_1)), (7, (pV b0_3)), (8, (pV b0_5)), (9, (nV s2_1))] w0 (hp w0) [blk b0_1 [(sV b0_2 o0_1 u.codes.length c0_1)] 30, blk b0_3 [(nV x0_1.params), (nV x0_1.regs), (sV b0_4 o0_2 x0_1.blocks.length c0_2)] 57, blk b0_5 [v0_2, v0_3, (nV x0_2.jump), (nV x0_2.on), v0_4] 104] a w) (fun c2_1 hq2_1 => ?_) ?_))))))
    ·
     refine gsd 31 rfl (fun h3_1 => ?_) fun h3_1 => ?_
     ·
      exact gct rfl (gR (gA rfl (gE (gZe fun a hf => ⟨(by first | omega | (dsimp only; omega)), (by first | omega | (dsimp only; omega)), (by first | omega | (dsimp only; omega)), (by first | omega | (dsimp only; omega)), hf.sb rfl, hm.pk [2, 1, 0] rfl rfl⟩))))
     refine gcf rfl (gS (gR (gB rfl (gA rfl (gE (gsd 33 rfl (fun h3_2 => ?_) fun h3_2 => ?_))))))
     ·
      exact gct rfl (gR (gA rfl (gE (gZe fun a hf => ⟨(by first | omega | (dsimp only; omega)), (by first | omega | (dsimp only; omega)), (by first | omega | (dsimp only; omega)), (by first | omega | (dsimp only; omega)), hf.sb rfl, hm.pk [2, 1, 0] rfl rfl⟩))))
     exact gcf rfl (gS (gR (gA rfl (gE (gRt (gEr hq2_1 (gEr hq1_1 (gEr hq0_1 (gr1 results108 rfl ⟨rfl, hm.below⟩)))))))))
    repeat clear hm
    rintro s2_1 a w ⟨hn2_1, hn2_2, hn2_3, hn2_4, hf, hm⟩
    exact gv hf (gZe fun a hf => ⟨(by first | omega | (dsimp only; omega)), (by first | omega | (dsimp only; omega)), (by first | omega | (dsimp only; omega)), (by first | omega | (dsimp only; omega)), hf.sb rfl, hm.pk [0, 1, 2] rfl rfl⟩)
   repeat clear hm
   rintro s1_1 a w ⟨hn1_1, hn1_2, hn1_3, hn1_4, hf, hm⟩
   exact gv hf (gZe fun a hf => ⟨(by first | omega | (dsimp only; omega)), (by first | omega | (dsimp only; omega)), (by first | omega | (dsimp only; omega)), (by first | omega | (dsimp only; omega)), hf.sb rfl, hm.pk [0, 1, 2] rfl rfl⟩)
  repeat clear hm
  rintro s0_1 a w ⟨hn0_1, hn0_2, hn0_3, hn0_4, hf, hm⟩
  refine gv hf (gS (gS (gJg (fun s0_2 a w => 0 ≤ x0_2.jump ∧ x0_2.jump ≤ 3 ∧ St 136 [(1, (nV k_)), (2, (nV b_)), (3, (pV b0_1)), (7, (pV b0_3)), (8, (pV b0_5)), (53, (.bool (s0_2)))] w0 (hp w0) [blk b0_1 [(sV b0_2 o0_1 u.codes.length c0_1)] 30, blk b0_3 [(nV x0_1.params), (nV x0_1.regs), (sV b0_4 o0_2 x0_1.blocks.length c0_2)] 57, blk b0_5 [v0_2, v0_3, (nV x0_2.jump), (nV x0_2.on), v0_4] 104] a w) (fun s0_2 => ?_) ?_)))
  ·
   refine gR (gF fo_104_4 rfl (gL hm 2 isAgg37 rfl ?_))
   obtain ⟨p1_1, c1_2, rfl, hl1_1⟩ := ro_slice h0_6
   refine gY (yV st_37 rfl) (gM rfl (gB rfl (gM rfl (gsd 40 rfl (fun h1_1 => ?_) fun h1_1 => ?_))))
   ·
    exact gO rfl (gO rfl (gO rfl (gO rfl (gO rfl (gO rfl (gO rfl (gO rfl (gO rfl (gO rfl (gO rfl (gO rfl (gKt rfl (gE (gZ fun a hf => ⟨(by first | omega | (dsimp only; omega)), (by first | omega | (dsimp only; omega)), hf.sb rfl, hm.pk [0, 1, 2] rfl rfl⟩))))))))))))))
   refine gF fo_104_2 rfl (gL hm 2 isAgg3 rfl (gB rfl (gM rfl (gsd 44 rfl (fun h1_2 => ?_) fun h1_2 => ?_))))
   ·
    exact gF fo_104_3 rfl (gL hm 2 isAgg3 rfl (gF fo_57_1 rfl (gL hm 1 isAgg3 rfl (gB rfl (gC hm rfl call61 (spec_l1In_ok _ x0_2.on 0 (w64 (x0_1.regs - 1))) fun r1_1 hx1_1 w hm => gN rfl (gKt rfl (gKf rfl (gE (gZ fun a hf => ⟨(by first | omega | (dsimp only; omega)), (by first | omega | (dsimp only; omega)), hf.sb rfl, hm.pk [0, 1, 2] rfl rfl⟩)))))))))
   exact gO rfl (gO rfl (gO rfl (gO rfl (gO rfl (gO rfl (gO rfl (gKf rfl (gKf rfl (gE (gZ fun a hf => ⟨(by first | omega | (dsimp only; omega)), (by first | omega | (dsimp only; omega)), hf.sb rfl, hm.pk [0, 1, 2] rfl rfl⟩))))))))))
  repeat clear hm
  rintro s0_2 a w ⟨hn0_5, hn0_6, hf, hm⟩
  refine gv hf (gs 53 rfl (fun h0_7 => ?_) fun h0_7 => ?_)
  ·
   exact gct rfl (gS (gR (gA rfl (gE (gRt (gr1 results108 rfl ⟨rfl, hm.below⟩))))))
  refine gcf rfl (gSk (gS (gS (gR (gA rfl (gE (gBk (gNf hm (fun i1_1 xs1_1 => [(1, (nV k_)), (2, (nV b_)), (3, (pV b0_1)), (7, (pV b0_3)), (8, (pV b0_5)), (10, (nV i1_1))]) (fun i1_1 xs1_1 => [blk b0_1 [(sV b0_2 o0_1 u.codes.length c0_1)] 30, blk b0_3 [(nV x0_1.params), (nV x0_1.regs), (sV b0_4 o0_2 x0_1.blocks.length c0_2)] 57, blk b0_5 [v0_2, v0_3, (nV x0_2.jump), (nV x0_2.on), v0_4] 104]) [0, 1, 2] rfl ?_ ?_))))))))
  ·
   repeat clear hm
   intro r0_1 hq0_3 i1_1 xs1_1 w hm hi0_1 hi0_2 q0_1 ho0_1
   refine gS (gS (gR (gM rfl (gF fo_104_4 rfl (gL hm 2 isAgg37 rfl ?_)))))
   obtain ⟨p1_2, c1_3, rfl, hl1_2⟩ := ro_slice h0_6
   refine gY (yV st_37 rfl) (gB rfl (gE (go _ 58 rfl (decide_eq_true (by omega)) (gct rfl (gSk (gS (gBk (gS (gW (.p 0 (.p 2 (.p 5 (.q 1 (.p 3 (.q 4 (.e 6 (.p 7 (.p 8 (.e 9 (.p 10 .fin) .nil))) .nil))))))) [6] [0, 2, 3, 5, 7, 8, 10] hm [0, 1, 2] [blk b0_1 [(sV b0_2 o0_1 u.codes.length c0_1)] 30, blk b0_3 [(nV x0_1.params), (nV x0_1.regs), (sV b0_4 o0_2 x0_1.blocks.length c0_2)] 57, blk b0_5 [v0_2, v0_3, (nV x0_2.jump), (nV x0_2.on), (.slice p1_2 x0_2.next_.length c1_3)] 104] rfl mxo (by kernel_rfl) (fun _ _ _ h => h.2) fun w hm hS => tP rfl (fun w => yF fo_104_4 rfl) (tP rfl (fun w => yM rfl) (tP rfl (fun w => yF fo_57_2 rfl) (tQ rfl hS (fun w hm => yL hm 2 isAgg37 rfl) (gg fun x1_1 h1_3 hx1_3 => ?_)))))))))))))
   obtain ⟨b1_1, o1_1, c1_4, he⟩ := idx_form h0_6 hx1_3
   simp only [Value.slice.injEq, Option.some.injEq] at he; obtain ⟨rfl, _, rfl⟩ := he
   refine tP rfl (fun w => yI st_37 h1_3 (idx_lt hx1_3) rfl) (tQ rfl hS (fun w hm => yl isAgg3 ((flat_cells (cs := [(nV x1_1)]) (hm.now h0_6) hx1_3 rfl).cell (j := 0) rfl) rfl) (tO (tY rfl (yL hm 1 isAgg55 rfl) (tAs hS ?_))))
   have hl1_3 := rep_len h0_2
   refine tP rfl (fun w => yV st_55 rfl) (tP rfl (fun w => yS (by omega) (by omega) rfl) (tO (gb fun r1_2 hx1_4 => tf rfl rfl (fun a hf => e_call hf rfl call61 rfl (spec_l1In_ok _ x1_1 1 (((x0_1.blocks.length : Int)) - 1) _ hx1_4)) ?_)))
   rintro v1_2 w ⟨rfl, hB⟩
   replace hm := hm.below' hB; clear hB
   refine tAn rfl (tP rfl (fun w => yN rfl) (tE (gsn 71 rfl (fun h1_4 => ?_) fun h1_4 => ?_)))
   ·
    exact gct rfl (gS (gR (gA rfl (gE (gRt (gLr ho0_1 hq0_3 (gr1 results108 rfl ⟨rfl, hm.below⟩)))))))
   exact gcf rfl (gSk (gR (gM rfl (gP (by omega) (by omega) rfl (gA rfl (gE (gze hm [0, 1, 2] rfl)))))))
  repeat clear hm
  intro i0_1 xs0_1 w hm hi0_3 hi0_4
  refine gS (gS (gR (gM rfl (gF fo_104_4 rfl (gL hm 2 isAgg37 rfl ?_)))))
  obtain ⟨p0_1, c0_4, rfl, hl0_1⟩ := ro_slice h0_6
  refine gY (yV st_37 rfl) (gB rfl (gE (go _ 58 rfl (decide_eq_false (by omega)) (gcf rfl (gXt (gHh (gS (gS (gR (gA rfl (gE (gBk (gNf hm (fun i1_2 xs1_2 => [(1, (nV k_)), (2, (nV b_)), (3, (pV b0_1)), (7, (pV b0_3)), (8, (pV b0_5)), (11, (nV i1_2))]) (fun i1_2 xs1_2 => [blk b0_1 [(sV b0_2 o0_1 u.codes.length c0_1)] 30, blk b0_3 [(nV x0_1.params), (nV x0_1.regs), (sV b0_4 o0_2 x0_1.blocks.length c0_2)] 57, blk b0_5 [v0_2, v0_3, (nV x0_2.jump), (nV x0_2.on), (.slice p0_1 x0_2.next_.length c0_4)] 104]) [0, 1, 2] rfl ?_ ?_)))))))))))))
  ·
   repeat clear hm
   intro r0_2 hq0_4 i1_2 xs1_2 w hm hi0_5 hi0_6 q0_2 ho0_2
   refine gS (gS (gR (gM rfl (gF fo_104_1 rfl (gL hm 2 isAgg102 rfl ?_)))))
   obtain ⟨p1_3, c1_5, rfl, hl1_4⟩ := ro_slice h0_5
   refine gY (yV st_102 rfl) (gB rfl (gE (go _ 76 rfl (decide_eq_true (by omega)) (gct rfl (gSk (gS (gBk (gS (gW (.p 1 (.p 2 (.p 4 (.q 0 (.e 3 (.p 5 (.e 6 (.e 7 (.p 8 .fin) .nil) .nil)) .nil))))) [3, 6] [1, 2, 4, 5, 8] hm [0, 1, 2] [blk b0_1 [(sV b0_2 o0_1 u.codes.length c0_1)] 30, blk b0_3 [(nV x0_1.params), (nV x0_1.regs), (sV b0_4 o0_2 x0_1.blocks.length c0_2)] 57, blk b0_5 [v0_2, (.slice p1_3 x0_2.ins.length c1_5), (nV x0_2.jump), (nV x0_2.on), (.slice p0_1 x0_2.next_.length c0_4)] 104] rfl mxo (by kernel_rfl) (fun _ _ _ h => h.2) fun w hm hS => tP rfl (fun w => yM rfl) (tP rfl (fun w => yF fo_104_1 rfl) (tP rfl (fun w => yM rfl) (tQ rfl hS (fun w hm => yn (hm.blk_at 0 rfl) isAgg30 sizeOf30 rfl) (tO (tY rfl (yL hm 2 isAgg102 rfl) (tAs hS (gg fun x1_2 h1_5 hx1_6 => ?_))))))))))))))))
   obtain ⟨b1_2, o1_2, c1_6, he⟩ := idx_form' h0_5 hx1_6
   simp only [Value.slice.injEq, Option.some.injEq] at he; obtain ⟨rfl, _, rfl⟩ := he
   obtain ⟨v1_3, hc1_1, h1_6⟩ := rk_Ins_ h0_5 hx1_6
   refine tP rfl (fun w => yI st_102 h1_5 (idx_lt hx1_6) rfl) (tO (tY rfl (yn (hc1_1.mono hm.lez) isAgg106 sizeOf106 rfl) (tAs hS (tO (gb fun r1_3 hx1_7 => tf rfl rfl (fun a hf => e_call hf rfl call152 rfl (spec_l7Ins_ok _ u (sV b0_2 o0_1 u.codes.length c0_1) (hm.now h1) k_ x1_2 v1_3 (hm.now h1_6) _ hx1_7)) ?_)))))
   rintro v1_4 w ⟨rfl, hB⟩
   replace hm := hm.below' hB; clear hB
   refine tAn rfl (tP rfl (fun w => yN rfl) (tE (gsn 87 rfl (fun h1_7 => ?_) fun h1_7 => ?_)))
   ·
    exact gct rfl (gS (gR (gA rfl (gE (gRt (gLr ho0_2 hq0_4 (gr1 results108 rfl ⟨rfl, hm.below⟩)))))))
   exact gcf rfl (gSk (gR (gM rfl (gP (by omega) (by omega) rfl (gA rfl (gE (gze hm [0, 1, 2] rfl)))))))
  repeat clear hm
  intro i0_2 xs0_2 w hm hi0_7 hi0_8
  refine gS (gS (gR (gM rfl (gF fo_104_1 rfl (gL hm 2 isAgg102 rfl ?_)))))
  obtain ⟨p0_2, c0_5, rfl, hl0_2⟩ := ro_slice h0_5
  refine gY (yV st_102 rfl) (gB rfl (gE (go _ 76 rfl (decide_eq_false (by omega)) (gcf rfl (gXt (gHh (gS (gR (gY (yn (hm.blk_at 1 rfl) isAgg57 sizeOf57 rfl) (gM rfl (gCg rfl call153 (spec_l7Preds_ok _ x0_1 (sV b0_4 o0_2 x0_1.blocks.length c0_2) (hm.now h0_2) b_) ?_)))))))))))
  rintro r0_3 hx0_5 v0_5 w ⟨_, rfl, hB⟩
  replace hm := hm.give hB; clear hB
  refine gA rfl (gE (gS (gS (gR (gA rfl (gE ?_))))))
  obtain ⟨p0_3, c0_6, rfl, hl0_3⟩ := ro_slice (hm.ow_rep 0 rfl)
  refine gBk (gNf hm (fun i1_3 xs1_3 => [(2, (nV b_)), (7, (pV b0_3)), (8, (pV b0_5)), (12, (.slice p0_3 r0_3.length c0_6)), (13, (nV i1_3))]) (fun i1_3 xs1_3 => [blk b0_3 [(nV x0_1.params), (nV x0_1.regs), (sV b0_4 o0_2 x0_1.blocks.length c0_2)] 57, blk b0_5 [v0_2, (.slice p0_2 x0_2.ins.length c0_5), (nV x0_2.jump), (nV x0_2.on), (.slice p0_1 x0_2.next_.length c0_4)] 104, ow [(.slice p0_3 r0_3.length c0_6)] r0_3]) [2, 3, 0] rfl ?_ ?_)
  ·
   repeat clear hm
   intro r0_4 hq0_5 i1_3 xs1_3 w hm hi0_9 hi0_10 q0_3 ho0_4
   refine gS (gS (gR (gM rfl (gF fo_104_0 rfl (gL hm 1 isAgg101 rfl ?_)))))
   obtain ⟨p1_4, c1_7, rfl, hl1_5⟩ := ro_slice h0_4
   refine gY (yV st_101 rfl) (gB rfl (gE (go _ 95 rfl (decide_eq_true (by omega)) (gct rfl (gSk (gS (gBk (gS (gJ hm (fun s1_2 => [(2, (nV b_)), (7, (pV b0_3)), (8, (pV b0_5)), (12, (.slice p0_3 r0_3.length c0_6)), (13, (nV i1_3)), (135, (.bool (s1_2)))]) (fun s1_2 => [blk b0_3 [(nV x0_1.params), (nV x0_1.regs), (sV b0_4 o0_2 x0_1.blocks.length c0_2)] 57, blk b0_5 [(.slice p1_4 x0_2.phis.length c1_7), (.slice p0_2 x0_2.ins.length c0_5), (nV x0_2.jump), (nV x0_2.on), (.slice p0_1 x0_2.next_.length c0_4)] 104, ow [(.slice p0_3 r0_3.length c0_6)] r0_3]) (fun s1_2 => ?_) ?_)))))))))
   ·
    refine gW (.p 0 (.p 1 (.p 2 (.p 3 (.p 5 (.p 10 (.p 11 (.e 4 (.p 6 (.p 7 (.e 8 (.p 9 (.p 12 (.p 13 (.p 14 (.p 16 (.p 18 (.q 15 (.e 17 (.p 19 (.p 20 (.e 21 (.e 22 (.p 23 (.p 24 (.p 25 (.p 26 (.p 28 (.p 32 (.q 27 (.p 29 (.p 30 (.q 31 (.e 33 (.p 34 (.e 35 (.p 36 (.p 37 .fin)) .nil)) .nil))))))))))) .nil) .nil))) .nil)))))))) .nil))) .nil)))))))) [17, 21, 33] [0, 1, 2, 3, 5, 6, 7, 9, 10, 11, 12, 13, 14, 16, 18, 19, 20, 23, 24, 25, 26, 28, 29, 30, 32, 34, 36, 37] hm [0, 1, 2] [blk b0_3 [(nV x0_1.params), (nV x0_1.regs), (sV b0_4 o0_2 x0_1.blocks.length c0_2)] 57, blk b0_5 [(.slice p1_4 x0_2.phis.length c1_7), (.slice p0_2 x0_2.ins.length c0_5), (nV x0_2.jump), (nV x0_2.on), (.slice p0_1 x0_2.next_.length c0_4)] 104, ow [(.slice p0_3 r0_3.length c0_6)] r0_3] rfl mxo (by kernel_rfl) (fun _ _ _ h => h.2) fun w hm hS => tP rfl (fun w => yM rfl) (tP rfl (fun w => yB rfl) (tP rfl (fun w => yM rfl) (gsd 100 rfl (fun h2_3 => ?_) fun h2_3 => ?_)))
    ·
     refine tPo rfl rfl (tPo rfl rfl (tPo rfl rfl (tPo rfl rfl (tO (tEo rfl rfl (tAn rfl (tPo rfl rfl (tPo rfl rfl (tO (tEo rfl rfl (tAn rfl (tPo rfl rfl (tPo rfl rfl (tP rfl (fun w => yKt rfl) (tP rfl (fun w => yM rfl) (tPo rfl rfl (tPo rfl rfl (tQo rfl hS rfl (tO (tEo rfl rfl (tAs hS (tPo rfl rfl (tPo rfl rfl (tO (tEo rfl rfl (tAs hS (tO (tEo rfl rfl (tAn rfl (tPo rfl rfl ?_))))))))))))))))))))))))))))))
     exact tP rfl (fun w => yKt rfl) (tP rfl (fun w => yM rfl) (tPo rfl rfl (tPo rfl rfl (tPo rfl rfl (tQo rfl hS rfl (tPo rfl rfl (tPo rfl rfl (tQo rfl hS rfl (tO (tEo rfl rfl (tAs hS (tPo rfl rfl (tO (tEo rfl rfl (tAn rfl (tPo rfl rfl (tP rfl (fun w => yKt rfl) (tE (gz hm [0, 1, 2] rfl)))))))))))))))))))
    refine tP rfl (fun w => yF fo_104_0 rfl) (tP rfl (fun w => yM rfl) (tP rfl (fun w => yM rfl) (tP rfl (fun w => yV st_37 rfl) (tO (tY rfl (yL hm 1 isAgg101 rfl) (tAn rfl (gg fun x2_1 h2_4 hx2_2 => ?_)))))))
    obtain ⟨b2_1, o2_1, c2_2, he⟩ := idx_form' h0_4 hx2_2
    simp only [Value.slice.injEq, Option.some.injEq] at he; obtain ⟨rfl, _, rfl⟩ := he
    obtain ⟨v2_1, hc2_1, h2_5⟩ := rk_Phi_ h0_4 hx2_2
    refine tP rfl (fun w => yI st_101 h2_4 (idx_lt hx2_2) rfl) (tP rfl (fun w => yF fo_143_1 rfl) (tO (tY rfl (yl isAgg37 ((hc2_1.mono hm.lez).cell (j := 1) rfl) rfl) (tAn rfl ?_))))
    obtain ⟨p2_1, c2_3, rfl, hl2_1⟩ := ro_slice h2_5
    refine tP rfl (fun w => yV st_37 rfl) (tP rfl (fun w => yB rfl) (tP rfl (fun w => yKf rfl) (tP rfl (fun w => yM rfl) (gsd 112 rfl (fun h2_6 => ?_) fun h2_6 => ?_))))
    ·
     refine tPo rfl rfl (tPo rfl rfl (tQo rfl hS rfl (tO (tEo rfl rfl (tAs hS (tPo rfl rfl (tPo rfl rfl (tO (tEo rfl rfl (tAs hS (tO (tEo rfl rfl (tAn rfl (tPo rfl rfl (tP rfl (fun w => yKt rfl) (tP rfl (fun w => yM rfl) (tPo rfl rfl (tPo rfl rfl (tPo rfl rfl (tQo rfl hS rfl (tPo rfl rfl (tPo rfl rfl (tQo rfl hS rfl (tO (tEo rfl rfl (tAs hS (tPo rfl rfl (tO (tEo rfl rfl (tAn rfl ?_))))))))))))))))))))))))))))))
     exact tPo rfl rfl (tP rfl (fun w => yKt rfl) (tE (gz hm [0, 1, 2] rfl)))
    refine tP rfl (fun w => yF fo_104_0 rfl) (tP rfl (fun w => yM rfl) (tQ rfl hS (fun w hm => yn (hm.blk_at 0 rfl) isAgg57 sizeOf57 rfl) (tO (tY rfl (yL hm 1 isAgg101 rfl) (tAs hS (tP rfl (fun w => yI st_101 h2_4 (idx_lt hx2_2) rfl) (tP rfl (fun w => yF fo_143_1 rfl) (tO (tY rfl (yl isAgg37 ((hc2_1.mono hm.lez).cell (j := 1) rfl) rfl) (tAs hS (tO (gb fun r2_1 hx2_3 => tf rfl rfl (fun a hf => e_call hf rfl call154 rfl (spec_l7Regs_ok _ x0_1 (sV b0_4 o0_2 x0_1.blocks.length c0_2) (hm.now h0_2) x2_1.args (.slice p2_1 x2_1.args.length c2_3) (hm.now h2_5) _ hx2_3)) ?_))))))))))))
    rintro v2_2 w ⟨rfl, hB⟩
    replace hm := hm.below' hB; clear hB
    refine tAk hm [0, 1, 2] rfl fun hS => tP rfl (fun w => yN rfl) (tP rfl (fun w => yKf rfl) (tP rfl (fun w => yM rfl) (gsn 123 rfl (fun h2_7 => ?_) fun h2_7 => ?_)))
    ·
     exact tPo rfl rfl (tPo rfl rfl (tPo rfl rfl (tQo rfl hS rfl (tPo rfl rfl (tPo rfl rfl (tQo rfl hS rfl (tO (tEo rfl rfl (tAs hS (tPo rfl rfl (tO (tEo rfl rfl (tAn rfl (tPo rfl rfl (tP rfl (fun w => yKt rfl) (tE (gz hm [0, 1, 2] rfl)))))))))))))))))
    refine tP rfl (fun w => yF fo_104_0 rfl) (tP rfl (fun w => yM rfl) (tP rfl (fun w => yF fo_57_1 rfl) (tQ rfl hS (fun w hm => yL hm 1 isAgg101 rfl) (tP rfl (fun w => yI st_101 h2_4 (idx_lt hx2_2) rfl) (tP rfl (fun w => yF fo_143_0 rfl) (tQ rfl hS (fun w hm => yl isAgg3 ((hc2_1.mono hm.lez).cell (j := 0) rfl) rfl) (tO (tY rfl (yL hm 0 isAgg3 rfl) (tAs hS (tP rfl (fun w => yB rfl) (tO (gb fun r2_2 hx2_4 => tf rfl rfl (fun a hf => e_call hf rfl call61 rfl (spec_l1In_ok _ x2_1.to 0 (w64 (x0_1.regs - 1)) _ hx2_4)) ?_))))))))))))
    rintro v2_3 w ⟨rfl, hB⟩
    replace hm := hm.below' hB; clear hB
    exact tAn rfl (tP rfl (fun w => yN rfl) (tP rfl (fun w => yKf rfl) (tE (gz hm [0, 1, 2] rfl))))
   repeat clear hm
   intro s1_2 w hm
   refine gs 135 rfl (fun h1_8 => ?_) fun h1_8 => ?_
   ·
    exact gct rfl (gS (gR (gA rfl (gE (gRt (gLr ho0_4 hq0_5 (gr1 results108 rfl ⟨rfl, hm.below⟩)))))))
   exact gcf rfl (gSk (gR (gM rfl (gP (by omega) (by omega) rfl (gA rfl (gE (gze hm [0, 1, 2] rfl)))))))
  repeat clear hm
  intro i0_3 xs0_3 w hm hi0_11 hi0_12
  refine gS (gS (gR (gM rfl (gF fo_104_0 rfl (gL hm 1 isAgg101 rfl ?_)))))
  obtain ⟨p0_4, c0_7, rfl, hl0_4⟩ := ro_slice h0_4
  exact gY (yV st_101 rfl) (gB rfl (gE (go _ 95 rfl (decide_eq_false (by omega)) (gcf rfl (gXt (gHh (gS (gR (gA rfl (gE (gRt (gr1 results108 rfl ⟨rfl, hm.below⟩))))))))))))

theorem spec_UnitValid_ok (w0 : World) (u : Unit_) (v1 : Value) (h1 : GT.rep (hp w0) [v1] u.codes) :
    ConM Tryz.prog 67 [(.agg #[v1])] w0 (spec_UnitValid u) fun r v w' => v = (.bool (r)) ∧ Below w0.heap.size w0 w' := by
  unfold spec_UnitValid
  refine gcon func67 rfl fun r => ?_
  have hm := Mem.start w0
  refine gS (gR (gBx hm rfl fun b0_1 w hm => gA rfl (gE (gS (gS (gR (gF fo_30_0 rfl (gL hm 0 isAgg28 rfl ?_))))))))
  obtain ⟨p0_1, c0_1, rfl, hl0_1⟩ := ro_slice h1
  refine gY (yV st_28 rfl) (gC hm rfl call61 (spec_l1In_ok _ (u.codes.length : Int) 1 4) fun r0_1 hx0_1 w hm => gN rfl (gE (gsn 11 rfl (fun h0_1 => ?_) fun h0_1 => ?_)))
  ·
   exact gct rfl (gS (gR (gA rfl (gE (gRt (gr1 results67 rfl ⟨rfl, hm.below⟩))))))
  refine gcf rfl (gSk (gS (gR (gA rfl (gE (gS (gS (gR (gA rfl (gE (gBk (gNf hm (fun i1_1 xs1_1 => [(1, (pV b0_1)), (3, (nV xs1_1)), (4, (nV i1_1))]) (fun i1_1 xs1_1 => [blk b0_1 [(.slice p0_1 u.codes.length c0_1)] 30]) [0] rfl ?_ ?_))))))))))))
  ·
   repeat clear hm
   intro r0_2 hq0_1 i1_1 xs1_1 w hm hi0_1 hi0_2 q0_1 ho0_2
   refine gS (gS (gR (gM rfl (gF fo_30_0 rfl (gL hm 0 isAgg28 rfl (gY (yV st_28 rfl) (gB rfl (gE (go _ 16 rfl (decide_eq_true (by omega)) (gct rfl (gSk (gS (gBk (gS (gR (gF fo_30_0 rfl (gL hm 0 isAgg28 rfl (gM rfl (gg fun x1_1 h1_1 hx1_2 => ?_)))))))))))))))))))
   obtain ⟨b1_1, o1_1, c1_1, he⟩ := idx_form' h1 hx1_2
   simp only [Value.slice.injEq, Option.some.injEq] at he; obtain ⟨rfl, _, rfl⟩ := he
   obtain ⟨v1_1, hc1_1, h1_2⟩ := rk_Code_ h1 hx1_2
   refine gI st_28 h1_1 (idx_lt hx1_2) rfl (gY (yn (hc1_1.mono hm.lez) isAgg57 sizeOf57 rfl) (gAl hm zeroValue57 rfl fun b1_2 w hm => gSN hm 0 sizeOf57 (one_cons rfl (one_cons rfl (one_cons (rep_one h1_2) one_nil))) rfl fun w hm => gE (gS (gS (gJ hm (fun s1_1 => [(1, (pV b0_1)), (3, (nV xs1_1)), (4, (nV i1_1)), (5, (pV b1_2)), (42, (.bool (s1_1)))]) (fun s1_1 => [blk b0_1 [(sV b1_1 o1_1 u.codes.length c0_1)] 30, blk b1_2 [(nV x1_1.params), (nV x1_1.regs), v1_1] 57]) (fun s1_1 => ?_) ?_)))))
   ·
    refine gR (gF fo_57_0 rfl (gL hm 0 isAgg3 rfl (gC hm rfl call61 (spec_l1In_ok _ x1_1.params 0 3) fun r2_1 hx2_1 w hm => gN rfl (gM rfl (gsn 28 rfl (fun h2_1 => ?_) fun h2_1 => ?_)))))
    ·
     exact gO rfl (gO rfl (gO rfl (gO rfl (gO rfl (gO rfl (gKt rfl (gM rfl (gO rfl (gO rfl (gO rfl (gO rfl (gO rfl (gKt rfl (gE (gz hm [1, 0] rfl)))))))))))))))
    refine gF fo_57_1 rfl (gL hm 0 isAgg3 rfl (gF fo_57_0 rfl (gL hm 0 isAgg3 rfl (gC hm rfl call61 (spec_l1In_ok _ x1_1.regs x1_1.params 300) fun r2_2 hx2_2 w hm => gN rfl (gKf rfl (gM rfl (gsn 36 rfl (fun h2_2 => ?_) fun h2_2 => ?_)))))))
    ·
     exact gO rfl (gO rfl (gO rfl (gO rfl (gO rfl (gKt rfl (gE (gz hm [1, 0] rfl)))))))
    refine gF fo_57_2 rfl (gL hm 0 isAgg55 rfl ?_)
    obtain ⟨p2_1, c2_1, rfl, hl2_1⟩ := ro_slice h1_2
    exact gY (yV st_55 rfl) (gC hm rfl call61 (spec_l1In_ok _ (x1_1.blocks.length : Int) 1 160) fun r2_3 hx2_3 w hm => gN rfl (gKf rfl (gE (gz hm [1, 0] rfl))))
   repeat clear hm
   intro s1_1 w hm
   refine gs 42 rfl (fun h1_3 => ?_) fun h1_3 => ?_
   ·
    exact gct rfl (gS (gR (gA rfl (gE (gRt (gLr ho0_2 hq0_1 (gr1 results67 rfl ⟨rfl, hm.below⟩)))))))
   refine gcf rfl (gSk (gS (gR (gA rfl (gE (gBk (gNf hm (fun i2_1 xs2_1 => [(1, (pV b0_1)), (3, (nV xs2_1)), (4, (nV i1_1)), (5, (pV b1_2)), (6, (nV i2_1))]) (fun i2_1 xs2_1 => [blk b0_1 [(sV b1_1 o1_1 u.codes.length c0_1)] 30, blk b1_2 [(nV x1_1.params), (nV x1_1.regs), v1_1] 57]) [0, 1] rfl ?_ ?_)))))))
   ·
    repeat clear hm
    intro r1_1 hq1_2 i2_1 xs2_1 w hm hi1_1 hi1_2 q1_1 ho1_1
    refine gS (gS (gR (gM rfl (gF fo_57_2 rfl (gL hm 1 isAgg55 rfl ?_)))))
    obtain ⟨p2_2, c2_2, rfl, hl2_2⟩ := ro_slice h1_2
    refine gY (yV st_55 rfl) (gB rfl (gE (go _ 47 rfl (decide_eq_true (by omega)) (gct rfl (gSk (gS (gBk (gS (gW (.p 0 (.p 1 (.p 3 (.p 9 (.p 11 (.q 2 (.p 4 (.p 5 (.q 6 (.p 7 (.p 8 (.e 10 (.p 12 (.p 13 (.e 14 (.p 15 (.p 16 (.p 17 .fin))) .nil))) .nil)))))))))))) [10, 14] [0, 1, 3, 4, 5, 7, 8, 9, 11, 12, 13, 15, 16, 17] hm [0, 1] [blk b0_1 [(sV b1_1 o1_1 u.codes.length c0_1)] 30, blk b1_2 [(nV x1_1.params), (nV x1_1.regs), (.slice p2_2 x1_1.blocks.length c2_2)] 57] rfl mxo (by kernel_rfl) (fun _ _ _ h => h.2) fun w hm hS => tP rfl (fun w => yM rfl) (tP rfl (fun w => yF fo_57_2 rfl) (tP rfl (fun w => yM rfl) (tP rfl (fun w => yF fo_57_2 rfl) (tP rfl (fun w => yM rfl) (tQ rfl hS (fun w hm => yL hm 1 isAgg55 rfl) (gg fun x2_1 h2_3 hx2_5 => ?_)))))))))))))))
    obtain ⟨b2_1, o2_1, c2_3, he⟩ := idx_form' h1_2 hx2_5
    simp only [Value.slice.injEq, Option.some.injEq] at he; obtain ⟨rfl, _, rfl⟩ := he
    obtain ⟨v2_4, v2_5, v2_6, hc2_1, h2_4, h2_5, h2_6⟩ := rk_Block_ h1_2 hx2_5
    refine tP rfl (fun w => yI st_55 h2_3 (idx_lt hx2_5) rfl) (tP rfl (fun w => yF fo_104_1 rfl) (tQ rfl hS (fun w hm => yl isAgg102 ((hc2_1.mono hm.lez).cell (j := 1) rfl) rfl) ?_))
    obtain ⟨p2_3, c2_4, rfl, hl2_3⟩ := ro_slice h2_5
    refine tP rfl (fun w => yV st_102 rfl) (tP rfl (fun w => yB rfl) (tO (tY rfl (yL hm 1 isAgg55 rfl) (tAs hS (tP rfl (fun w => yI st_55 h2_3 (idx_lt hx2_5) rfl) (tP rfl (fun w => yF fo_104_0 rfl) (tO (tY rfl (yl isAgg101 ((hc2_1.mono hm.lez).cell (j := 0) rfl) rfl) (tAs hS ?_)))))))))
    obtain ⟨p2_4, c2_5, rfl, hl2_4⟩ := ro_slice h2_4
    refine tP rfl (fun w => yV st_101 rfl) (tP rfl (fun w => yB rfl) (tP rfl (fun w => yA rfl) (tE (gS (gJ hm (fun s2_1 => [(1, (pV b0_1)), (3, (nV (w64 ((w64 (xs2_1 + ((x2_1.ins.length : Int)))) + ((x2_1.phis.length : Int)))))), (4, (nV i1_1)), (5, (pV b1_2)), (6, (nV i2_1)), (75, (.bool (s2_1)))]) (fun s2_1 => [blk b0_1 [(sV b1_1 o1_1 u.codes.length c0_1)] 30, blk b1_2 [(nV x1_1.params), (nV x1_1.regs), (sV b2_1 o2_1 x1_1.blocks.length c2_2)] 57]) (fun s2_1 => ?_) ?_)))))
    ·
     refine gR (gM rfl (gB rfl (gM rfl (gsd 69 rfl (fun h3_1 => ?_) fun h3_1 => ?_))))
     ·
      exact gO rfl (gO rfl (gO rfl (gO rfl (gO rfl (gKt rfl (gE (gz hm [0, 1] rfl)))))))
     exact gY (yn (hm.blk_at 0 rfl) isAgg30 sizeOf30 rfl) (gM rfl (gM rfl (gC hm rfl call108 (spec_l7Block_ok _ u (sV b1_1 o1_1 u.codes.length c0_1) (hm.now h1) i1_1 i2_1) fun r3_1 hx3_1 w hm => gN rfl (gKf rfl (gE (gz hm [0, 1] rfl))))))
    repeat clear hm
    intro s2_1 w hm
    refine gs 75 rfl (fun h2_7 => ?_) fun h2_7 => ?_
    ·
     exact gct rfl (gS (gR (gA rfl (gE (gRt (gLr ho1_1 hq1_2 (gLr ho0_2 hq0_1 (gr1 results67 rfl ⟨rfl, hm.below⟩))))))))
    exact gcf rfl (gSk (gR (gM rfl (gP (by omega) (by omega) rfl (gA rfl (gE (gze hm [0, 1] rfl)))))))
   repeat clear hm
   intro i1_2 xs1_2 w hm hi1_3 hi1_4
   refine gS (gS (gR (gM rfl (gF fo_57_2 rfl (gL hm 1 isAgg55 rfl ?_)))))
   obtain ⟨p1_1, c1_2, rfl, hl1_1⟩ := ro_slice h1_2
   exact gY (yV st_55 rfl) (gB rfl (gE (go _ 47 rfl (decide_eq_false (by omega)) (gcf rfl (gXt (gHh (gR (gM rfl (gP (by omega) (by omega) rfl (gA rfl (gE (gze hm [0] rfl))))))))))))
  repeat clear hm
  intro i0_1 xs0_1 w hm hi0_3 hi0_4
  exact gS (gS (gR (gM rfl (gF fo_30_0 rfl (gL hm 0 isAgg28 rfl (gY (yV st_28 rfl) (gB rfl (gE (go _ 16 rfl (decide_eq_false (by omega)) (gcf rfl (gXt (gHh (gS (gR (gA rfl (gE (gRt (gr1 results67 rfl ⟨rfl, hm.below⟩))))))))))))))))))

theorem spec_l12Has_ok (w0 : World) (u : Unit_) (v1 : Value) (h1 : GT.rep (hp w0) [v1] u.codes) (k_ : Int) :
    ConM Tryz.prog 89 [(.agg #[v1]), (nV k_)] w0 (spec_l12Has u k_) fun r v w' => v = (.bool (r)) ∧ Below w0.heap.size w0 w' := by
  unfold spec_l12Has
  refine gcon func89 rfl fun r => ?_
  have hm := Mem.start w0
  refine gS (gR (gBx hm rfl fun b0_1 w hm => gA rfl (gE (gS (gJ hm (fun s0_1 => [(4, (.bool (s0_1)))]) (fun s0_1 => []) (fun s0_1 => ?_) ?_)))))
  ·
   refine gR (gY (yn (hm.blk_at 0 rfl) isAgg30 sizeOf30 rfl) (gC hm rfl call67 (spec_UnitValid_ok _ u v1 (hm.now h1)) fun r1_1 hx1_1 w hm => gM rfl (gs 7 rfl (fun h1_1 => ?_) fun h1_1 => ?_)))
   ·
    refine gM rfl (gF fo_30_0 rfl (gL hm 0 isAgg28 rfl ?_))
    obtain ⟨p1_1, c1_1, rfl, hl1_1⟩ := ro_slice h1
    exact gY (yV st_28 rfl) (gY (yS (by omega) (by omega) rfl) (gC hm rfl call61 (spec_l1In_ok _ k_ 0 (((u.codes.length : Int)) - 1)) fun r1_2 hx1_2 w hm => gKt rfl (gA rfl (gE (gz hm [] rfl)))))
   exact gO rfl (gO rfl (gO rfl (gO rfl (gO rfl (gO rfl (gKf rfl (gA rfl (gE (gz hm [] rfl)))))))))
  repeat clear hm
  intro s0_1 w hm
  exact gRt (gr1 results89 rfl ⟨rfl, hm.below⟩)

theorem spec_PhiCount_ok (w0 : World) (u : Unit_) (v1 : Value) (h1 : GT.rep (hp w0) [v1] u.codes) :
    ConM Tryz.prog 68 [(.agg #[v1])] w0 (spec_PhiCount u) fun r v w' => v = (nV r) ∧ Below w0.heap.size w0 w' := by
  unfold spec_PhiCount
  refine gcon func68 rfl fun r => ?_
  have hm := Mem.start w0
  refine gS (gR (gBx hm rfl fun b0_1 w hm => gA rfl (gE (gS (gS (gR (gY (yn (hm.blk_at 0 rfl) isAgg30 sizeOf30 rfl) (gC hm rfl call67 (spec_UnitValid_ok _ u v1 (hm.now h1)) fun r0_1 hx0_1 w hm => gN rfl (gE (gsn 8 rfl (fun h0_1 => ?_) fun h0_1 => ?_))))))))))
  ·
   exact gct rfl (gS (gR (gA rfl (gE (gRt (gr1 results68 rfl ⟨rfl, hm.below⟩))))))
  refine gcf rfl (gSk (gS (gR (gA rfl (gE (gS (gS (gR (gA rfl (gE (gBk (gNf hm (fun i1_1 xs1_1 => [(1, (pV b0_1)), (3, (nV xs1_1)), (4, (nV i1_1))]) (fun i1_1 xs1_1 => [blk b0_1 [v1] 30]) [0] rfl ?_ ?_))))))))))))
  ·
   repeat clear hm
   intro _ _ i1_1 xs1_1 w hm hi0_1 hi0_2 q0_1 _
   refine gS (gS (gR (gM rfl (gF fo_30_0 rfl (gL hm 0 isAgg28 rfl ?_)))))
   obtain ⟨p1_1, c1_1, rfl, hl1_1⟩ := ro_slice h1
   refine gY (yV st_28 rfl) (gB rfl (gE (go _ 13 rfl (decide_eq_true (by omega)) (gct rfl (gSk (gS (gBk (gS (gR (gA rfl (gE (gJ hm (fun s1_1 => [(1, (pV b0_1)), (3, (nV s1_1)), (4, (nV i1_1))]) (fun s1_1 => [blk b0_1 [(.slice p1_1 u.codes.length c1_1)] 30]) (fun s1_1 => ?_) ?_))))))))))))
   ·
    refine gBk (gMf hm (fun xs3_1 => [(1, (pV b0_1)), (3, (nV xs3_1.1)), (4, (nV i1_1)), (5, (nV xs3_1.2))]) (fun xs3_1 => [blk b0_1 [(.slice p1_1 u.codes.length c1_1)] 30]) [0] rfl ?_)
    repeat clear hm
    intro r2_1 hq2_1 xs3_1 w hm q2_1 ho2_1
    refine gS (gS (gR (gM rfl (gF fo_30_0 rfl (gL hm 0 isAgg28 rfl (gM rfl (gg fun x3_1 h3_1 hx3_2 => ?_)))))))
    obtain ⟨b3_1, o3_1, c3_1, he⟩ := idx_form' h1 hx3_2
    simp only [Value.slice.injEq, Option.some.injEq] at he; obtain ⟨rfl, _, rfl⟩ := he
    obtain ⟨v3_1, hc3_1, h3_2⟩ := rk_Code_ h1 hx3_2
    refine gI st_28 h3_1 (idx_lt hx3_2) rfl (gF fo_57_2 rfl (gY (yl isAgg55 ((hc3_1.mono hm.lez).cell (j := 2) rfl) rfl) ?_))
    obtain ⟨p3_1, c3_2, rfl, hl3_1⟩ := ro_slice h3_2
    refine gY (yV st_55 rfl) (gB rfl (gE (gsd 24 rfl (fun h3_3 => ?_) fun h3_3 => ?_)))
    ·
     refine gct rfl (gSk (gS (gBk (gR (gM rfl (gF fo_30_0 rfl (gL hm 0 isAgg28 rfl (gM rfl (gI st_28 h3_1 (idx_lt hx3_2) rfl (gF fo_57_2 rfl (gY (yl isAgg55 ((hc3_1.mono hm.lez).cell (j := 2) rfl) rfl) (gM rfl (gg fun x3_2 h3_4 hx3_4 => ?_)))))))))))))
     obtain ⟨b3_2, o3_2, c3_3, he⟩ := idx_form' h3_2 hx3_4
     simp only [Value.slice.injEq, Option.some.injEq] at he; obtain ⟨rfl, _, rfl⟩ := he
     obtain ⟨v3_2, v3_3, v3_4, hc3_2, h3_5, h3_6, h3_7⟩ := rk_Block_ h3_2 hx3_4
     refine gI st_55 h3_4 (idx_lt hx3_4) rfl (gF fo_104_0 rfl (gY (yl isAgg101 ((hc3_2.mono hm.lez).cell (j := 0) rfl) rfl) ?_))
     obtain ⟨p3_2, c3_4, rfl, hl3_2⟩ := ro_slice h3_5
     exact gY (yV st_101 rfl) (gB rfl (gA rfl (gE (gR (gM rfl (gB rfl (gA rfl (gE (gze hm [0] rfl)))))))))
    exact gcf rfl (gXt (gHh (gLp ho2_1 hq2_1 (gz hm [0] rfl))))
   repeat clear hm
   intro s1_1 w hm
   exact gR (gM rfl (gP (by omega) (by omega) rfl (gA rfl (gE (gze hm [0] rfl)))))
  repeat clear hm
  intro i0_1 xs0_1 w hm hi0_3 hi0_4
  refine gS (gS (gR (gM rfl (gF fo_30_0 rfl (gL hm 0 isAgg28 rfl ?_)))))
  obtain ⟨p0_1, c0_1, rfl, hl0_1⟩ := ro_slice h1
  exact gY (yV st_28 rfl) (gB rfl (gE (go _ 13 rfl (decide_eq_false (by omega)) (gcf rfl (gXt (gHh (gS (gR (gM rfl (gA rfl (gE (gRt (gr1 results68 rfl ⟨rfl, hm.below⟩)))))))))))))

theorem spec_l21Flat_ok (w0 : World) (u : Unit_) (v1 : Value) (h1 : GT.rep (hp w0) [v1] u.codes) (k_ : Int) :
    ConM Tryz.prog 49 [(.agg #[v1]), (nV k_)] w0 (spec_l21Flat u k_) fun r v w' => v = (.bool (r)) ∧ Below w0.heap.size w0 w' := by
  unfold spec_l21Flat
  refine gcon func49 rfl fun r => ?_
  have hm := Mem.start w0
  refine gS (gR (gBx hm rfl fun b0_1 w hm => gA rfl (gE (gS (gJ hm (fun s0_1 => [(4, (.bool (s0_1)))]) (fun s0_1 => []) (fun s0_1 => ?_) ?_)))))
  ·
   refine gR (gY (yn (hm.blk_at 0 rfl) isAgg30 sizeOf30 rfl) (gM rfl (gC hm rfl call89 (spec_l12Has_ok _ u v1 (hm.now h1) k_) fun r1_1 hx1_1 w hm => gM rfl (gs 8 rfl (fun h1_1 => ?_) fun h1_1 => ?_))))
   ·
    exact gY (yn (hm.blk_at 0 rfl) isAgg30 sizeOf30 rfl) (gC hm rfl call68 (spec_PhiCount_ok _ u v1 (hm.now h1)) fun r1_2 hx1_2 w hm => gB rfl (gKt rfl (gA rfl (gE (gz hm [] rfl)))))
   exact gO rfl (gO rfl (gO rfl (gKf rfl (gA rfl (gE (gz hm [] rfl))))))
  repeat clear hm
  intro s0_1 w hm
  exact gRt (gr1 results49 rfl ⟨rfl, hm.below⟩)

theorem spec_l10At_ok (w0 : World) (list : List Int) (v1 : Value) (h1 : GT.rep (hp w0) [v1] list) (n_ : Int) :
    ConM Tryz.prog 206 [v1, (nV n_)] w0 (spec_l10At list n_) fun r v w' => v = (nV r) ∧ Below w0.heap.size w0 w' := by
  unfold spec_l10At
  refine gcon func206 rfl fun r => ?_
  have hm := Mem.start w0
  refine gS (gR (gA rfl (gE (gS (gS (gR (gA rfl (gE (gBk (gNf hm (fun i1_1 xs1_1 => [(0, v1), (1, (nV n_)), (5, (nV i1_1))]) (fun i1_1 xs1_1 => []) [] rfl ?_ ?_))))))))))
  ·
   repeat clear hm
   intro r0_1 hq0_1 i1_1 xs1_1 w hm hi0_1 hi0_2 q0_1 ho0_1
   refine gS (gS (gR (gM rfl (gM rfl ?_))))
   obtain ⟨p1_1, c1_1, rfl, hl1_1⟩ := ro_slice h1
   refine gY (yV st_37 rfl) (gB rfl (gE (go _ 9 rfl (decide_eq_true (by omega)) (gct rfl (gSk (gS (gBk (gS (gR (gM rfl (gM rfl (gg fun x1_1 h1_1 hx1_2 => ?_))))))))))))
   obtain ⟨b1_1, o1_1, c1_2, he⟩ := idx_form h1 hx1_2
   simp only [Value.slice.injEq, Option.some.injEq] at he; obtain ⟨rfl, _, rfl⟩ := he
   refine gI st_37 h1_1 (idx_lt hx1_2) rfl (gY (yl isAgg3 ((flat_cells (cs := [(nV x1_1)]) (hm.now h1) hx1_2 rfl).cell (j := 0) rfl) rfl) (gM rfl (gB rfl (gE (gsd 17 rfl (fun h1_2 => ?_) fun h1_2 => ?_)))))
   ·
    exact gct rfl (gS (gR (gM rfl (gA rfl (gE (gRt (gLr ho0_1 hq0_1 (gr1 results206 rfl ⟨rfl, hm.below⟩))))))))
   exact gcf rfl (gSk (gR (gM rfl (gP (by omega) (by omega) rfl (gA rfl (gE (gze hm [] rfl)))))))
  repeat clear hm
  intro i0_1 xs0_1 w hm hi0_3 hi0_4
  refine gS (gS (gR (gM rfl (gM rfl ?_))))
  obtain ⟨p0_1, c0_1, rfl, hl0_1⟩ := ro_slice h1
  exact gY (yV st_37 rfl) (gB rfl (gE (go _ 9 rfl (decide_eq_false (by omega)) (gcf rfl (gXt (gHh (gS (gR (gA rfl (gE (gRt (gr1 results206 rfl ⟨rfl, hm.below⟩))))))))))))

theorem spec_l12Flow_ok (w0 : World) (hz : Heap) (c_ : Code_) (v1 : Value) (h1 : GT.rep hz [v1] c_.blocks) (s_ : l12Sets) (v2 : Value) (h2 : GT.rep hz [v2] s_.ins) (v3 : Value) (b_ : Int) (next_ : Int) (hm0 : Mem w0 hz w0 [ow [v3] s_.outs]) :
    ConM Tryz.prog 137 [(.agg #[(nV c_.params), (nV c_.regs), v1]), (.agg #[v2, v3]), (nV b_), (nV next_)] w0 (spec_l12Flow c_ s_ b_ next_) fun r v w' => v = (.bool (r.1)) ∧ Mem w0 hz w' [ow [v3] r.2] := by
  unfold spec_l12Flow
  refine gcon func137 rfl fun r => ?_
  have hm := hm0
  refine gS (gR (gBx hm rfl fun b0_1 w hm => gBx hm rfl fun b0_2 w hm => gA rfl (gE (gS (gR (gf rfl (fun a hf => e_build0 (α := Bool) et_58 hm rfl) ?_))))))
  rintro v0_1 w hm
  refine gF fo_99_0 rfl (gL hm 1 isAgg53 rfl (gM rfl (gg fun x0_1 h0_1 hx0_2 => ?_)))
  obtain ⟨b0_3, o0_1, c0_1, he⟩ := idx_form' h2 hx0_2
  subst he
  obtain ⟨_, _, hc0_1, hr0_1⟩ := ro_get' h2 hx0_2
  have h0_2 := hr0_1
  obtain ⟨v0_2, rfl, -⟩ := id h0_2
  replace h0_2 : GT.rep hz [v0_2] x0_1 := h0_2
  replace hc0_1 : CellsAt hz b0_3 (o0_1 + (next_).toNat * 1) [v0_2] := hc0_1
  refine gI st_53 h0_1 (idx_lt hx0_2) rfl (gY (yl isAgg58 ((hc0_1.mono hm.lez).cell (j := 0) rfl) rfl) (gb fun ys0_1 hx0_3 => ?_))
  obtain ⟨h0_3, h0_3e⟩ := appM_some.1 hx0_3
  refine gf rfl (fun a hf => e_append 0 et_58 hf hm rfl (hm.now h0_2) rfl rfl rfl h0_3) ?_
  rintro v0_3 w hm
  rw [h0_3e] at hm
  refine gA rfl (gE (gS (gR (gY (yn (hm.blk_at 2 rfl) isAgg57 sizeOf57 rfl) (gM rfl (gCg rfl call153 (spec_l7Preds_ok _ c_ v1 (hm.now h1) next_) ?_))))))
  rintro r0_1 hx0_4 v0_4 w ⟨_, rfl, hB⟩
  replace hm := hm.give hB; clear hB
  refine gM rfl (gC hm rfl call206 (spec_l10At_ok _ r0_1 v0_4 (hm.ow_rep 0 rfl) b_) fun r0_2 hx0_5 w hm => gA rfl (gE (gS (gS (gR (gA rfl (gE ?_)))))))
  obtain ⟨p0_1, c0_2, rfl, hl0_1⟩ := ro_slice (hm.ow_rep 4 rfl)
  obtain ⟨p0_2, c0_3, rfl, hl0_2⟩ := ro_slice (hm.ow_rep 1 rfl)
  refine gJ hm (fun s0_1 => [(2, (nV b_)), (4, (pV b0_1)), (5, (pV b0_2)), (9, (.slice p0_2 ys0_1.length c0_3))]) (fun s0_1 => [blk b0_1 [(nV c_.params), (nV c_.regs), v1] 57, blk b0_2 [(sV b0_3 o0_1 s_.ins.length c0_1), (.slice p0_1 s_.outs.length c0_2)] 99, ow [(.slice p0_1 s_.outs.length c0_2)] s_.outs, ow [(.slice p0_2 ys0_1.length c0_3)] s0_1]) (fun s0_1 => ?_) ?_
  ·
   refine gBk (gMf hm (fun xs2_1 => [(2, (nV b_)), (3, (nV next_)), (4, (pV b0_1)), (5, (pV b0_2)), (9, (.slice p0_2 ys0_1.length c0_3)), (10, (nV r0_2)), (11, (nV xs2_1.2))]) (fun xs2_1 => [blk b0_1 [(nV c_.params), (nV c_.regs), v1] 57, blk b0_2 [(sV b0_3 o0_1 s_.ins.length c0_1), (.slice p0_1 s_.outs.length c0_2)] 99, ow [(.slice p0_1 s_.outs.length c0_2)] s_.outs, ow [(.slice p0_2 ys0_1.length c0_3)] xs2_1.1]) [3, 2, 4, 1] rfl ?_)
   repeat clear hm
   intro r1_1 hq1_1 xs2_1 w hm q1_1 ho1_1
   refine gS (gS (gR (gM rfl (gF fo_57_2 rfl (gL hm 0 isAgg55 rfl (gM rfl (gg fun x2_1 h2_1 hx2_2 => ?_)))))))
   obtain ⟨b2_1, o2_1, c2_1, he⟩ := idx_form' h1 hx2_2
   subst he
   obtain ⟨v2_1, v2_2, v2_3, hc2_1, h2_2, h2_3, h2_4⟩ := rk_Block_ h1 hx2_2
   refine gI st_55 h2_1 (idx_lt hx2_2) rfl (gF fo_104_0 rfl (gY (yl isAgg101 ((hc2_1.mono hm.lez).cell (j := 0) rfl) rfl) ?_))
   obtain ⟨p2_1, c2_2, rfl, hl2_1⟩ := ro_slice h2_2
   refine gY (yV st_101 rfl) (gB rfl (gE (gsd 34 rfl (fun h2_5 => ?_) fun h2_5 => ?_)))
   ·
    refine gct rfl (gSk (gS (gBk (gR (gM rfl (gF fo_57_2 rfl (gL hm 0 isAgg55 rfl (gM rfl (gI st_55 h2_1 (idx_lt hx2_2) rfl (gF fo_104_0 rfl (gY (yl isAgg101 ((hc2_1.mono hm.lez).cell (j := 0) rfl) rfl) (gM rfl (gg fun x2_2 h2_6 hx2_4 => ?_)))))))))))))
    obtain ⟨b2_2, o2_2, c2_3, he⟩ := idx_form' h2_2 hx2_4
    simp only [Value.slice.injEq, Option.some.injEq] at he; obtain ⟨rfl, _, rfl⟩ := he
    obtain ⟨v2_4, hc2_2, h2_7⟩ := rk_Phi_ h2_2 hx2_4
    refine gI st_101 h2_6 (idx_lt hx2_4) rfl (gF fo_143_1 rfl (gY (yl isAgg37 ((hc2_2.mono hm.lez).cell (j := 1) rfl) rfl) (gM rfl (gg fun x2_3 h2_8 hx2_6 => ?_))))
    obtain ⟨b2_3, o2_3, c2_4, he⟩ := idx_form h2_7 hx2_6
    subst he
    refine gI st_37 h2_8 (idx_lt hx2_6) rfl (gY (yl isAgg3 ((flat_cells (cs := [(nV x2_3)]) (hm.now h2_7) hx2_6 rfl).cell (j := 0) rfl) rfl) (gg fun x2_4 h2_9 hx2_8 => ?_))
    obtain ⟨b2_4, o2_4, c2_5, he⟩ := idx_form (hm.ow_rep 3 rfl) hx2_8
    simp only [Value.slice.injEq, Option.some.injEq] at he; obtain ⟨rfl, _, rfl⟩ := he
    have hL2_1 := rep_slice_len (hm.ow_rep 3 rfl)
    refine gI st_58 h2_9 (idx_lt2 hx2_8 hL2_1) rfl (gf0 rfl (fun a hf => e_setElem (x1 := true) (j := 0) (vs := [(.bool (true))]) 3 hf hm rfl hx2_8 rfl sizeOf4 rfl rfl rfl (one_cons rfl one_nil) rfl rfl) ?_)
    rintro _ w hm
    have hx2_9 := List.getElem?_set_self (a := true) (idx_lt hx2_8)
    exact gE (gR (gM rfl (gB rfl (gA rfl (gE (gze hm [0, 1, 2, 3] rfl))))))
   exact gcf rfl (gXt (gHh (gLp ho1_1 hq1_1 (gz hm [0, 1, 2, 3] rfl))))
  repeat clear hm
  intro s0_1 w hm
  refine gS (gR (gA rfl (gE (gS (gS (gR (gA rfl (gE (gBk (gb fun _ hfit0_1 => ?_))))))))))
  replace hfit0_1 := fitI_some.1 hfit0_1
  refine gNf hm (fun i1_1 xs1_1 => [(2, (nV b_)), (4, (pV b0_1)), (5, (pV b0_2)), (9, (.slice p0_2 ys0_1.length c0_3)), (12, (.bool (xs1_1.2))), (13, (nV i1_1))]) (fun i1_1 xs1_1 => [blk b0_1 [(nV c_.params), (nV c_.regs), v1] 57, blk b0_2 [(sV b0_3 o0_1 s_.ins.length c0_1), (.slice p0_1 s_.outs.length c0_2)] 99, ow [(.slice p0_1 s_.outs.length c0_2)] xs1_1.1, ow [(.slice p0_2 ys0_1.length c0_3)] s0_1]) [0, 1, 2, 3] rfl ?_ ?_
  ·
   repeat clear hm
   intro _ _ i1_1 xs1_1 w hm hi0_1 hi0_2 q0_1 _
   refine gS (gS (gR (gM rfl (gF fo_57_1 rfl (gL hm 0 isAgg3 rfl (gB rfl (gE (go _ 55 rfl (decide_eq_true (by omega)) (gct rfl (gSk (gS (gJ hm (fun s1_1 => [(2, (nV b_)), (4, (pV b0_1)), (5, (pV b0_2)), (9, (.slice p0_2 ys0_1.length c0_3)), (12, (.bool (s1_1.2))), (13, (nV i1_1))]) (fun s1_1 => [blk b0_1 [(nV c_.params), (nV c_.regs), v1] 57, blk b0_2 [(sV b0_3 o0_1 s_.ins.length c0_1), (.slice p0_1 s_.outs.length c0_2)] 99, ow [(.slice p0_1 s_.outs.length c0_2)] s1_1.1, ow [(.slice p0_2 ys0_1.length c0_3)] s0_1]) (fun s1_1 => ?_) ?_))))))))))))
   ·
    refine gBk (gS (gR (gM rfl (gM rfl (gg fun x2_5 h2_10 hx2_11 => ?_)))))
    obtain ⟨b2_5, o2_5, c2_6, he⟩ := idx_form (hm.ow_rep 3 rfl) hx2_11
    simp only [Value.slice.injEq, Option.some.injEq] at he; obtain ⟨rfl, _, rfl⟩ := he
    have hL2_2 := rep_slice_len (hm.ow_rep 3 rfl)
    refine gI st_58 h2_10 (idx_lt2 hx2_11 hL2_2) rfl (gY (yl isAgg4 ((flat_cells (cs := [(.bool (x2_5))]) (hm.ow_rep 3 rfl) hx2_11 rfl).cell (j := 0) rfl) rfl) (gE (gJ hm (fun s2_1 => [(2, (nV b_)), (4, (pV b0_1)), (5, (pV b0_2)), (9, (sV b2_5 o2_5 ys0_1.length c0_3)), (12, (.bool (s2_1.2))), (13, (nV i1_1))]) (fun s2_1 => [blk b0_1 [(nV c_.params), (nV c_.regs), v1] 57, blk b0_2 [(sV b0_3 o0_1 s_.ins.length c0_1), (.slice p0_1 s_.outs.length c0_2)] 99, ow [(.slice p0_1 s_.outs.length c0_2)] s2_1.1, ow [(sV b2_5 o2_5 ys0_1.length c0_3)] s0_1]) (fun s2_1 => ?_) ?_)))
    ·
     refine gs 61 rfl (fun h3_1 => ?_) fun h3_1 => ?_
     ·
      refine gct rfl (gS (gJ hm (fun s3_1 => [(2, (nV b_)), (4, (pV b0_1)), (5, (pV b0_2)), (9, (sV b2_5 o2_5 ys0_1.length c0_3)), (12, (.bool (s3_1))), (13, (nV i1_1))]) (fun s3_1 => [blk b0_1 [(nV c_.params), (nV c_.regs), v1] 57, blk b0_2 [(sV b0_3 o0_1 s_.ins.length c0_1), (.slice p0_1 s_.outs.length c0_2)] 99, ow [(.slice p0_1 s_.outs.length c0_2)] xs1_1.1, ow [(sV b2_5 o2_5 ys0_1.length c0_3)] s0_1]) (fun s3_1 => ?_) ?_))
      ·
       refine gR (gM rfl (gM rfl (gs 63 rfl (fun h4_1 => ?_) fun h4_1 => ?_)))
       ·
        exact gO rfl (gO rfl (gO rfl (gO rfl (gO rfl (gO rfl (gO rfl (gO rfl (gO rfl (gKt rfl (gA rfl (gE (gz hm [0, 1, 2, 3] rfl))))))))))))
       refine gF fo_99_1 rfl (gL hm 1 isAgg53 rfl (gM rfl (gg fun x4_1 h4_2 hx4_2 => ?_)))
       obtain ⟨b4_1, o4_1, c4_1, he⟩ := idx_form' (hm.ow_rep 2 rfl) hx4_2
       simp only [Value.slice.injEq, Option.some.injEq] at he; obtain ⟨rfl, _, rfl⟩ := he
       obtain ⟨_, _, hc4_1, hr4_1⟩ := ro_get' (hm.ow_rep 2 rfl) hx4_2
       have h4_3 := hr4_1
       obtain ⟨v4_1, rfl, -⟩ := id h4_3
       replace h4_3 : GT.rep (hp _) [v4_1] x4_1 := h4_3
       replace hc4_1 : CellsAt (hp _) b4_1 (o4_1 + (b_).toNat * 1) [v4_1] := hc4_1
       have hL4_1 := rep_slice_len (hm.ow_rep 2 rfl)
       refine gI st_53 h4_2 (idx_lt2 hx4_2 hL4_1) rfl ?_
       obtain ⟨_, hc4_2, hm⟩ := hm.openE 2 rfl hx4_2
       have hr4_2 := hm.ow_rep 0 rfl
       have h4_4 := hr4_2
       obtain ⟨v4_2, rfl, -⟩ := id h4_4
       replace h4_4 : GT.rep (hp _) [v4_2] x4_1 := h4_4
       clear hc4_2 h4_4
       replace hm : Mem w0 hz _ [ow [v4_2] (x4_1 : List Bool), blk b0_1 [(nV c_.params), (nV c_.regs), v1] 57, blk b0_2 [(sV b0_3 o0_1 s_.ins.length c0_1), (sV b4_1 o4_1 s_.outs.length c0_2)] 99, holeE b4_1 o4_1 s_.outs.length c0_2 (xs1_1.1 : List (List Bool)) (b_).toNat [v4_2], ow [(sV b2_5 o2_5 ys0_1.length c0_3)] s0_1] := hm
       replace hm := hm.pk (L' := [ow [v4_2] x4_1, blk b0_1 [(nV c_.params), (nV c_.regs), v1] 57, blk b0_2 [(sV b0_3 o0_1 s_.ins.length c0_1), (sV b4_1 o4_1 s_.outs.length c0_2)] 99, holeE b4_1 o4_1 s_.outs.length c0_2 (xs1_1.1 : List (List Bool)) (b_).toNat [v4_2], ow [(sV b2_5 o2_5 ys0_1.length c0_3)] s0_1]) [0, 1, 2, 3, 4] rfl rfl
       refine gY (yl isAgg58 ((hm.holeE_at 3 rfl).cell (j := 0) rfl) rfl) (gM rfl (gg fun x4_2 h4_5 hx4_4 => ?_))
       obtain ⟨b4_2, o4_2, c4_2, he⟩ := idx_form (hm.ow_rep 0 rfl) hx4_4
       subst he
       refine gI st_58 h4_5 (idx_lt hx4_4) rfl (gY (yl isAgg4 ((flat_cells (cs := [(.bool (x4_2))]) (hm.ow_rep 0 rfl) hx4_4 rfl).cell (j := 0) rfl) rfl) (gN rfl (gKf rfl (gA rfl (gE ?_)))))
       replace hm := hm.imp (c' := ow [(sV b4_2 o4_2 x4_1.length c4_2)] (x4_1 : List Bool)) 0 rfl (fun F h0 => h0)
       replace hm := (hm.shutE (y := (x4_1 : List Bool)) 3 0 (by decide) rfl rfl).pk (L' := [blk b0_1 [(nV c_.params), (nV c_.regs), v1] 57, blk b0_2 [(sV b0_3 o0_1 s_.ins.length c0_1), (sV b4_1 o4_1 s_.outs.length c0_2)] 99, ow [(sV b4_1 o4_1 s_.outs.length c0_2)] (xs1_1.1.set (b_).toNat x4_1), ow [(sV b2_5 o2_5 ys0_1.length c0_3)] s0_1]) [1, 2, 3, 4] rfl rfl
       rw [set_same hx4_2] at hm
       exact gz hm [0, 1, 2, 3] rfl
      repeat clear hm
      intro s3_1 w hm
      refine gR (gF fo_99_1 rfl (gL hm 1 isAgg53 rfl (gM rfl (gg fun x3_1 h3_2 hx3_2 => ?_))))
      obtain ⟨b3_1, o3_1, c3_1, he⟩ := idx_form' (hm.ow_rep 2 rfl) hx3_2
      simp only [Value.slice.injEq, Option.some.injEq] at he; obtain ⟨rfl, _, rfl⟩ := he
      obtain ⟨_, _, hc3_1, hr3_1⟩ := ro_get' (hm.ow_rep 2 rfl) hx3_2
      have h3_3 := hr3_1
      obtain ⟨v3_1, rfl, -⟩ := id h3_3
      replace h3_3 : GT.rep (hp _) [v3_1] x3_1 := h3_3
      replace hc3_1 : CellsAt (hp _) b3_1 (o3_1 + (b_).toNat * 1) [v3_1] := hc3_1
      have hL3_1 := rep_slice_len (hm.ow_rep 2 rfl)
      refine gI st_53 h3_2 (idx_lt2 hx3_2 hL3_1) rfl ?_
      obtain ⟨_, hc3_2, hm⟩ := hm.openE 2 rfl hx3_2
      have hr3_2 := hm.ow_rep 0 rfl
      have h3_4 := hr3_2
      obtain ⟨v3_2, rfl, -⟩ := id h3_4
      replace h3_4 : GT.rep (hp _) [v3_2] x3_1 := h3_4
      clear hc3_2 h3_4
      replace hm : Mem w0 hz _ [ow [v3_2] (x3_1 : List Bool), blk b0_1 [(nV c_.params), (nV c_.regs), v1] 57, blk b0_2 [(sV b0_3 o0_1 s_.ins.length c0_1), (sV b3_1 o3_1 s_.outs.length c0_2)] 99, holeE b3_1 o3_1 s_.outs.length c0_2 (xs1_1.1 : List (List Bool)) (b_).toNat [v3_2], ow [(sV b2_5 o2_5 ys0_1.length c0_3)] s0_1] := hm
      replace hm := hm.pk (L' := [ow [v3_2] x3_1, blk b0_1 [(nV c_.params), (nV c_.regs), v1] 57, blk b0_2 [(sV b0_3 o0_1 s_.ins.length c0_1), (sV b3_1 o3_1 s_.outs.length c0_2)] 99, holeE b3_1 o3_1 s_.outs.length c0_2 (xs1_1.1 : List (List Bool)) (b_).toNat [v3_2], ow [(sV b2_5 o2_5 ys0_1.length c0_3)] s0_1]) [0, 1, 2, 3, 4] rfl rfl
      refine gY (yl isAgg58 ((hm.holeE_at 3 rfl).cell (j := 0) rfl) rfl) (gM rfl (gg fun x3_2 h3_5 hx3_4 => ?_))
      obtain ⟨b3_2, o3_2, c3_2, he⟩ := idx_form (hm.ow_rep 0 rfl) hx3_4
      subst he
      refine gI st_58 h3_5 (idx_lt hx3_4) rfl (gf0 rfl (fun a hf => e_setElem (x1 := true) (j := 0) (vs := [(.bool (true))]) 0 hf hm rfl hx3_4 rfl sizeOf4 rfl rfl rfl (one_cons rfl one_nil) rfl rfl) ?_)
      rintro _ w hm
      have hx3_5 := List.getElem?_set_self (a := true) (idx_lt hx3_4)
      refine gE ?_
      replace hm := hm.imp (c' := ow [(sV b3_2 o3_2 x3_1.length c3_2)] ((x3_1.set (i1_1).toNat true) : List Bool)) 0 rfl (fun F h0 => h0)
      replace hm := (hm.shutE (y := ((x3_1.set (i1_1).toNat true) : List Bool)) 3 0 (by decide) rfl rfl).pk (L' := [blk b0_1 [(nV c_.params), (nV c_.regs), v1] 57, blk b0_2 [(sV b0_3 o0_1 s_.ins.length c0_1), (sV b3_1 o3_1 s_.outs.length c0_2)] 99, ow [(sV b3_1 o3_1 s_.outs.length c0_2)] (xs1_1.1.set (b_).toNat (x3_1.set (i1_1).toNat true)), ow [(sV b2_5 o2_5 ys0_1.length c0_3)] s0_1]) [1, 2, 3, 4] rfl rfl
      have hx3_6 := List.getElem?_set_self (a := ((x3_1.set (i1_1).toNat true) : List Bool)) (idx_lt hx3_2)
      exact gz hm [0, 1, 2, 3] rfl
     exact gcf rfl (gSk (gz hm [0, 1, 2, 3] rfl))
    repeat clear hm
    intro s2_1 w hm
    exact gz hm [0, 1, 2, 3] rfl
   repeat clear hm
   intro s1_1 w hm
   exact gR (gM rfl (gP (by omega) (by omega) rfl (gA rfl (gE (gze hm [0, 1, 2, 3] rfl)))))
  repeat clear hm
  intro i0_1 xs0_1 w hm hi0_3 hi0_4
  exact gS (gS (gR (gM rfl (gF fo_57_1 rfl (gL hm 0 isAgg3 rfl (gB rfl (gE (go _ 55 rfl (decide_eq_false (by omega)) (gcf rfl (gXt (gHh (gS (gR (gM rfl (gA rfl (gE (gRt (gr1 results137 rfl ⟨rfl, hm.pk [2] rfl rfl⟩))))))))))))))))))

theorem spec_MadeBy_ok (w0 : World) (x_ : Ins_) (v1 : Value) (h1 : GT.rep (hp w0) [v1] x_.args) :
    ConM Tryz.prog 138 [(.agg #[(nV x_.op), (nV x_.to), v1, (nV x_.n_)])] w0 (spec_MadeBy x_) fun r v w' => v = (nV r) ∧ Below w0.heap.size w0 w' := by
  unfold spec_MadeBy
  refine gcon func138 rfl fun r => ?_
  have hm := Mem.start w0
  refine gS (gR (gBx hm rfl fun b0_1 w hm => gA rfl (gE (gS (gS (gR (gF fo_106_0 rfl (gL hm 0 isAgg3 rfl (gC hm rfl call91 (spec_l7Makes_ok _ x_.op) fun r0_1 hx0_1 w hm => gE (gs 5 rfl (fun h0_1 => ?_) fun h0_1 => ?_))))))))))
  ·
   exact gct rfl (gS (gR (gF fo_106_1 rfl (gL hm 0 isAgg3 rfl (gA rfl (gE (gRt (gr1 results138 rfl ⟨rfl, hm.below⟩))))))))
  exact gcf rfl (gSk (gS (gR (gA rfl (gE (gRt (gr1 results138 rfl ⟨rfl, hm.below⟩)))))))

theorem spec_l12Behind_ok (w0 : World) (c_ : Code_) (v1 : Value) (h1 : GT.rep (hp w0) [v1] c_.blocks) (s_ : l12Sets) (v2 : Value) (h2 : GT.rep (hp w0) [v2] s_.ins) (v3 : Value) (h3 : GT.rep (hp w0) [v3] s_.outs) (b_ : Int) (i_ : Int) :
    ConM Tryz.prog 92 [(.agg #[(nV c_.params), (nV c_.regs), v1]), (.agg #[v2, v3]), (nV b_), (nV i_)] w0 (spec_l12Behind c_ s_ b_ i_) fun r v w' => ∃ (x1 : Value), v = x1 ∧ Mem w0 (hp w0) w' [ow [x1] r] := by
  unfold spec_l12Behind
  refine gcon func92 rfl fun r => ?_
  have hm := Mem.start w0
  refine gS (gR (gBx hm rfl fun b0_1 w hm => gBx hm rfl fun b0_2 w hm => gA rfl (gE (gS (gR (gf rfl (fun a hf => e_build0 (α := Bool) et_58 hm rfl) ?_))))))
  rintro v0_1 w hm
  refine gF fo_99_1 rfl (gL hm 1 isAgg53 rfl (gM rfl (gg fun x0_1 h0_1 hx0_2 => ?_)))
  obtain ⟨b0_3, o0_1, c0_1, he⟩ := idx_form' h3 hx0_2
  subst he
  obtain ⟨_, _, hc0_1, hr0_1⟩ := ro_get' h3 hx0_2
  have h0_2 := hr0_1
  obtain ⟨v0_2, rfl, -⟩ := id h0_2
  replace h0_2 : GT.rep (hp w0) [v0_2] x0_1 := h0_2
  replace hc0_1 : CellsAt (hp w0) b0_3 (o0_1 + (b_).toNat * 1) [v0_2] := hc0_1
  refine gI st_53 h0_1 (idx_lt hx0_2) rfl (gY (yl isAgg58 ((hc0_1.mono hm.lez).cell (j := 0) rfl) rfl) (gb fun ys0_1 hx0_3 => ?_))
  obtain ⟨h0_3, h0_3e⟩ := appM_some.1 hx0_3
  refine gf rfl (fun a hf => e_append 0 et_58 hf hm rfl (hm.now h0_2) rfl rfl rfl h0_3) ?_
  rintro v0_3 w hm
  rw [h0_3e] at hm
  refine gA rfl (gE (gS (gR (gF fo_57_2 rfl (gL hm 2 isAgg55 rfl (gM rfl (gg fun x0_2 h0_4 hx0_5 => ?_)))))))
  obtain ⟨b0_4, o0_2, c0_2, he⟩ := idx_form' h1 hx0_5
  subst he
  obtain ⟨v0_4, v0_5, v0_6, hc0_2, h0_5, h0_6, h0_7⟩ := rk_Block_ h1 hx0_5
  refine gI st_55 h0_4 (idx_lt hx0_5) rfl (gY (yn (hc0_2.mono hm.lez) isAgg104 sizeOf104 rfl) (gAl hm zeroValue104 rfl fun b0_5 w hm => gSN hm 0 sizeOf104 (one_cons (rep_one h0_5) (one_cons (rep_one h0_6) (one_cons rfl (one_cons rfl (one_cons (rep_one h0_7) one_nil))))) rfl fun w hm => gE (gS (gS (gR (gF fo_104_2 rfl (gL hm 0 isAgg3 rfl (gB rfl (gE (gJ hm (fun s0_1 => [(3, (nV i_)), (9, v0_3), (10, (pV b0_5))]) (fun s0_1 => [ow [v0_3] s0_1, blk b0_5 [v0_4, v0_5, (nV x0_2.jump), (nV x0_2.on), v0_6] 104]) (fun s0_1 => ?_) ?_))))))))))
  ·
   refine gsd 28 rfl (fun h1_1 => ?_) fun h1_1 => ?_
   ·
    refine gct rfl (gR (gM rfl (gF fo_104_3 rfl (gL hm 0 isAgg3 rfl (gg fun x1_1 h1_2 hx1_2 => ?_)))))
    obtain ⟨b1_1, o1_1, c1_1, he⟩ := idx_form (hm.ow_rep 1 rfl) hx1_2
    subst he
    refine gI st_58 h1_2 (idx_lt hx1_2) rfl (gf0 rfl (fun a hf => e_setElem (x1 := true) (j := 0) (vs := [(.bool (true))]) 1 hf hm rfl hx1_2 rfl sizeOf4 rfl rfl rfl (one_cons rfl one_nil) rfl rfl) ?_)
    rintro _ w hm
    have hx1_3 := List.getElem?_set_self (a := true) (idx_lt hx1_2)
    exact gE (gz hm [1, 0] rfl)
   exact gcf rfl (gSk (gz hm [1, 0] rfl))
  repeat clear hm
  intro s0_1 w hm
  refine gS (gS (gR (gF fo_104_1 rfl (gL hm 1 isAgg102 rfl ?_))))
  obtain ⟨p0_1, c0_3, rfl, hl0_1⟩ := ro_slice h0_6
  refine gY (yV st_102 rfl) (gY (yS (by omega) (by omega) rfl) (gA rfl (gE ?_)))
  obtain ⟨p0_2, c0_4, rfl, hl0_2⟩ := ro_slice (hm.ow_rep 0 rfl)
  refine gJ hm (fun s0_2 => [(9, (.slice p0_2 s0_1.length c0_4))]) (fun s0_2 => [ow [(.slice p0_2 s0_1.length c0_4)] s0_2]) (fun s0_2 => ?_) ?_
  ·
   refine gBk (gMf hm (fun xs2_1 => [(3, (nV i_)), (9, (.slice p0_2 s0_1.length c0_4)), (10, (pV b0_5)), (11, (nV xs2_1.2))]) (fun xs2_1 => [ow [(.slice p0_2 s0_1.length c0_4)] xs2_1.1, blk b0_5 [v0_4, (.slice p0_1 x0_2.ins.length c0_3), (nV x0_2.jump), (nV x0_2.on), v0_6] 104]) [0, 1] rfl ?_)
   repeat clear hm
   intro r1_1 hq1_1 xs2_1 w hm q1_1 ho1_1
   refine gS (gS (gR (gM rfl (gM rfl (gB rfl (gE (gsd 39 rfl (fun h2_1 => ?_) fun h2_1 => ?_)))))))
   ·
    refine gct rfl (gSk (gS (gBk (gS (gR (gF fo_104_1 rfl (gL hm 1 isAgg102 rfl (gM rfl (gg fun x2_1 h2_2 hx2_2 => ?_)))))))))
    obtain ⟨b2_1, o2_1, c2_1, he⟩ := idx_form' h0_6 hx2_2
    simp only [Value.slice.injEq, Option.some.injEq] at he; obtain ⟨rfl, _, rfl⟩ := he
    obtain ⟨v2_1, hc2_1, h2_3⟩ := rk_Ins_ h0_6 hx2_2
    refine gI st_102 h2_2 (idx_lt hx2_2) rfl (gY (yn (hc2_1.mono hm.lez) isAgg106 sizeOf106 rfl) (gC hm rfl call138 (spec_MadeBy_ok _ x2_1 v2_1 (hm.now h2_3)) fun r2_1 hx2_3 w hm => gA rfl (gE (gS (gS (gR (gM rfl (gB rfl (gE (gJ hm (fun s2_1 => [(3, (nV i_)), (9, (.slice p0_2 s0_1.length c0_4)), (10, (pV b0_5)), (11, (nV xs2_1.2))]) (fun s2_1 => [ow [(.slice p0_2 s0_1.length c0_4)] s2_1, blk b0_5 [v0_4, (sV b2_1 o2_1 x0_2.ins.length c0_3), (nV x0_2.jump), (nV x0_2.on), v0_6] 104]) (fun s2_1 => ?_) ?_))))))))))
    ·
     refine gsd 49 rfl (fun h3_1 => ?_) fun h3_1 => ?_
     ·
      refine gct rfl (gR (gM rfl (gM rfl (gg fun x3_1 h3_2 hx3_2 => ?_))))
      obtain ⟨b3_1, o3_1, c3_1, he⟩ := idx_form (hm.ow_rep 0 rfl) hx3_2
      simp only [Value.slice.injEq, Option.some.injEq] at he; obtain ⟨rfl, _, rfl⟩ := he
      have hL3_1 := rep_slice_len (hm.ow_rep 0 rfl)
      refine gI st_58 h3_2 (idx_lt2 hx3_2 hL3_1) rfl (gf0 rfl (fun a hf => e_setElem (x1 := false) (j := 0) (vs := [(.bool (false))]) 0 hf hm rfl hx3_2 rfl sizeOf4 rfl rfl rfl (one_cons rfl one_nil) rfl rfl) ?_)
      rintro _ w hm
      have hx3_3 := List.getElem?_set_self (a := false) (idx_lt hx3_2)
      exact gE (gz hm [0, 1] rfl)
     exact gcf rfl (gSk (gz hm [0, 1] rfl))
    repeat clear hm
    intro s2_1 w hm
    refine gS (gR (gA rfl (gE (gBk (gNf hm (fun i3_1 xs3_1 => [(3, (nV i_)), (9, (.slice p0_2 s0_1.length c0_4)), (10, (pV b0_5)), (11, (nV xs2_1.2)), (13, (nV i3_1))]) (fun i3_1 xs3_1 => [ow [(.slice p0_2 s0_1.length c0_4)] xs3_1, blk b0_5 [v0_4, (sV b2_1 o2_1 x0_2.ins.length c0_3), (nV x0_2.jump), (nV x0_2.on), v0_6] 104]) [0, 1] rfl ?_ ?_)))))
    ·
     repeat clear hm
     intro _ _ i3_1 xs3_1 w hm hi2_1 hi2_2 q2_1 _
     refine gS (gS (gR (gM rfl (gF fo_104_1 rfl (gL hm 1 isAgg102 rfl (gM rfl (gI st_102 h2_2 (idx_lt hx2_2) rfl (gF fo_106_2 rfl (gY (yl isAgg37 ((hc2_1.mono hm.lez).cell (j := 2) rfl) rfl) ?_)))))))))
     obtain ⟨p3_1, c3_2, rfl, hl3_1⟩ := ro_slice h2_3
     refine gY (yV st_37 rfl) (gB rfl (gE (go _ 61 rfl (decide_eq_true (by omega)) (gct rfl (gSk (gS (gBk (gR (gM rfl (gF fo_104_1 rfl (gL hm 1 isAgg102 rfl (gM rfl (gI st_102 h2_2 (idx_lt hx2_2) rfl (gF fo_106_2 rfl (gY (yl isAgg37 ((hc2_1.mono hm.lez).cell (j := 2) rfl) rfl) (gM rfl (gg fun x3_2 h3_3 hx3_5 => ?_)))))))))))))))))
     obtain ⟨b3_2, o3_2, c3_3, he⟩ := idx_form h2_3 hx3_5
     simp only [Value.slice.injEq, Option.some.injEq] at he; obtain ⟨rfl, _, rfl⟩ := he
     refine gI st_37 h3_3 (idx_lt hx3_5) rfl (gY (yl isAgg3 ((flat_cells (cs := [(nV x3_2)]) (hm.now h2_3) hx3_5 rfl).cell (j := 0) rfl) rfl) (gg fun x3_3 h3_4 hx3_7 => ?_))
     obtain ⟨b3_3, o3_3, c3_4, he⟩ := idx_form (hm.ow_rep 0 rfl) hx3_7
     simp only [Value.slice.injEq, Option.some.injEq] at he; obtain ⟨rfl, _, rfl⟩ := he
     have hL3_2 := rep_slice_len (hm.ow_rep 0 rfl)
     refine gI st_58 h3_4 (idx_lt2 hx3_7 hL3_2) rfl (gf0 rfl (fun a hf => e_setElem (x1 := true) (j := 0) (vs := [(.bool (true))]) 0 hf hm rfl hx3_7 rfl sizeOf4 rfl rfl rfl (one_cons rfl one_nil) rfl rfl) ?_)
     rintro _ w hm
     have hx3_8 := List.getElem?_set_self (a := true) (idx_lt hx3_7)
     exact gE (gR (gM rfl (gP (by omega) (by omega) rfl (gA rfl (gE (gze hm [0, 1] rfl))))))
    repeat clear hm
    intro i2_2 xs2_2 w hm hi2_3 hi2_4
    refine gS (gS (gR (gM rfl (gF fo_104_1 rfl (gL hm 1 isAgg102 rfl (gM rfl (gI st_102 h2_2 (idx_lt hx2_2) rfl (gF fo_106_2 rfl (gY (yl isAgg37 ((hc2_1.mono hm.lez).cell (j := 2) rfl) rfl) ?_)))))))))
    obtain ⟨p2_1, c2_2, rfl, hl2_1⟩ := ro_slice h2_3
    exact gY (yV st_37 rfl) (gB rfl (gE (go _ 61 rfl (decide_eq_false (by omega)) (gcf rfl (gXt (gHh (gR (gM rfl (gB rfl (gA rfl (gE (gze hm [0, 1] rfl))))))))))))
   exact gcf rfl (gXt (gHh (gLp ho1_1 hq1_1 (gz hm [0] rfl))))
  repeat clear hm
  intro s0_2 w hm
  exact gS (gR (gM rfl (gA rfl (gE (gRt (gr1 results92 rfl ⟨(.slice p0_2 s0_1.length c0_4), rfl, hm.pk [0] rfl rfl⟩))))))

theorem spec_l12Live_ok (w0 : World) (c_ : Code_) (v1 : Value) (h1 : GT.rep (hp w0) [v1] c_.blocks) :
    ConM Tryz.prog 90 [(.agg #[(nV c_.params), (nV c_.regs), v1])] w0 (spec_l12Live c_) fun r v w' => ∃ (x1 : Value) (x2 : Value), v = (.agg #[x1, x2]) ∧ Mem w0 (hp w0) w' [ow [x1] r.ins, ow [x2] r.outs] := by
  unfold spec_l12Live
  refine gcon func90 rfl fun r => ?_
  have hm := Mem.start w0
  refine gS (gR (gBx hm rfl fun b0_1 w hm => gAl hm zeroValue99 rfl fun b0_2 w hm => gE (gS (gR (gY (yG rfl (y_build (vs := []) (cs := #[(.slice none 0 0), (.slice none 0 0)]) rfl rfl (by kernel_rfl))) (gAl hm zeroValue99 rfl fun b0_3 w hm => gSN hm 0 sizeOf99 (one_cons rfl (one_cons rfl one_nil)) rfl fun w hm => gE (gS (gR (gF fo_57_2 rfl (gL hm 2 isAgg55 rfl ?_))))))))))
  obtain ⟨p0_1, c0_1, rfl, hl0_1⟩ := ro_slice h1
  refine gY (yV st_55 rfl) (gA rfl (gE (gS (gS (gR (gA rfl (gE (gBk ?_))))))))
  replace hm := hm.nilow (α := List Bool)
  replace hm := hm.nilow (α := List Bool)
  refine gNg (fun i1_1 xs1_1 a w => ∃ (v1_1 : Value) (v1_2 : Value), St 126 [(1, (pV b0_1)), (2, (pV b0_2)), (3, (pV b0_3)), (4, (nV ((c_.blocks.length : Int)))), (5, (nV i1_1))] w0 (hp w0) [blk b0_1 [(nV c_.params), (nV c_.regs), (.slice p0_1 c_.blocks.length c0_1)] 57, blk b0_2 [(.slice none 0 0), (.slice none 0 0)] 99, blk b0_3 [v1_1, v1_2] 99, ow [v1_1] xs1_1.1, ow [v1_2] xs1_1.2] a w) (fun a hf => ⟨(.slice none 0 0), (.slice none 0 0), hf.sb rfl, hm.pk [4, 3, 2, 1, 0] rfl rfl⟩) ?_ ?_
  ·
   repeat clear hm
   rintro _ _ i1_1 xs1_1 a w ⟨v1_1, v1_2, hf, hm⟩ hi0_1 hi0_2 q0_1 _
   refine gv hf (gS (gS (gR (gM rfl (gM rfl (gB rfl (gE (go _ 18 rfl (decide_eq_true (by omega)) (gct rfl (gSk (gS (gBk (gS (gW (.p 0 (.p 2 (.q 1 (.e 3 (.e 4 (.e 5 (.e 6 (.p 7 (.e 8 .fin .nil)) .nil) .nil) .nil) .nil)))) [3, 4, 5] [0, 2, 7] hm [0, 1, 2, 3, 4] [blk b0_1 [(nV c_.params), (nV c_.regs), (.slice p0_1 c_.blocks.length c0_1)] 57, blk b0_2 [(.slice none 0 0), (.slice none 0 0)] 99, blk b0_3 [v1_1, v1_2] 99, ow [v1_1] xs1_1.1, ow [v1_2] xs1_1.2] rfl mxo (by kernel_rfl) (fun _ _ _ h => h.2) fun w hm hS => tP rfl (fun w => yF fo_99_0 rfl) (tP rfl (fun w => yF fo_57_1 rfl) (tQ rfl hS (fun w hm => yL hm 2 isAgg53 rfl) (tO (tY rfl (yL hm 0 isAgg3 rfl) (tAs hS (tO (gb fun ys1_1 hx1_1 => ?_)))))))))))))))))))))
   obtain ⟨⟨h1_11, h1_12⟩, h1_1e⟩ := makeM_some.1 hx1_1
   refine tf rfl rfl (fun a hf => e_make (x0 := (false : Bool)) et_58 (fun _ => (Flat.own_iff.2 rfl)) hf hm rfl rfl rfl h1_11 (Int.le_refl _) h1_12) ?_
   rintro v1_3 w hm
   rw [h1_1e] at hm
   have h1_1l : (ys1_1.length : Int) = c_.regs := by rw [← h1_1e]; simp only [List.length_replicate]; omega
   refine tAk hm [1, 2, 3, 4, 5] rfl fun hS => tO ?_
   obtain ⟨p1_1, c1_1, rfl, hl1_1⟩ := ro_slice (hm.ow_rep 0 rfl)
   refine tf rfl rfl (fun a hf => e_build (vs := #[(0, (.slice p1_1 ys1_1.length c1_1))]) (cs := [(.slice p1_1 ys1_1.length c1_1)]) et_53 hf hm rfl rfl (by kernel_rfl) rfl rfl) ?_
   rintro _ w ⟨b1_1, rfl, hm⟩
   replace hm := hm.els_nil (α := List Bool)
   replace hm := hm.imp (c' := ow [(.slice p1_1 ys1_1.length c1_1)] (ys1_1 : List Bool)) 2 rfl (fun F h0 => h0)
   replace hm := (hm.els_cons 0 2 (by decide) rfl rfl).pk (L' := [els [(.slice p1_1 ys1_1.length c1_1)] ([ys1_1] : List (List Bool)), blk b1_1 [(.slice p1_1 ys1_1.length c1_1)] 58, blk b0_1 [(nV c_.params), (nV c_.regs), (.slice p0_1 c_.blocks.length c0_1)] 57, blk b0_2 [(.slice none 0 0), (.slice none 0 0)] 99, blk b0_3 [v1_1, v1_2] 99, ow [v1_1] xs1_1.1, ow [v1_2] xs1_1.2]) [0, 1, 3, 4, 5, 6, 7] rfl rfl
   replace hm := (hm.lit_els 1 0 (by decide) rfl rfl rfl rfl).pk (L' := [ow [(sV b1_1 0 1 1)] ([ys1_1] : List (List Bool)), blk b0_1 [(nV c_.params), (nV c_.regs), (.slice p0_1 c_.blocks.length c0_1)] 57, blk b0_2 [(.slice none 0 0), (.slice none 0 0)] 99, blk b0_3 [v1_1, v1_2] 99, ow [v1_1] xs1_1.1, ow [v1_2] xs1_1.2]) [1, 2, 3, 4, 5, 6] rfl rfl
   refine tAk hm [1, 2, 3, 4, 5] rfl fun hS => tO (gb fun ys1_2 hx1_2 => ?_)
   obtain ⟨h1_2, h1_2e⟩ := appM_some.1 hx1_2
   replace hm := (hm.both 4 0 (by decide) rfl rfl).pk (L' := [blk b0_1 [(nV c_.params), (nV c_.regs), (.slice p0_1 c_.blocks.length c0_1)] 57, blk b0_2 [(.slice none 0 0), (.slice none 0 0)] 99, blk b0_3 [v1_1, v1_2] 99, both (ow [v1_1] xs1_1.1) (ow [(sV b1_1 0 1 1)] ([ys1_1] : List (List Bool))), ow [v1_2] xs1_1.2]) [1, 2, 3, 4, 5] rfl rfl
   refine tf rfl rfl (fun a hf => e_appendD (xs := xs1_1.1) (ys := ([ys1_1] : List (List Bool))) 3 et_53 hf hm rfl rfl rfl rfl h1_2) ?_
   rintro v1_4 w hm
   rw [h1_2e] at hm
   refine tAn rfl (tP rfl (fun w => yF fo_99_0 rfl) (tO (tf0 rfl rfl (fun a hf => e_store1 2 hf hm rfl sizeOf53 rfl rfl rfl (rep_one (hm.ow_rep 3 rfl)) rfl) ?_)))
   rintro _ w hm
   refine tAn rfl (tE (gW (.p 0 (.p 2 (.q 1 (.e 3 (.e 4 (.e 5 (.e 6 (.p 7 (.e 8 .fin .nil)) .nil) .nil) .nil) .nil)))) [3, 4, 5] [0, 2, 7] hm [0, 1, 2, 3, 4] [blk b0_1 [(nV c_.params), (nV c_.regs), (.slice p0_1 c_.blocks.length c0_1)] 57, blk b0_2 [(.slice none 0 0), (.slice none 0 0)] 99, blk b0_3 [v1_4, v1_2] 99, ow [v1_4] ys1_2, ow [v1_2] xs1_1.2] rfl mxo (by kernel_rfl) (fun _ _ _ h => h.2) fun w hm hS => tP rfl (fun w => yF fo_99_1 rfl) (tP rfl (fun w => yF fo_57_1 rfl) (tQ rfl hS (fun w hm => yL hm 2 isAgg53 rfl) (tO (tY rfl (yL hm 0 isAgg3 rfl) (tAs hS (tO (gb fun ys1_3 hx1_3 => ?_)))))))))
   obtain ⟨⟨h1_31, h1_32⟩, h1_3e⟩ := makeM_some.1 hx1_3
   refine tf rfl rfl (fun a hf => e_make (x0 := (false : Bool)) et_58 (fun _ => (Flat.own_iff.2 rfl)) hf hm rfl rfl rfl h1_31 (Int.le_refl _) h1_32) ?_
   rintro v1_5 w hm
   rw [h1_3e] at hm
   have h1_3l : (ys1_3.length : Int) = c_.regs := by rw [← h1_3e]; simp only [List.length_replicate]; omega
   refine tAk hm [1, 2, 3, 4, 5] rfl fun hS => tO ?_
   obtain ⟨p1_2, c1_2, rfl, hl1_2⟩ := ro_slice (hm.ow_rep 0 rfl)
   refine tf rfl rfl (fun a hf => e_build (vs := #[(0, (.slice p1_2 ys1_3.length c1_2))]) (cs := [(.slice p1_2 ys1_3.length c1_2)]) et_53 hf hm rfl rfl (by kernel_rfl) rfl rfl) ?_
   rintro _ w ⟨b1_2, rfl, hm⟩
   replace hm := hm.els_nil (α := List Bool)
   replace hm := hm.imp (c' := ow [(.slice p1_2 ys1_3.length c1_2)] (ys1_3 : List Bool)) 2 rfl (fun F h0 => h0)
   replace hm := (hm.els_cons 0 2 (by decide) rfl rfl).pk (L' := [els [(.slice p1_2 ys1_3.length c1_2)] ([ys1_3] : List (List Bool)), blk b1_2 [(.slice p1_2 ys1_3.length c1_2)] 58, blk b0_1 [(nV c_.params), (nV c_.regs), (.slice p0_1 c_.blocks.length c0_1)] 57, blk b0_2 [(.slice none 0 0), (.slice none 0 0)] 99, blk b0_3 [v1_4, v1_2] 99, ow [v1_4] ys1_2, ow [v1_2] xs1_1.2]) [0, 1, 3, 4, 5, 6, 7] rfl rfl
   replace hm := (hm.lit_els 1 0 (by decide) rfl rfl rfl rfl).pk (L' := [ow [(sV b1_2 0 1 1)] ([ys1_3] : List (List Bool)), blk b0_1 [(nV c_.params), (nV c_.regs), (.slice p0_1 c_.blocks.length c0_1)] 57, blk b0_2 [(.slice none 0 0), (.slice none 0 0)] 99, blk b0_3 [v1_4, v1_2] 99, ow [v1_4] ys1_2, ow [v1_2] xs1_1.2]) [1, 2, 3, 4, 5, 6] rfl rfl
   refine tAk hm [1, 2, 3, 4, 5] rfl fun hS => tO (gb fun ys1_4 hx1_4 => ?_)
   obtain ⟨h1_4, h1_4e⟩ := appM_some.1 hx1_4
   replace hm := (hm.both 5 0 (by decide) rfl rfl).pk (L' := [blk b0_1 [(nV c_.params), (nV c_.regs), (.slice p0_1 c_.blocks.length c0_1)] 57, blk b0_2 [(.slice none 0 0), (.slice none 0 0)] 99, blk b0_3 [v1_4, v1_2] 99, ow [v1_4] ys1_2, both (ow [v1_2] xs1_1.2) (ow [(sV b1_2 0 1 1)] ([ys1_3] : List (List Bool)))]) [1, 2, 3, 4, 5] rfl rfl
   refine tf rfl rfl (fun a hf => e_appendD (xs := xs1_1.2) (ys := ([ys1_3] : List (List Bool))) 4 et_53 hf hm rfl rfl rfl rfl h1_4) ?_
   rintro v1_6 w hm
   rw [h1_4e] at hm
   refine tAn rfl (tP rfl (fun w => yF fo_99_1 rfl) (tO (tf0 rfl rfl (fun a hf => e_store1 2 hf hm rfl sizeOf53 rfl rfl rfl (rep_one (hm.ow_rep 4 rfl)) rfl) ?_)))
   rintro _ w hm
   exact tAn rfl (tE (gR (gM rfl (gP (by omega) (by omega) rfl (gA rfl (gE (gZe fun a hf => ⟨v1_4, v1_6, hf.sb rfl, hm.pk [0, 1, 2, 3, 4] rfl rfl⟩)))))))
  repeat clear hm
  rintro i0_1 xs0_1 a w ⟨v0_1, v0_2, hf, hm⟩ hi0_3 hi0_4
  refine gv hf (gS (gS (gR (gM rfl (gM rfl (gB rfl (gE (go _ 18 rfl (decide_eq_false (by omega)) (gcf rfl (gXt (gHh (gS (gS (gR (gA rfl (gE ?_))))))))))))))))
  obtain ⟨p0_2, c0_2, rfl, hl0_2⟩ := ro_slice (hm.ow_rep 3 rfl)
  obtain ⟨p0_3, c0_3, rfl, hl0_3⟩ := ro_slice (hm.ow_rep 4 rfl)
  refine gJ hm (fun s0_1 => [(2, (pV b0_2)), (3, (pV b0_3))]) (fun s0_1 => [blk b0_2 [(.slice none 0 0), (.slice none 0 0)] 99, blk b0_3 [(.slice p0_2 xs0_1.1.length c0_2), (.slice p0_3 xs0_1.2.length c0_3)] 99, ow [(.slice p0_2 xs0_1.1.length c0_2)] s0_1.1, ow [(.slice p0_3 xs0_1.2.length c0_3)] s0_1.2]) (fun s0_1 => ?_) ?_
  ·
   refine gBk (gMf hm (fun xs2_1 => [(1, (pV b0_1)), (2, (pV b0_2)), (3, (pV b0_3)), (4, (nV ((c_.blocks.length : Int)))), (6, (.bool (xs2_1.2.2)))]) (fun xs2_1 => [blk b0_1 [(nV c_.params), (nV c_.regs), (.slice p0_1 c_.blocks.length c0_1)] 57, blk b0_2 [(.slice none 0 0), (.slice none 0 0)] 99, blk b0_3 [(.slice p0_2 xs0_1.1.length c0_2), (.slice p0_3 xs0_1.2.length c0_3)] 99, ow [(.slice p0_2 xs0_1.1.length c0_2)] xs2_1.1, ow [(.slice p0_3 xs0_1.2.length c0_3)] xs2_1.2.1]) [0, 1, 2, 3, 4] rfl ?_)
   repeat clear hm
   intro r1_1 hq1_1 xs2_1 w hm q1_1 ho1_1
   refine gS (gS (gR (gM rfl (gE (gs 37 rfl (fun h2_1 => ?_) fun h2_1 => ?_)))))
   ·
    refine gct rfl (gSk (gBk (gS (gR (gA rfl (gE (gS (gR (gM rfl (gY (yS (by omega) (by omega) rfl) (gA rfl (gE (gJ hm (fun s2_1 => [(1, (pV b0_1)), (2, (pV b0_2)), (3, (pV b0_3)), (4, (nV ((c_.blocks.length : Int)))), (6, (.bool (s2_1.2.2)))]) (fun s2_1 => [blk b0_1 [(nV c_.params), (nV c_.regs), (.slice p0_1 c_.blocks.length c0_1)] 57, blk b0_2 [(.slice none 0 0), (.slice none 0 0)] 99, blk b0_3 [(.slice p0_2 xs0_1.1.length c0_2), (.slice p0_3 xs0_1.2.length c0_3)] 99, ow [(.slice p0_2 xs0_1.1.length c0_2)] s2_1.1, ow [(.slice p0_3 xs0_1.2.length c0_3)] s2_1.2.1]) (fun s2_1 => ?_) ?_)))))))))))))
    ·
     refine gBk (gMf hm (fun xs4_1 => [(1, (pV b0_1)), (2, (pV b0_2)), (3, (pV b0_3)), (4, (nV ((c_.blocks.length : Int)))), (6, (.bool (xs4_1.2.2.1))), (7, (nV xs4_1.2.2.2))]) (fun xs4_1 => [blk b0_1 [(nV c_.params), (nV c_.regs), (.slice p0_1 c_.blocks.length c0_1)] 57, blk b0_2 [(.slice none 0 0), (.slice none 0 0)] 99, blk b0_3 [(.slice p0_2 xs0_1.1.length c0_2), (.slice p0_3 xs0_1.2.length c0_3)] 99, ow [(.slice p0_2 xs0_1.1.length c0_2)] xs4_1.1, ow [(.slice p0_3 xs0_1.2.length c0_3)] xs4_1.2.1]) [0, 1, 2, 3, 4] rfl ?_)
     repeat clear hm
     intro r3_1 hq3_1 xs4_1 w hm q3_1 ho3_1
     refine gS (gS (gR (gM rfl (gB rfl (gE (gsd 41 rfl (fun h4_1 => ?_) fun h4_1 => ?_))))))
     ·
      refine gct rfl (gSk (gS (gBk (gS (gS (gR (gA rfl (gE (gJ hm (fun s4_1 => [(1, (pV b0_1)), (2, (pV b0_2)), (3, (pV b0_3)), (4, (nV ((c_.blocks.length : Int)))), (6, (.bool (s4_1.2))), (7, (nV xs4_1.2.2.2))]) (fun s4_1 => [blk b0_1 [(nV c_.params), (nV c_.regs), (.slice p0_1 c_.blocks.length c0_1)] 57, blk b0_2 [(.slice none 0 0), (.slice none 0 0)] 99, blk b0_3 [(.slice p0_2 xs0_1.1.length c0_2), (.slice p0_3 xs0_1.2.length c0_3)] 99, ow [(.slice p0_2 xs0_1.1.length c0_2)] xs4_1.1, ow [(.slice p0_3 xs0_1.2.length c0_3)] s4_1.1]) (fun s4_1 => ?_) ?_)))))))))
      ·
       refine gBk (gMf hm (fun xs6_1 => [(1, (pV b0_1)), (2, (pV b0_2)), (3, (pV b0_3)), (4, (nV ((c_.blocks.length : Int)))), (6, (.bool (xs6_1.2.1))), (7, (nV xs4_1.2.2.2)), (8, (nV xs6_1.2.2))]) (fun xs6_1 => [blk b0_1 [(nV c_.params), (nV c_.regs), (.slice p0_1 c_.blocks.length c0_1)] 57, blk b0_2 [(.slice none 0 0), (.slice none 0 0)] 99, blk b0_3 [(.slice p0_2 xs0_1.1.length c0_2), (.slice p0_3 xs0_1.2.length c0_3)] 99, ow [(.slice p0_2 xs0_1.1.length c0_2)] xs4_1.1, ow [(.slice p0_3 xs0_1.2.length c0_3)] xs6_1.1]) [0, 1, 2, 3, 4] rfl ?_)
       repeat clear hm
       intro r5_1 hq5_1 xs6_1 w hm q5_1 ho5_1
       refine gS (gS (gR (gM rfl (gF fo_57_2 rfl (gL hm 0 isAgg55 rfl (gM rfl (gg fun x6_1 h6_1 hx6_2 => ?_)))))))
       obtain ⟨b6_1, o6_1, c6_1, he⟩ := idx_form' h1 hx6_2
       simp only [Value.slice.injEq, Option.some.injEq] at he; obtain ⟨rfl, _, rfl⟩ := he
       obtain ⟨v6_1, v6_2, v6_3, hc6_1, h6_2, h6_3, h6_4⟩ := rk_Block_ h1 hx6_2
       refine gI st_55 h6_1 (idx_lt hx6_2) rfl (gF fo_104_4 rfl (gY (yl isAgg37 ((hc6_1.mono hm.lez).cell (j := 4) rfl) rfl) ?_))
       obtain ⟨p6_1, c6_2, rfl, hl6_1⟩ := ro_slice h6_4
       refine gY (yV st_37 rfl) (gB rfl (gE (gsd 52 rfl (fun h6_5 => ?_) fun h6_5 => ?_)))
       ·
        refine gct rfl (gSk (gS (gBk (gJ hm (fun s6_1 => [(1, (pV b0_1)), (2, (pV b0_2)), (3, (pV b0_3)), (4, (nV ((c_.blocks.length : Int)))), (6, (.bool (s6_1.2))), (7, (nV xs4_1.2.2.2)), (8, (nV xs6_1.2.2))]) (fun s6_1 => [blk b0_1 [(nV c_.params), (nV c_.regs), (sV b6_1 o6_1 c_.blocks.length c0_1)] 57, blk b0_2 [(.slice none 0 0), (.slice none 0 0)] 99, blk b0_3 [(.slice p0_2 xs0_1.1.length c0_2), (.slice p0_3 xs0_1.2.length c0_3)] 99, ow [(.slice p0_2 xs0_1.1.length c0_2)] xs4_1.1, ow [(.slice p0_3 xs0_1.2.length c0_3)] s6_1.1]) (fun s6_1 => ?_) ?_))))
        ·
         refine gW (.p 2 (.p 3 (.p 5 (.p 9 (.q 0 (.q 1 (.e 4 (.p 6 (.p 7 (.e 8 (.p 10 (.e 11 (.e 12 (.p 13 (.p 14 (.p 15 (.p 16 .fin)))) .nil) .nil)) .nil))) .nil))))))) [0, 1, 4, 8, 11] [2, 3, 5, 6, 7, 9, 10, 13, 14, 15, 16] hm [0, 1, 2, 3, 4] [blk b0_1 [(nV c_.params), (nV c_.regs), (sV b6_1 o6_1 c_.blocks.length c0_1)] 57, blk b0_2 [(.slice none 0 0), (.slice none 0 0)] 99, blk b0_3 [(.slice p0_2 xs0_1.1.length c0_2), (.slice p0_3 xs0_1.2.length c0_3)] 99, ow [(.slice p0_2 xs0_1.1.length c0_2)] xs4_1.1, ow [(.slice p0_3 xs0_1.2.length c0_3)] xs6_1.1] rfl mxo (by kernel_rfl) (fun _ _ _ h => h.2) fun w hm hS => tP rfl (fun w => yM rfl) (tP rfl (fun w => yF fo_57_2 rfl) (tP rfl (fun w => yM rfl) (tP rfl (fun w => yM rfl) (tQ rfl hS (fun w hm => yn (hm.blk_at 0 rfl) isAgg57 sizeOf57 rfl) (tQ rfl hS (fun w hm => yn (hm.blk_at 2 rfl) isAgg99 sizeOf99 rfl) (tO (tY rfl (yL hm 0 isAgg55 rfl) (tAs hS (tP rfl (fun w => yI st_55 h6_1 (idx_lt hx6_2) rfl) (tP rfl (fun w => yF fo_104_4 rfl) (tO (tY rfl (yl isAgg37 ((hc6_1.mono hm.lez).cell (j := 4) rfl) rfl) (tAs hS (gg fun x7_1 h7_1 hx7_2 => ?_))))))))))))))
         obtain ⟨b7_1, o7_1, c7_1, he⟩ := idx_form h6_4 hx7_2
         simp only [Value.slice.injEq, Option.some.injEq] at he; obtain ⟨rfl, _, rfl⟩ := he
         refine tP rfl (fun w => yI st_37 h7_1 (idx_lt hx7_2) rfl) (tO (tY rfl (yl isAgg3 ((flat_cells (cs := [(nV x7_1)]) (hm.now h6_4) hx7_2 rfl).cell (j := 0) rfl) rfl) (tAs hS (tO (gb fun r7_1 hx7_3 => ?_)))))
         obtain ⟨hz7_1, hle, hm1, hsub, hk7_1⟩ := hm.take2 (L1 := [ow [(.slice p0_3 xs0_1.2.length c0_3)] xs6_1.1]) (L2 := [blk b0_1 [(nV c_.params), (nV c_.regs), (sV b6_1 o6_1 c_.blocks.length c0_1)] 57, blk b0_2 [(.slice none 0 0), (.slice none 0 0)] 99, blk b0_3 [(.slice p0_2 xs0_1.1.length c0_2), (.slice p0_3 xs0_1.2.length c0_3)] 99, ow [(.slice p0_2 xs0_1.1.length c0_2)] xs4_1.1]) [4] [0, 1, 2, 3] (by decide) rfl rfl
         refine tf rfl rfl (fun a hf => e_call hf rfl call137 rfl (spec_l12Flow_ok _ hz7_1 c_ (sV b6_1 o6_1 c_.blocks.length c0_1) (GT.mono hle h1) (⟨xs4_1.1, xs6_1.1⟩ : l12Sets) (.slice p0_2 xs0_1.1.length c0_2) (fz_ow (hsub 3 _ rfl)) (.slice p0_3 xs0_1.2.length c0_3) xs4_1.2.2.2 x7_1 hm1  _ hx7_3)) ?_
         rintro v7_1 w ⟨rfl, hB⟩
         replace hm := hk7_1 _ _ hB; clear hB
         refine tAn rfl (tP rfl (fun w => yM rfl) (gs 68 rfl (fun h7_2 => ?_) fun h7_2 => ?_))
         ·
          exact tPo rfl rfl (tP rfl (fun w => yKt rfl) (tP rfl (fun w => yA rfl) (tE (gz hm [1, 2, 3, 4, 0] rfl))))
         exact tP rfl (fun w => yM rfl) (tP rfl (fun w => yKf rfl) (tP rfl (fun w => yA rfl) (tE (gz hm [1, 2, 3, 4, 0] rfl))))
        repeat clear hm
        intro s6_1 w hm
        exact gR (gM rfl (gB rfl (gA rfl (gE (gze hm [0, 1, 2, 3, 4] rfl)))))
       exact gcf rfl (gXt (gHh (gLp ho5_1 hq5_1 (gz hm [0, 1, 2, 3, 4] rfl))))
      repeat clear hm
      intro s4_1 w hm
      refine gS (gR (gY (yn (hm.blk_at 0 rfl) isAgg57 sizeOf57 rfl) (gY (yn (hm.blk_at 2 rfl) isAgg99 sizeOf99 rfl) (gM rfl (gCg rfl call92 (spec_l12Behind_ok _ c_ (.slice p0_1 c_.blocks.length c0_1) (hm.now h1) (⟨xs4_1.1, s4_1.1⟩ : l12Sets) (.slice p0_2 xs0_1.1.length c0_2) (hm.ow_rep 3 rfl) (.slice p0_3 xs0_1.2.length c0_3) (hm.ow_rep 4 rfl) xs4_1.2.2.2 (-1)) ?_)))))
      rintro r4_1 hx4_1 v4_1 w ⟨_, rfl, hB⟩
      replace hm := hm.give hB; clear hB
      refine gA rfl (gE (gS (gS (gR (gA rfl (gE ?_))))))
      obtain ⟨p4_1, c4_1, rfl, hl4_1⟩ := ro_slice (hm.ow_rep 0 rfl)
      refine gJ hm (fun s4_2 => [(1, (pV b0_1)), (2, (pV b0_2)), (3, (pV b0_3)), (4, (nV ((c_.blocks.length : Int)))), (6, (.bool (s4_1.2))), (7, (nV xs4_1.2.2.2)), (9, (.slice p4_1 r4_1.length c4_1))]) (fun s4_2 => [blk b0_1 [(nV c_.params), (nV c_.regs), (.slice p0_1 c_.blocks.length c0_1)] 57, blk b0_2 [(.slice none 0 0), (.slice none 0 0)] 99, blk b0_3 [(.slice p0_2 xs0_1.1.length c0_2), (.slice p0_3 xs0_1.2.length c0_3)] 99, ow [(.slice p0_2 xs0_1.1.length c0_2)] xs4_1.1, ow [(.slice p0_3 xs0_1.2.length c0_3)] s4_1.1, ow [(.slice p4_1 r4_1.length c4_1)] s4_2]) (fun s4_2 => ?_) ?_
      ·
       refine gBk (gMf hm (fun xs6_2 => [(1, (pV b0_1)), (2, (pV b0_2)), (3, (pV b0_3)), (4, (nV ((c_.blocks.length : Int)))), (6, (.bool (s4_1.2))), (7, (nV xs4_1.2.2.2)), (9, (.slice p4_1 r4_1.length c4_1)), (10, (nV xs6_2.2))]) (fun xs6_2 => [blk b0_1 [(nV c_.params), (nV c_.regs), (.slice p0_1 c_.blocks.length c0_1)] 57, blk b0_2 [(.slice none 0 0), (.slice none 0 0)] 99, blk b0_3 [(.slice p0_2 xs0_1.1.length c0_2), (.slice p0_3 xs0_1.2.length c0_3)] 99, ow [(.slice p0_2 xs0_1.1.length c0_2)] xs4_1.1, ow [(.slice p0_3 xs0_1.2.length c0_3)] s4_1.1, ow [(.slice p4_1 r4_1.length c4_1)] xs6_2.1]) [1, 2, 3, 4, 5, 0] rfl ?_)
       repeat clear hm
       intro r5_2 hq5_2 xs6_2 w hm q5_2 ho5_2
       refine gS (gS (gR (gM rfl (gF fo_57_2 rfl (gL hm 0 isAgg55 rfl (gM rfl (gg fun x6_2 h6_6 hx6_4 => ?_)))))))
       obtain ⟨b6_2, o6_2, c6_3, he⟩ := idx_form' h1 hx6_4
       simp only [Value.slice.injEq, Option.some.injEq] at he; obtain ⟨rfl, _, rfl⟩ := he
       obtain ⟨v6_4, v6_5, v6_6, hc6_2, h6_7, h6_8, h6_9⟩ := rk_Block_ h1 hx6_4
       refine gI st_55 h6_6 (idx_lt hx6_4) rfl (gF fo_104_0 rfl (gY (yl isAgg101 ((hc6_2.mono hm.lez).cell (j := 0) rfl) rfl) ?_))
       obtain ⟨p6_2, c6_4, rfl, hl6_2⟩ := ro_slice h6_7
       refine gY (yV st_101 rfl) (gB rfl (gE (gsd 83 rfl (fun h6_10 => ?_) fun h6_10 => ?_)))
       ·
        refine gct rfl (gSk (gS (gBk (gR (gM rfl (gF fo_57_2 rfl (gL hm 0 isAgg55 rfl (gM rfl (gI st_55 h6_6 (idx_lt hx6_4) rfl (gF fo_104_0 rfl (gY (yl isAgg101 ((hc6_2.mono hm.lez).cell (j := 0) rfl) rfl) (gM rfl (gg fun x6_3 h6_11 hx6_6 => ?_)))))))))))))
        obtain ⟨b6_3, o6_3, c6_5, he⟩ := idx_form' h6_7 hx6_6
        simp only [Value.slice.injEq, Option.some.injEq] at he; obtain ⟨rfl, _, rfl⟩ := he
        obtain ⟨v6_7, hc6_3, h6_12⟩ := rk_Phi_ h6_7 hx6_6
        refine gI st_101 h6_11 (idx_lt hx6_6) rfl (gF fo_143_0 rfl (gY (yl isAgg3 ((hc6_3.mono hm.lez).cell (j := 0) rfl) rfl) (gg fun x6_4 h6_13 hx6_8 => ?_)))
        obtain ⟨b6_4, o6_4, c6_6, he⟩ := idx_form (hm.ow_rep 5 rfl) hx6_8
        simp only [Value.slice.injEq, Option.some.injEq] at he; obtain ⟨rfl, _, rfl⟩ := he
        have hL6_1 := rep_slice_len (hm.ow_rep 5 rfl)
        refine gI st_58 h6_13 (idx_lt2 hx6_8 hL6_1) rfl (gf0 rfl (fun a hf => e_setElem (x1 := false) (j := 0) (vs := [(.bool (false))]) 5 hf hm rfl hx6_8 rfl sizeOf4 rfl rfl rfl (one_cons rfl one_nil) rfl rfl) ?_)
        rintro _ w hm
        have hx6_9 := List.getElem?_set_self (a := false) (idx_lt hx6_8)
        exact gE (gR (gM rfl (gB rfl (gA rfl (gE (gze hm [0, 1, 2, 3, 4, 5] rfl))))))
       exact gcf rfl (gXt (gHh (gLp ho5_2 hq5_2 (gz hm [0, 1, 2, 3, 4, 5] rfl))))
      repeat clear hm
      intro s4_2 w hm
      refine gS (gS (gR (gA rfl (gE (gBk (gb fun _ hfit4_1 => ?_))))))
      replace hfit4_1 := fitI_some.1 hfit4_1
      refine gNf hm (fun i5_1 xs5_1 => [(1, (pV b0_1)), (2, (pV b0_2)), (3, (pV b0_3)), (4, (nV ((c_.blocks.length : Int)))), (6, (.bool (xs5_1))), (7, (nV xs4_1.2.2.2)), (9, (.slice p4_1 r4_1.length c4_1)), (11, (nV i5_1))]) (fun i5_1 xs5_1 => [blk b0_1 [(nV c_.params), (nV c_.regs), (.slice p0_1 c_.blocks.length c0_1)] 57, blk b0_2 [(.slice none 0 0), (.slice none 0 0)] 99, blk b0_3 [(.slice p0_2 xs0_1.1.length c0_2), (.slice p0_3 xs0_1.2.length c0_3)] 99, ow [(.slice p0_2 xs0_1.1.length c0_2)] xs4_1.1, ow [(.slice p0_3 xs0_1.2.length c0_3)] s4_1.1, ow [(.slice p4_1 r4_1.length c4_1)] s4_2]) [0, 1, 2, 3, 4, 5] rfl ?_ ?_
      ·
       repeat clear hm
       intro _ _ i5_1 xs5_1 w hm hi4_1 hi4_2 q4_1 _
       refine gS (gS (gR (gM rfl (gF fo_57_1 rfl (gL hm 0 isAgg3 rfl (gB rfl (gE (go _ 101 rfl (decide_eq_true (by omega)) (gct rfl (gSk (gS (gBk (gJ hm (fun s5_1 => [(1, (pV b0_1)), (2, (pV b0_2)), (3, (pV b0_3)), (4, (nV ((c_.blocks.length : Int)))), (6, (.bool (s5_1))), (7, (nV xs4_1.2.2.2)), (9, (.slice p4_1 r4_1.length c4_1)), (11, (nV i5_1))]) (fun s5_1 => [blk b0_1 [(nV c_.params), (nV c_.regs), (.slice p0_1 c_.blocks.length c0_1)] 57, blk b0_2 [(.slice none 0 0), (.slice none 0 0)] 99, blk b0_3 [(.slice p0_2 xs0_1.1.length c0_2), (.slice p0_3 xs0_1.2.length c0_3)] 99, ow [(.slice p0_2 xs0_1.1.length c0_2)] xs4_1.1, ow [(.slice p0_3 xs0_1.2.length c0_3)] s4_1.1, ow [(.slice p4_1 r4_1.length c4_1)] s4_2]) (fun s5_1 => ?_) ?_)))))))))))))
       ·
        refine gW (.p 0 (.p 1 (.p 2 (.p 3 (.p 4 (.p 6 (.p 8 (.p 11 (.q 5 (.e 7 (.p 9 (.e 10 (.p 12 (.e 13 (.p 14 (.p 15 (.p 16 .fin))) .nil)) .nil)) .nil)))))))))) [7, 10, 13] [0, 1, 2, 3, 4, 6, 8, 9, 11, 12, 14, 15, 16] hm [0, 1, 2, 3, 4, 5] [blk b0_1 [(nV c_.params), (nV c_.regs), (.slice p0_1 c_.blocks.length c0_1)] 57, blk b0_2 [(.slice none 0 0), (.slice none 0 0)] 99, blk b0_3 [(.slice p0_2 xs0_1.1.length c0_2), (.slice p0_3 xs0_1.2.length c0_3)] 99, ow [(.slice p0_2 xs0_1.1.length c0_2)] xs4_1.1, ow [(.slice p0_3 xs0_1.2.length c0_3)] s4_1.1, ow [(.slice p4_1 r4_1.length c4_1)] s4_2] rfl mxo (by kernel_rfl) (fun _ _ _ h => h.2) fun w hm hS => tP rfl (fun w => yM rfl) (tP rfl (fun w => yM rfl) (gs 105 rfl (fun h6_14 => ?_) fun h6_14 => ?_))
        ·
         exact tPo rfl rfl (tPo rfl rfl (tPo rfl rfl (tPo rfl rfl (tPo rfl rfl (tPo rfl rfl (tQo rfl hS rfl (tO (tEo rfl rfl (tAs hS (tPo rfl rfl (tO (tEo rfl rfl (tAs hS (tPo rfl rfl (tO (tEo rfl rfl (tAs hS (tPo rfl rfl (tP rfl (fun w => yKt rfl) (tP rfl (fun w => yA rfl) (tE (gz hm [0, 1, 2, 3, 4, 5] rfl))))))))))))))))))))))
        refine tP rfl (fun w => yM rfl) (tP rfl (fun w => yM rfl) (gg fun x6_5 h6_15 hx6_11 => ?_))
        obtain ⟨b6_5, o6_5, c6_7, he⟩ := idx_form (hm.ow_rep 5 rfl) hx6_11
        simp only [Value.slice.injEq, Option.some.injEq] at he; obtain ⟨rfl, _, rfl⟩ := he
        have hL6_2 := rep_slice_len (hm.ow_rep 5 rfl)
        refine tP rfl (fun w => yI st_58 h6_15 (idx_lt2 hx6_11 hL6_2) rfl) (tP rfl (fun w => yF fo_99_0 rfl) (tP rfl (fun w => yM rfl) (tP rfl (fun w => yM rfl) (tQ rfl hS (fun w hm => yl isAgg4 ((flat_cells (cs := [(.bool (x6_5))]) (hm.ow_rep 5 rfl) hx6_11 rfl).cell (j := 0) rfl) rfl) (tO (tY rfl (yL hm 2 isAgg53 rfl) (tAs hS (gg fun x6_6 h6_16 hx6_13 => ?_))))))))
        obtain ⟨b6_6, o6_6, c6_8, he⟩ := idx_form' (hm.ow_rep 3 rfl) hx6_13
        simp only [Value.slice.injEq, Option.some.injEq] at he; obtain ⟨rfl, _, rfl⟩ := he
        obtain ⟨_, _, hc6_4, hr6_1⟩ := ro_get' (hm.ow_rep 3 rfl) hx6_13
        have h6_17 := hr6_1
        obtain ⟨v6_8, rfl, -⟩ := id h6_17
        replace h6_17 : GT.rep (hp _) [v6_8] x6_6 := h6_17
        replace hc6_4 : CellsAt (hp _) b6_6 (o6_6 + (xs4_1.2.2.2).toNat * 1) [v6_8] := hc6_4
        have hL6_3 := rep_slice_len (hm.ow_rep 3 rfl)
        refine tP rfl (fun w => yI st_53 h6_16 (idx_lt2 hx6_13 hL6_3) rfl) (tO (tY rfl (yl isAgg58 (hc6_4.cell (j := 0) rfl) rfl) (tAs hS (gg fun x6_7 h6_18 hx6_15 => ?_))))
        obtain ⟨b6_7, o6_7, c6_9, he⟩ := idx_form h6_17 hx6_15
        subst he
        exact tP rfl (fun w => yI st_58 h6_18 (idx_lt hx6_15) rfl) (tO (tY rfl (yl isAgg4 ((flat_cells (cs := [(.bool (x6_7))]) h6_17 hx6_15 rfl).cell (j := 0) rfl) rfl) (tAs hS (tP rfl (fun w => yG rfl (y_neqb underlying4 rfl rfl rfl)) (tP rfl (fun w => yKf rfl) (tP rfl (fun w => yA rfl) (tE (gz hm [0, 1, 2, 3, 4, 5] rfl))))))))
       repeat clear hm
       intro s5_1 w hm
       exact gR (gM rfl (gP (by omega) (by omega) rfl (gA rfl (gE (gze hm [0, 1, 2, 3, 4, 5] rfl)))))
      repeat clear hm
      intro i4_2 xs4_2 w hm hi4_3 hi4_4
      refine gS (gS (gR (gM rfl (gF fo_57_1 rfl (gL hm 0 isAgg3 rfl (gB rfl (gE (go _ 101 rfl (decide_eq_false (by omega)) (gcf rfl (gXt (gHh (gR (gF fo_99_0 rfl (gL hm 2 isAgg53 rfl (gM rfl (gM rfl (gg fun x4_1 h4_2 hx4_3 => ?_)))))))))))))))))
      obtain ⟨b4_1, o4_1, c4_2, he⟩ := idx_form' (hm.ow_rep 3 rfl) hx4_3
      simp only [Value.slice.injEq, Option.some.injEq] at he; obtain ⟨rfl, _, rfl⟩ := he
      obtain ⟨_, _, hc4_1, hr4_1⟩ := ro_get' (hm.ow_rep 3 rfl) hx4_3
      have h4_3 := hr4_1
      obtain ⟨v4_3, rfl, -⟩ := id h4_3
      replace h4_3 : GT.rep (hp _) [v4_3] x4_1 := h4_3
      replace hc4_1 : CellsAt (hp _) b4_1 (o4_1 + (xs4_1.2.2.2).toNat * 1) [v4_3] := hc4_1
      have hL4_1 := rep_slice_len (hm.ow_rep 3 rfl)
      refine gI st_53 h4_2 (idx_lt2 hx4_3 hL4_1) rfl ?_
      replace hm := hm.imp (c' := ow [(.slice p4_1 r4_1.length c4_1)] (s4_2 : List Bool)) 5 rfl (fun F h0 => h0)
      replace hm := (hm.both 3 5 (by decide) rfl rfl).pk (L' := [blk b0_1 [(nV c_.params), (nV c_.regs), (.slice p0_1 c_.blocks.length c0_1)] 57, blk b0_2 [(.slice none 0 0), (.slice none 0 0)] 99, blk b0_3 [(sV b4_1 o4_1 xs0_1.1.length c0_2), (.slice p0_3 xs0_1.2.length c0_3)] 99, both (ow [(sV b4_1 o4_1 xs0_1.1.length c0_2)] xs4_1.1) (ow [(.slice p4_1 r4_1.length c4_1)] (s4_2 : List Bool)), ow [(.slice p0_3 xs0_1.2.length c0_3)] s4_1.1]) [0, 1, 2, 3, 4] rfl rfl
      refine gf0 rfl (fun a hf => e_putElem (x1 := (s4_2 : List Bool)) (vs := [(.slice p4_1 r4_1.length c4_1)]) 3 hf hm rfl hx4_3 rfl sizeOf58 rfl rfl rfl rfl) ?_
      rintro _ w hm
      have hx4_4 := List.getElem?_set_self (a := (s4_2 : List Bool)) (idx_lt hx4_3)
      exact gE (gR (gM rfl (gB rfl (gA rfl (gE (gze hm [0, 1, 2, 3, 4] rfl))))))
     exact gcf rfl (gXt (gHh (gLp ho3_1 hq3_1 (gz hm [0, 1, 2, 3, 4] rfl))))
    repeat clear hm
    intro s2_1 w hm
    exact gze hm [0, 1, 2, 3, 4] rfl
   exact gcf rfl (gXt (gHh (gLp ho1_1 hq1_1 (gz hm [1, 2, 3, 4] rfl))))
  repeat clear hm
  intro s0_1 w hm
  exact gS (gR (gY (yn (hm.blk_at 1 rfl) isAgg99 sizeOf99 rfl) (gSN hm 0 sizeOf99 (one_cons rfl (one_cons rfl one_nil)) rfl fun w hm => gE (gRt (grc 0 results90 hm rfl isAgg99 sizeOf99 ⟨(.slice p0_2 xs0_1.1.length c0_2), (.slice p0_3 xs0_1.2.length c0_3), rfl, hm.pk [2, 3] rfl rfl⟩)))))

theorem spec_l21Table_ok (w0 : World) (c_ : Code_) (v1 : Value) (h1 : GT.rep (hp w0) [v1] c_.blocks) :
    ConM Tryz.prog 50 [(.agg #[(nV c_.params), (nV c_.regs), v1])] w0 (spec_l21Table c_) fun r v w' => ∃ (x1 : Value), v = x1 ∧ Mem w0 (hp w0) w' [ow [x1] r] := by
  unfold spec_l21Table
  refine gcon func50 rfl fun r => ?_
  have hm := Mem.start w0
  refine gS (gR (gBx hm rfl fun b0_1 w hm => gA rfl (gE (gS (gR (gf rfl (fun a hf => e_build0 (α := List Bool) et_53 hm rfl) ?_))))))
  rintro v0_1 w hm
  refine gA rfl (gE (gS (gS (gR (gA rfl (gE ?_))))))
  obtain ⟨p0_1, c0_1, rfl, hl0_1⟩ := ro_slice (hm.ow_rep 0 rfl)
  refine gBk (gb fun _ hfit0_1 => ?_)
  replace hfit0_1 := fitI_some.1 hfit0_1
  refine gNg (fun i1_1 xs1_1 a w => ∃ (v1_1 : Value), St 154 [(1, (pV b0_1)), (3, v1_1), (4, (nV i1_1))] w0 (hp w0) [blk b0_1 [(nV c_.params), (nV c_.regs), v1] 57, ow [v1_1] xs1_1] a w) (fun a hf => ⟨(.slice p0_1 ([] : List (List Bool)).length c0_1), hf.sb rfl, hm.pk [1, 0] rfl rfl⟩) ?_ ?_
  ·
   repeat clear hm
   rintro _ _ i1_1 xs1_1 a w ⟨v1_1, hf, hm⟩ hi0_1 hi0_2 q0_1 _
   refine gv hf (gS (gS (gR (gM rfl (gF fo_57_1 rfl (gL hm 0 isAgg3 rfl (gB rfl (gE (go _ 17 rfl (decide_eq_true (by omega)) (gct rfl (gSk (gS (gBk (gR (gM rfl (gF fo_57_1 rfl (gL hm 0 isAgg3 rfl (gb fun ys1_1 hx1_1 => ?_))))))))))))))))))
   obtain ⟨⟨h1_11, h1_12⟩, h1_1e⟩ := makeM_some.1 hx1_1
   refine gf rfl (fun a hf => e_make (x0 := (false : Bool)) et_58 (fun _ => (Flat.own_iff.2 rfl)) hf hm rfl rfl rfl h1_11 (Int.le_refl _) h1_12) ?_
   rintro v1_2 w hm
   rw [h1_1e] at hm
   have h1_1l : (ys1_1.length : Int) = c_.regs := by rw [← h1_1e]; simp only [List.length_replicate]; omega
   obtain ⟨p1_1, c1_1, rfl, hl1_1⟩ := ro_slice (hm.ow_rep 0 rfl)
   refine gf rfl (fun a hf => e_build (vs := #[(0, (.slice p1_1 ys1_1.length c1_1))]) (cs := [(.slice p1_1 ys1_1.length c1_1)]) et_53 hf hm rfl rfl (by kernel_rfl) rfl rfl) ?_
   rintro _ w ⟨b1_1, rfl, hm⟩
   replace hm := hm.els_nil (α := List Bool)
   replace hm := hm.imp (c' := ow [(.slice p1_1 ys1_1.length c1_1)] (ys1_1 : List Bool)) 2 rfl (fun F h0 => h0)
   replace hm := (hm.els_cons 0 2 (by decide) rfl rfl).pk (L' := [els [(.slice p1_1 ys1_1.length c1_1)] ([ys1_1] : List (List Bool)), blk b1_1 [(.slice p1_1 ys1_1.length c1_1)] 58, blk b0_1 [(nV c_.params), (nV c_.regs), v1] 57, ow [v1_1] xs1_1]) [0, 1, 3, 4] rfl rfl
   replace hm := (hm.lit_els 1 0 (by decide) rfl rfl rfl rfl).pk (L' := [ow [(sV b1_1 0 1 1)] ([ys1_1] : List (List Bool)), blk b0_1 [(nV c_.params), (nV c_.regs), v1] 57, ow [v1_1] xs1_1]) [1, 2, 3] rfl rfl
   refine gb fun ys1_2 hx1_2 => ?_
   obtain ⟨h1_2, h1_2e⟩ := appM_some.1 hx1_2
   replace hm := (hm.both 2 0 (by decide) rfl rfl).pk (L' := [blk b0_1 [(nV c_.params), (nV c_.regs), v1] 57, both (ow [v1_1] xs1_1) (ow [(sV b1_1 0 1 1)] ([ys1_1] : List (List Bool)))]) [1, 2] rfl rfl
   refine gf rfl (fun a hf => e_appendD (xs := xs1_1) (ys := ([ys1_1] : List (List Bool))) 1 et_53 hf hm rfl rfl rfl rfl h1_2) ?_
   rintro v1_3 w hm
   rw [h1_2e] at hm
   exact gA rfl (gE (gR (gM rfl (gP (by omega) (by omega) rfl (gA rfl (gE (gZe fun a hf => ⟨v1_3, hf.sb rfl, hm.pk [0, 1] rfl rfl⟩)))))))
  repeat clear hm
  rintro i0_1 xs0_1 a w ⟨v0_2, hf, hm⟩ hi0_3 hi0_4
  refine gv hf (gS (gS (gR (gM rfl (gF fo_57_1 rfl (gL hm 0 isAgg3 rfl (gB rfl (gE (go _ 17 rfl (decide_eq_false (by omega)) (gcf rfl (gXt (gHh (gS (gR (gY (yn (hm.blk_at 0 rfl) isAgg57 sizeOf57 rfl) (gCg rfl call90 (spec_l12Live_ok _ c_ v1 (hm.now h1)) ?_))))))))))))))))
  rintro r0_2 hx0_1 v0_3 w ⟨v0_4, v0_5, rfl, hB⟩
  replace hm := hm.give hB; clear hB
  refine gAl hm zeroValue99 rfl fun b0_2 w hm => gSN hm 0 sizeOf99 (one_cons (rep_one (hm.ow_rep 1 rfl)) (one_cons (rep_one (hm.ow_rep 2 rfl)) one_nil)) rfl fun w hm => gE (gS (gS (gR (gA rfl (gE ?_)))))
  obtain ⟨p0_2, c0_2, rfl, hl0_2⟩ := ro_slice (hm.ow_rep 4 rfl)
  obtain ⟨p0_3, c0_3, rfl, hl0_3⟩ := ro_slice (hm.ow_rep 1 rfl)
  obtain ⟨p0_4, c0_4, rfl, hl0_4⟩ := ro_slice (hm.ow_rep 2 rfl)
  refine gBk (gb fun _ hfit0_2 => ?_)
  replace hfit0_2 := fitI_some.1 hfit0_2
  refine gNf hm (fun i1_2 xs1_2 => [(1, (pV b0_1)), (3, (.slice p0_2 xs0_1.length c0_2)), (5, (pV b0_2)), (6, (nV i1_2))]) (fun i1_2 xs1_2 => [blk b0_1 [(nV c_.params), (nV c_.regs), v1] 57, ow [(.slice p0_2 xs0_1.length c0_2)] xs1_2, blk b0_2 [(.slice p0_3 r0_2.ins.length c0_3), (.slice p0_4 r0_2.outs.length c0_4)] 99, ow [(.slice p0_3 r0_2.ins.length c0_3)] r0_2.ins, ow [(.slice p0_4 r0_2.outs.length c0_4)] r0_2.outs]) [3, 4, 0, 1, 2] rfl ?_ ?_
  ·
   repeat clear hm
   intro _ _ i1_2 xs1_2 w hm hi0_5 hi0_6 q0_2 _
   refine gS (gS (gR (gM rfl (gF fo_57_0 rfl (gL hm 0 isAgg3 rfl (gB rfl (gE (go _ 31 rfl (decide_eq_true (by omega)) (gct rfl (gSk (gS (gBk (gS (gR (gA rfl (gE (gBk (gb fun _ hfit1_1 => ?_))))))))))))))))))
   replace hfit1_1 := fitI_some.1 hfit1_1
   refine gNf hm (fun i2_1 xs2_1 => [(1, (pV b0_1)), (3, (.slice p0_2 xs0_1.length c0_2)), (5, (pV b0_2)), (6, (nV i1_2)), (7, (nV i2_1))]) (fun i2_1 xs2_1 => [blk b0_1 [(nV c_.params), (nV c_.regs), v1] 57, ow [(.slice p0_2 xs0_1.length c0_2)] xs2_1, blk b0_2 [(.slice p0_3 r0_2.ins.length c0_3), (.slice p0_4 r0_2.outs.length c0_4)] 99, ow [(.slice p0_3 r0_2.ins.length c0_3)] r0_2.ins, ow [(.slice p0_4 r0_2.outs.length c0_4)] r0_2.outs]) [0, 1, 2, 3, 4] rfl ?_ ?_
   ·
    repeat clear hm
    intro _ _ i2_1 xs2_1 w hm hi1_1 hi1_2 q1_1 _
    refine gS (gS (gR (gM rfl (gF fo_57_1 rfl (gL hm 0 isAgg3 rfl (gB rfl (gE (go _ 37 rfl (decide_eq_true (by omega)) (gct rfl (gSk (gS (gJ hm (fun s2_1 => [(1, (pV b0_1)), (3, (.slice p0_2 xs0_1.length c0_2)), (5, (pV b0_2)), (6, (nV i1_2)), (7, (nV i2_1))]) (fun s2_1 => [blk b0_1 [(nV c_.params), (nV c_.regs), v1] 57, ow [(.slice p0_2 xs0_1.length c0_2)] s2_1, blk b0_2 [(.slice p0_3 r0_2.ins.length c0_3), (.slice p0_4 r0_2.outs.length c0_4)] 99, ow [(.slice p0_3 r0_2.ins.length c0_3)] r0_2.ins, ow [(.slice p0_4 r0_2.outs.length c0_4)] r0_2.outs]) (fun s2_1 => ?_) ?_))))))))))))
    ·
     refine gBk (gS (gJ hm (fun s3_1 => [(1, (pV b0_1)), (3, (.slice p0_2 xs0_1.length c0_2)), (5, (pV b0_2)), (6, (nV i1_2)), (7, (nV i2_1)), (60, (.bool (s3_1)))]) (fun s3_1 => [blk b0_1 [(nV c_.params), (nV c_.regs), v1] 57, ow [(.slice p0_2 xs0_1.length c0_2)] xs2_1, blk b0_2 [(.slice p0_3 r0_2.ins.length c0_3), (.slice p0_4 r0_2.outs.length c0_4)] 99, ow [(.slice p0_3 r0_2.ins.length c0_3)] r0_2.ins, ow [(.slice p0_4 r0_2.outs.length c0_4)] r0_2.outs]) (fun s3_1 => ?_) ?_))
     ·
      refine gR (gM rfl (gM rfl (gB rfl (gM rfl (gsd 43 rfl (fun h4_1 => ?_) fun h4_1 => ?_)))))
      ·
       refine gF fo_99_0 rfl (gL hm 2 isAgg53 rfl (gg fun x4_1 h4_2 hx4_2 => ?_))
       obtain ⟨b4_1, o4_1, c4_1, he⟩ := idx_form' (hm.ow_rep 3 rfl) hx4_2
       simp only [Value.slice.injEq, Option.some.injEq] at he; obtain ⟨rfl, _, rfl⟩ := he
       obtain ⟨_, _, hc4_1, hr4_1⟩ := ro_get' (hm.ow_rep 3 rfl) hx4_2
       have h4_3 := hr4_1
       obtain ⟨v4_1, rfl, -⟩ := id h4_3
       replace h4_3 : GT.rep (hp _) [v4_1] x4_1 := h4_3
       replace hc4_1 : CellsAt (hp _) b4_1 (o4_1 + (0 : Int).toNat * 1) [v4_1] := hc4_1
       refine gI st_53 h4_2 (idx_lt hx4_2) rfl ?_
       obtain ⟨_, hc4_2, hm⟩ := hm.openE 3 rfl hx4_2
       have hr4_2 := hm.ow_rep 0 rfl
       have h4_4 := hr4_2
       obtain ⟨v4_2, rfl, -⟩ := id h4_4
       replace h4_4 : GT.rep (hp _) [v4_2] x4_1 := h4_4
       clear hc4_2 h4_4
       replace hm : Mem w0 (hp w0) _ [ow [v4_2] (x4_1 : List Bool), blk b0_1 [(nV c_.params), (nV c_.regs), v1] 57, ow [(.slice p0_2 xs0_1.length c0_2)] xs2_1, blk b0_2 [(sV b4_1 o4_1 r0_2.ins.length c0_3), (.slice p0_4 r0_2.outs.length c0_4)] 99, holeE b4_1 o4_1 r0_2.ins.length c0_3 (r0_2.ins : List (List Bool)) (0 : Int).toNat [v4_2], ow [(.slice p0_4 r0_2.outs.length c0_4)] r0_2.outs] := hm
       replace hm := hm.pk (L' := [ow [v4_2] x4_1, blk b0_1 [(nV c_.params), (nV c_.regs), v1] 57, ow [(.slice p0_2 xs0_1.length c0_2)] xs2_1, blk b0_2 [(sV b4_1 o4_1 r0_2.ins.length c0_3), (.slice p0_4 r0_2.outs.length c0_4)] 99, holeE b4_1 o4_1 r0_2.ins.length c0_3 (r0_2.ins : List (List Bool)) (0 : Int).toNat [v4_2], ow [(.slice p0_4 r0_2.outs.length c0_4)] r0_2.outs]) [0, 1, 2, 3, 4, 5] rfl rfl
       refine gY (yl isAgg58 ((hm.holeE_at 4 rfl).cell (j := 0) rfl) rfl) (gM rfl (gg fun x4_2 h4_5 hx4_4 => ?_))
       obtain ⟨b4_2, o4_2, c4_2, he⟩ := idx_form (hm.ow_rep 0 rfl) hx4_4
       subst he
       refine gI st_58 h4_5 (idx_lt hx4_4) rfl (gY (yl isAgg4 ((flat_cells (cs := [(.bool (x4_2))]) (hm.ow_rep 0 rfl) hx4_4 rfl).cell (j := 0) rfl) rfl) (gKt rfl (gM rfl (gs 52 rfl (fun h4_6 => ?_) fun h4_6 => ?_))))
       ·
        refine gF fo_99_0 rfl (gL hm 3 isAgg53 rfl ?_)
        have hL4_1 := hm.holeE_len 4 rfl
        refine gI st_53 h4_2 (idx_lt2 hx4_2 hL4_1) rfl (gY (yl isAgg58 ((hm.holeE_at 4 rfl).cell (j := 0) rfl) rfl) (gM rfl (gg fun x4_3 h4_7 hx4_6 => gI st_58 h4_7 (idx_lt hx4_6) rfl (gY (yl isAgg4 ((flat_cells (cs := [(.bool (x4_3))]) (hm.ow_rep 0 rfl) hx4_6 rfl).cell (j := 0) rfl) rfl) (gKt rfl (gE ?_))))))
        replace hm := hm.imp (c' := ow [(sV b4_2 o4_2 x4_1.length c4_2)] (x4_1 : List Bool)) 0 rfl (fun F h0 => h0)
        replace hm := (hm.shutE (y := (x4_1 : List Bool)) 4 0 (by decide) rfl rfl).pk (L' := [blk b0_1 [(nV c_.params), (nV c_.regs), v1] 57, ow [(.slice p0_2 xs0_1.length c0_2)] xs2_1, blk b0_2 [(sV b4_1 o4_1 r0_2.ins.length c0_3), (.slice p0_4 r0_2.outs.length c0_4)] 99, ow [(sV b4_1 o4_1 r0_2.ins.length c0_3)] (r0_2.ins.set (0 : Int).toNat x4_1), ow [(.slice p0_4 r0_2.outs.length c0_4)] r0_2.outs]) [1, 2, 3, 4, 5] rfl rfl
        rw [set_same hx4_2] at hm
        exact gz hm [0, 1, 2, 3, 4] rfl
       refine gO rfl (gO rfl (gO rfl (gO rfl (gO rfl (gO rfl (gO rfl (gKf rfl (gE ?_))))))))
       replace hm := hm.imp (c' := ow [(sV b4_2 o4_2 x4_1.length c4_2)] (x4_1 : List Bool)) 0 rfl (fun F h0 => h0)
       replace hm := (hm.shutE (y := (x4_1 : List Bool)) 4 0 (by decide) rfl rfl).pk (L' := [blk b0_1 [(nV c_.params), (nV c_.regs), v1] 57, ow [(.slice p0_2 xs0_1.length c0_2)] xs2_1, blk b0_2 [(sV b4_1 o4_1 r0_2.ins.length c0_3), (.slice p0_4 r0_2.outs.length c0_4)] 99, ow [(sV b4_1 o4_1 r0_2.ins.length c0_3)] (r0_2.ins.set (0 : Int).toNat x4_1), ow [(.slice p0_4 r0_2.outs.length c0_4)] r0_2.outs]) [1, 2, 3, 4, 5] rfl rfl
       rw [set_same hx4_2] at hm
       exact gz hm [0, 1, 2, 3, 4] rfl
      exact gO rfl (gO rfl (gO rfl (gO rfl (gO rfl (gO rfl (gO rfl (gKf rfl (gM rfl (gO rfl (gO rfl (gO rfl (gO rfl (gO rfl (gO rfl (gO rfl (gKf rfl (gE (gz hm [0, 1, 2, 3, 4] rfl))))))))))))))))))
     repeat clear hm
     intro s3_1 w hm
     refine gJ hm (fun s3_2 => [(1, (pV b0_1)), (3, (.slice p0_2 xs0_1.length c0_2)), (5, (pV b0_2)), (6, (nV i1_2)), (7, (nV i2_1))]) (fun s3_2 => [blk b0_1 [(nV c_.params), (nV c_.regs), v1] 57, ow [(.slice p0_2 xs0_1.length c0_2)] s3_2, blk b0_2 [(.slice p0_3 r0_2.ins.length c0_3), (.slice p0_4 r0_2.outs.length c0_4)] 99, ow [(.slice p0_3 r0_2.ins.length c0_3)] r0_2.ins, ow [(.slice p0_4 r0_2.outs.length c0_4)] r0_2.outs]) (fun s3_2 => ?_) ?_
     ·
      refine gs 60 rfl (fun h4_8 => ?_) fun h4_8 => ?_
      ·
       refine gct rfl (gS (gR (gM rfl (gM rfl (gg fun x4_4 h4_9 hx4_8 => ?_)))))
       obtain ⟨b4_3, o4_3, c4_3, he⟩ := idx_form' (hm.ow_rep 1 rfl) hx4_8
       simp only [Value.slice.injEq, Option.some.injEq] at he; obtain ⟨rfl, _, rfl⟩ := he
       obtain ⟨_, _, hc4_3, hr4_3⟩ := ro_get' (hm.ow_rep 1 rfl) hx4_8
       have h4_10 := hr4_3
       obtain ⟨v4_3, rfl, -⟩ := id h4_10
       replace h4_10 : GT.rep (hp _) [v4_3] x4_4 := h4_10
       replace hc4_3 : CellsAt (hp _) b4_3 (o4_3 + (i1_2).toNat * 1) [v4_3] := hc4_3
       have hL4_2 := rep_slice_len (hm.ow_rep 1 rfl)
       refine gI st_53 h4_9 (idx_lt2 hx4_8 hL4_2) rfl ?_
       obtain ⟨_, hc4_4, hm⟩ := hm.openE 1 rfl hx4_8
       have hr4_4 := hm.ow_rep 0 rfl
       have h4_11 := hr4_4
       obtain ⟨v4_4, rfl, -⟩ := id h4_11
       replace h4_11 : GT.rep (hp _) [v4_4] x4_4 := h4_11
       clear hc4_4 h4_11
       replace hm : Mem w0 (hp w0) _ [ow [v4_4] (x4_4 : List Bool), blk b0_1 [(nV c_.params), (nV c_.regs), v1] 57, holeE b4_3 o4_3 xs0_1.length c0_2 (xs2_1 : List (List Bool)) (i1_2).toNat [v4_4], blk b0_2 [(.slice p0_3 r0_2.ins.length c0_3), (.slice p0_4 r0_2.outs.length c0_4)] 99, ow [(.slice p0_3 r0_2.ins.length c0_3)] r0_2.ins, ow [(.slice p0_4 r0_2.outs.length c0_4)] r0_2.outs] := hm
       replace hm := hm.pk (L' := [ow [v4_4] x4_4, blk b0_1 [(nV c_.params), (nV c_.regs), v1] 57, holeE b4_3 o4_3 xs0_1.length c0_2 (xs2_1 : List (List Bool)) (i1_2).toNat [v4_4], blk b0_2 [(.slice p0_3 r0_2.ins.length c0_3), (.slice p0_4 r0_2.outs.length c0_4)] 99, ow [(.slice p0_3 r0_2.ins.length c0_3)] r0_2.ins, ow [(.slice p0_4 r0_2.outs.length c0_4)] r0_2.outs]) [0, 1, 2, 3, 4, 5] rfl rfl
       refine gY (yl isAgg58 ((hm.holeE_at 2 rfl).cell (j := 0) rfl) rfl) (gM rfl (gg fun x4_5 h4_12 hx4_10 => ?_))
       obtain ⟨b4_4, o4_4, c4_4, he⟩ := idx_form (hm.ow_rep 0 rfl) hx4_10
       subst he
       refine gI st_58 h4_12 (idx_lt hx4_10) rfl (gf0 rfl (fun a hf => e_setElem (x1 := true) (j := 0) (vs := [(.bool (true))]) 0 hf hm rfl hx4_10 rfl sizeOf4 rfl rfl rfl (one_cons rfl one_nil) rfl rfl) ?_)
       rintro _ w hm
       have hx4_11 := List.getElem?_set_self (a := true) (idx_lt hx4_10)
       refine gE ?_
       replace hm := hm.imp (c' := ow [(sV b4_4 o4_4 x4_4.length c4_4)] ((x4_4.set (i2_1).toNat true) : List Bool)) 0 rfl (fun F h0 => h0)
       replace hm := (hm.shutE (y := ((x4_4.set (i2_1).toNat true) : List Bool)) 2 0 (by decide) rfl rfl).pk (L' := [blk b0_1 [(nV c_.params), (nV c_.regs), v1] 57, ow [(sV b4_3 o4_3 xs0_1.length c0_2)] (xs2_1.set (i1_2).toNat (x4_4.set (i2_1).toNat true)), blk b0_2 [(.slice p0_3 r0_2.ins.length c0_3), (.slice p0_4 r0_2.outs.length c0_4)] 99, ow [(.slice p0_3 r0_2.ins.length c0_3)] r0_2.ins, ow [(.slice p0_4 r0_2.outs.length c0_4)] r0_2.outs]) [1, 2, 3, 4, 5] rfl rfl
       have hx4_12 := List.getElem?_set_self (a := ((x4_4.set (i2_1).toNat true) : List Bool)) (idx_lt hx4_8)
       refine gR (gM rfl (gM rfl (gg fun x4_6 h4_13 hx4_14 => ?_)))
       obtain ⟨_, _, hc4_5, hr4_5⟩ := ro_get' (hm.ow_rep 1 rfl) hx4_14
       have h4_14 := hr4_5
       obtain ⟨v4_5, rfl, -⟩ := id h4_14
       replace h4_14 : GT.rep (hp _) [v4_5] x4_6 := h4_14
       replace hc4_5 : CellsAt (hp _) b4_3 (o4_3 + (i2_1).toNat * 1) [v4_5] := hc4_5
       have hL4_3 := rep_slice_len (hm.ow_rep 1 rfl)
       refine gI st_53 h4_13 (idx_lt2 hx4_14 hL4_3) rfl ?_
       obtain ⟨_, hc4_6, hm⟩ := hm.openE 1 rfl hx4_14
       have hr4_6 := hm.ow_rep 0 rfl
       have h4_15 := hr4_6
       obtain ⟨v4_6, rfl, -⟩ := id h4_15
       replace h4_15 : GT.rep (hp _) [v4_6] x4_6 := h4_15
       clear hc4_6 h4_15
       replace hm : Mem w0 (hp w0) _ [ow [v4_6] (x4_6 : List Bool), blk b0_1 [(nV c_.params), (nV c_.regs), v1] 57, holeE b4_3 o4_3 xs0_1.length c0_2 ((xs2_1.set (i1_2).toNat (x4_4.set (i2_1).toNat true)) : List (List Bool)) (i2_1).toNat [v4_6], blk b0_2 [(.slice p0_3 r0_2.ins.length c0_3), (.slice p0_4 r0_2.outs.length c0_4)] 99, ow [(.slice p0_3 r0_2.ins.length c0_3)] r0_2.ins, ow [(.slice p0_4 r0_2.outs.length c0_4)] r0_2.outs] := hm
       replace hm := hm.pk (L' := [ow [v4_6] x4_6, blk b0_1 [(nV c_.params), (nV c_.regs), v1] 57, holeE b4_3 o4_3 xs0_1.length c0_2 ((xs2_1.set (i1_2).toNat (x4_4.set (i2_1).toNat true)) : List (List Bool)) (i2_1).toNat [v4_6], blk b0_2 [(.slice p0_3 r0_2.ins.length c0_3), (.slice p0_4 r0_2.outs.length c0_4)] 99, ow [(.slice p0_3 r0_2.ins.length c0_3)] r0_2.ins, ow [(.slice p0_4 r0_2.outs.length c0_4)] r0_2.outs]) [0, 1, 2, 3, 4, 5] rfl rfl
       refine gY (yl isAgg58 ((hm.holeE_at 2 rfl).cell (j := 0) rfl) rfl) (gM rfl (gg fun x4_7 h4_16 hx4_16 => ?_))
       obtain ⟨b4_5, o4_5, c4_5, he⟩ := idx_form (hm.ow_rep 0 rfl) hx4_16
       subst he
       refine gI st_58 h4_16 (idx_lt hx4_16) rfl (gf0 rfl (fun a hf => e_setElem (x1 := true) (j := 0) (vs := [(.bool (true))]) 0 hf hm rfl hx4_16 rfl sizeOf4 rfl rfl rfl (one_cons rfl one_nil) rfl rfl) ?_)
       rintro _ w hm
       have hx4_17 := List.getElem?_set_self (a := true) (idx_lt hx4_16)
       refine gE ?_
       replace hm := hm.imp (c' := ow [(sV b4_5 o4_5 x4_6.length c4_5)] ((x4_6.set (i1_2).toNat true) : List Bool)) 0 rfl (fun F h0 => h0)
       replace hm := (hm.shutE (y := ((x4_6.set (i1_2).toNat true) : List Bool)) 2 0 (by decide) rfl rfl).pk (L' := [blk b0_1 [(nV c_.params), (nV c_.regs), v1] 57, ow [(sV b4_3 o4_3 xs0_1.length c0_2)] ((xs2_1.set (i1_2).toNat (x4_4.set (i2_1).toNat true)).set (i2_1).toNat (x4_6.set (i1_2).toNat true)), blk b0_2 [(.slice p0_3 r0_2.ins.length c0_3), (.slice p0_4 r0_2.outs.length c0_4)] 99, ow [(.slice p0_3 r0_2.ins.length c0_3)] r0_2.ins, ow [(.slice p0_4 r0_2.outs.length c0_4)] r0_2.outs]) [1, 2, 3, 4, 5] rfl rfl
       have hx4_18 := List.getElem?_set_self (a := ((x4_6.set (i1_2).toNat true) : List Bool)) (idx_lt hx4_14)
       exact gz hm [0, 1, 2, 3, 4] rfl
      exact gcf rfl (gSk (gz hm [0, 1, 2, 3, 4] rfl))
     repeat clear hm
     intro s3_2 w hm
     exact gz hm [0, 1, 2, 3, 4] rfl
    repeat clear hm
    intro s2_1 w hm
    exact gR (gM rfl (gP (by omega) (by omega) rfl (gA rfl (gE (gze hm [0, 1, 2, 3, 4] rfl)))))
   repeat clear hm
   intro i1_3 xs1_3 w hm hi1_3 hi1_4
   exact gS (gS (gR (gM rfl (gF fo_57_1 rfl (gL hm 0 isAgg3 rfl (gB rfl (gE (go _ 37 rfl (decide_eq_false (by omega)) (gcf rfl (gXt (gHh (gR (gM rfl (gP (by omega) (by omega) rfl (gA rfl (gE (gze hm [0, 1, 2, 3, 4] rfl)))))))))))))))))
  repeat clear hm
  intro i0_2 xs0_2 w hm hi0_7 hi0_8
  refine gS (gS (gR (gM rfl (gF fo_57_0 rfl (gL hm 0 isAgg3 rfl (gB rfl (gE (go _ 31 rfl (decide_eq_false (by omega)) (gcf rfl (gXt (gHh (gS (gS (gR (gA rfl (gE (gBk (gNf hm (fun i1_4 xs1_4 => [(1, (pV b0_1)), (3, (.slice p0_2 xs0_1.length c0_2)), (5, (pV b0_2)), (8, (nV i1_4))]) (fun i1_4 xs1_4 => [blk b0_1 [(nV c_.params), (nV c_.regs), v1] 57, ow [(.slice p0_2 xs0_1.length c0_2)] xs1_4, blk b0_2 [(.slice p0_3 r0_2.ins.length c0_3), (.slice p0_4 r0_2.outs.length c0_4)] 99, ow [(.slice p0_3 r0_2.ins.length c0_3)] r0_2.ins, ow [(.slice p0_4 r0_2.outs.length c0_4)] r0_2.outs]) [0, 1, 2, 3, 4] rfl ?_ ?_))))))))))))))))))
  ·
   repeat clear hm
   intro _ _ i1_4 xs1_4 w hm hi0_9 hi0_10 q0_3 _
   refine gS (gS (gR (gM rfl (gF fo_57_2 rfl (gL hm 0 isAgg55 rfl ?_)))))
   obtain ⟨p1_2, c1_2, rfl, hl1_2⟩ := ro_slice h1
   refine gY (yV st_55 rfl) (gB rfl (gE (go _ 77 rfl (decide_eq_true (by omega)) (gct rfl (gSk (gS (gBk (gS (gR (gA rfl (gE (gJ hm (fun s1_1 => [(1, (pV b0_1)), (3, (.slice p0_2 xs0_1.length c0_2)), (5, (pV b0_2)), (8, (nV i1_4))]) (fun s1_1 => [blk b0_1 [(nV c_.params), (nV c_.regs), (.slice p1_2 c_.blocks.length c1_2)] 57, ow [(.slice p0_2 xs0_1.length c0_2)] s1_1, blk b0_2 [(.slice p0_3 r0_2.ins.length c0_3), (.slice p0_4 r0_2.outs.length c0_4)] 99, ow [(.slice p0_3 r0_2.ins.length c0_3)] r0_2.ins, ow [(.slice p0_4 r0_2.outs.length c0_4)] r0_2.outs]) (fun s1_1 => ?_) ?_))))))))))))
   ·
    refine gBk (gMf hm (fun xs3_1 => [(1, (pV b0_1)), (3, (.slice p0_2 xs0_1.length c0_2)), (5, (pV b0_2)), (8, (nV i1_4)), (9, (nV xs3_1.2))]) (fun xs3_1 => [blk b0_1 [(nV c_.params), (nV c_.regs), (.slice p1_2 c_.blocks.length c1_2)] 57, ow [(.slice p0_2 xs0_1.length c0_2)] xs3_1.1, blk b0_2 [(.slice p0_3 r0_2.ins.length c0_3), (.slice p0_4 r0_2.outs.length c0_4)] 99, ow [(.slice p0_3 r0_2.ins.length c0_3)] r0_2.ins, ow [(.slice p0_4 r0_2.outs.length c0_4)] r0_2.outs]) [0, 1, 2, 3, 4] rfl ?_)
    repeat clear hm
    intro r2_1 hq2_2 xs3_1 w hm q2_1 ho2_1
    refine gS (gS (gR (gM rfl (gF fo_57_2 rfl (gL hm 0 isAgg55 rfl (gM rfl (gg fun x3_1 h3_1 hx3_2 => ?_)))))))
    obtain ⟨b3_1, o3_1, c3_1, he⟩ := idx_form' h1 hx3_2
    simp only [Value.slice.injEq, Option.some.injEq] at he; obtain ⟨rfl, _, rfl⟩ := he
    obtain ⟨v3_1, v3_2, v3_3, hc3_1, h3_2, h3_3, h3_4⟩ := rk_Block_ h1 hx3_2
    refine gI st_55 h3_1 (idx_lt hx3_2) rfl (gF fo_104_1 rfl (gY (yl isAgg102 ((hc3_1.mono hm.lez).cell (j := 1) rfl) rfl) ?_))
    obtain ⟨p3_1, c3_2, rfl, hl3_1⟩ := ro_slice h3_3
    refine gY (yV st_102 rfl) (gB rfl (gE (gsd 88 rfl (fun h3_5 => ?_) fun h3_5 => ?_)))
    ·
     refine gct rfl (gSk (gS (gJ hm (fun s3_3 => [(1, (pV b0_1)), (3, (.slice p0_2 xs0_1.length c0_2)), (5, (pV b0_2)), (8, (nV i1_4)), (9, (nV xs3_1.2))]) (fun s3_3 => [blk b0_1 [(nV c_.params), (nV c_.regs), (sV b3_1 o3_1 c_.blocks.length c1_2)] 57, ow [(.slice p0_2 xs0_1.length c0_2)] s3_3, blk b0_2 [(.slice p0_3 r0_2.ins.length c0_3), (.slice p0_4 r0_2.outs.length c0_4)] 99, ow [(.slice p0_3 r0_2.ins.length c0_3)] r0_2.ins, ow [(.slice p0_4 r0_2.outs.length c0_4)] r0_2.outs]) (fun s3_3 => ?_) ?_)))
     ·
      refine gBk (gS (gR (gF fo_57_2 rfl (gL hm 0 isAgg55 rfl (gM rfl (gI st_55 h3_1 (idx_lt hx3_2) rfl (gF fo_104_1 rfl (gY (yl isAgg102 ((hc3_1.mono hm.lez).cell (j := 1) rfl) rfl) (gM rfl (gg fun x4_8 h4_17 hx4_20 => ?_))))))))))
      obtain ⟨b4_6, o4_6, c4_6, he⟩ := idx_form' h3_3 hx4_20
      simp only [Value.slice.injEq, Option.some.injEq] at he; obtain ⟨rfl, _, rfl⟩ := he
      obtain ⟨v4_7, hc4_7, h4_18⟩ := rk_Ins_ h3_3 hx4_20
      refine gI st_102 h4_17 (idx_lt hx4_20) rfl (gY (yn (hc4_7.mono hm.lez) isAgg106 sizeOf106 rfl) (gAl hm zeroValue106 rfl fun b4_7 w hm => gSN hm 0 sizeOf106 (one_cons rfl (one_cons rfl (one_cons (rep_one h4_18) (one_cons rfl one_nil)))) rfl fun w hm => gE (gS (gS (gR (gF fo_106_0 rfl (gL hm 0 isAgg3 rfl (gC hm rfl call91 (spec_l7Makes_ok _ x4_8.op) fun r4_1 hx4_21 w hm => gN rfl (gE (gsn 103 rfl (fun h4_19 => ?_) fun h4_19 => ?_))))))))))
      ·
       exact gct rfl (gXt (gHh (gz hm [1, 2, 3, 4, 5] rfl)))
      refine gcf rfl (gSk (gS (gR (gY (yn (hm.blk_at 1 rfl) isAgg57 sizeOf57 rfl) (gY (yn (hm.blk_at 3 rfl) isAgg99 sizeOf99 rfl) (gM rfl (gM rfl (gCg rfl call92 (spec_l12Behind_ok _ c_ (sV b3_1 o3_1 c_.blocks.length c1_2) (hm.now h1) r0_2 (.slice p0_3 r0_2.ins.length c0_3) (hm.ow_rep 4 rfl) (.slice p0_4 r0_2.outs.length c0_4) (hm.ow_rep 5 rfl) i1_4 xs3_1.2) ?_))))))))
      rintro r4_2 hx4_22 v4_9 w ⟨_, rfl, hB⟩
      replace hm := hm.give hB; clear hB
      refine gA rfl (gE (gS (gR (gA rfl (gE ?_)))))
      obtain ⟨p4_1, c4_7, rfl, hl4_1⟩ := ro_slice (hm.ow_rep 0 rfl)
      refine gBk (gb fun _ hfit4_1 => ?_)
      replace hfit4_1 := fitI_some.1 hfit4_1
      refine gNf hm (fun i5_1 xs5_1 => [(1, (pV b0_1)), (3, (.slice p0_2 xs0_1.length c0_2)), (5, (pV b0_2)), (8, (nV i1_4)), (9, (nV xs3_1.2)), (10, (pV b4_7)), (11, (.slice p4_1 r4_2.length c4_7)), (12, (nV i5_1))]) (fun i5_1 xs5_1 => [blk b0_1 [(nV c_.params), (nV c_.regs), (sV b3_1 o3_1 c_.blocks.length c1_2)] 57, ow [(.slice p0_2 xs0_1.length c0_2)] xs5_1, blk b0_2 [(.slice p0_3 r0_2.ins.length c0_3), (.slice p0_4 r0_2.outs.length c0_4)] 99, ow [(.slice p0_3 r0_2.ins.length c0_3)] r0_2.ins, ow [(.slice p0_4 r0_2.outs.length c0_4)] r0_2.outs, blk b4_7 [(nV x4_8.op), (nV x4_8.to), v4_7, (nV x4_8.n_)] 106, ow [(.slice p4_1 r4_2.length c4_7)] r4_2]) [2, 3, 4, 5, 6, 1, 0] rfl ?_ ?_
      ·
       repeat clear hm
       intro _ _ i5_1 xs5_1 w hm hi4_1 hi4_2 q4_1 _
       refine gS (gS (gR (gM rfl (gF fo_57_1 rfl (gL hm 0 isAgg3 rfl (gB rfl (gE (go _ 112 rfl (decide_eq_true (by omega)) (gct rfl (gSk (gS (gJ hm (fun s5_1 => [(1, (pV b0_1)), (3, (.slice p0_2 xs0_1.length c0_2)), (5, (pV b0_2)), (8, (nV i1_4)), (9, (nV xs3_1.2)), (10, (pV b4_7)), (11, (.slice p4_1 r4_2.length c4_7)), (12, (nV i5_1))]) (fun s5_1 => [blk b0_1 [(nV c_.params), (nV c_.regs), (sV b3_1 o3_1 c_.blocks.length c1_2)] 57, ow [(.slice p0_2 xs0_1.length c0_2)] s5_1, blk b0_2 [(.slice p0_3 r0_2.ins.length c0_3), (.slice p0_4 r0_2.outs.length c0_4)] 99, ow [(.slice p0_3 r0_2.ins.length c0_3)] r0_2.ins, ow [(.slice p0_4 r0_2.outs.length c0_4)] r0_2.outs, blk b4_7 [(nV x4_8.op), (nV x4_8.to), v4_7, (nV x4_8.n_)] 106, ow [(.slice p4_1 r4_2.length c4_7)] r4_2]) (fun s5_1 => ?_) ?_))))))))))))
       ·
        refine gBk (gS (gJ hm (fun s6_1 => [(1, (pV b0_1)), (3, (.slice p0_2 xs0_1.length c0_2)), (5, (pV b0_2)), (8, (nV i1_4)), (9, (nV xs3_1.2)), (10, (pV b4_7)), (11, (.slice p4_1 r4_2.length c4_7)), (12, (nV i5_1)), (138, (.bool (s6_1)))]) (fun s6_1 => [blk b0_1 [(nV c_.params), (nV c_.regs), (sV b3_1 o3_1 c_.blocks.length c1_2)] 57, ow [(.slice p0_2 xs0_1.length c0_2)] xs5_1, blk b0_2 [(.slice p0_3 r0_2.ins.length c0_3), (.slice p0_4 r0_2.outs.length c0_4)] 99, ow [(.slice p0_3 r0_2.ins.length c0_3)] r0_2.ins, ow [(.slice p0_4 r0_2.outs.length c0_4)] r0_2.outs, blk b4_7 [(nV x4_8.op), (nV x4_8.to), v4_7, (nV x4_8.n_)] 106, ow [(.slice p4_1 r4_2.length c4_7)] r4_2]) (fun s6_1 => ?_) ?_))
        ·
         refine gR (gM rfl (gM rfl (gg fun x7_1 h7_1 hx7_2 => ?_)))
         obtain ⟨b7_1, o7_1, c7_1, he⟩ := idx_form (hm.ow_rep 6 rfl) hx7_2
         simp only [Value.slice.injEq, Option.some.injEq] at he; obtain ⟨rfl, _, rfl⟩ := he
         refine gI st_58 h7_1 (idx_lt hx7_2) rfl (gY (yl isAgg4 ((flat_cells (cs := [(.bool (x7_1))]) (hm.ow_rep 6 rfl) hx7_2 rfl).cell (j := 0) rfl) rfl) (gM rfl (gs 119 rfl (fun h7_2 => ?_) fun h7_2 => ?_)))
         ·
          refine gM rfl (gF fo_106_1 rfl (gL hm 5 isAgg3 rfl (gB rfl (gKt rfl (gM rfl (gsd 125 rfl (fun h7_3 => ?_) fun h7_3 => ?_))))))
          ·
           refine gF fo_106_0 rfl (gL hm 5 isAgg3 rfl (gB rfl (gM rfl (gsd 129 rfl (fun h7_4 => ?_) fun h7_4 => ?_))))
           ·
            refine gF fo_106_2 rfl (gL hm 5 isAgg37 rfl (gg fun x7_2 h7_5 hx7_4 => ?_))
            obtain ⟨b7_2, o7_2, c7_2, he⟩ := idx_form h4_18 hx7_4
            subst he
            exact gI st_37 h7_5 (idx_lt hx7_4) rfl (gY (yl isAgg3 ((flat_cells (cs := [(nV x7_2)]) (hm.now h4_18) hx7_4 rfl).cell (j := 0) rfl) rfl) (gM rfl (gB rfl (gKt rfl (gN rfl (gKt rfl (gE (gz hm [0, 1, 2, 3, 4, 5, 6] rfl))))))))
           exact gO rfl (gO rfl (gO rfl (gO rfl (gO rfl (gO rfl (gKf rfl (gN rfl (gKt rfl (gE (gz hm [0, 1, 2, 3, 4, 5, 6] rfl))))))))))
          exact gO rfl (gO rfl (gO rfl (gO rfl (gO rfl (gO rfl (gO rfl (gO rfl (gO rfl (gO rfl (gO rfl (gO rfl (gKf rfl (gE (gz hm [0, 1, 2, 3, 4, 5, 6] rfl))))))))))))))
         exact gO rfl (gO rfl (gO rfl (gO rfl (gKf rfl (gM rfl (gO rfl (gO rfl (gO rfl (gO rfl (gO rfl (gO rfl (gO rfl (gO rfl (gO rfl (gO rfl (gO rfl (gO rfl (gKf rfl (gE (gz hm [0, 1, 2, 3, 4, 5, 6] rfl))))))))))))))))))))
        repeat clear hm
        intro s6_1 w hm
        refine gJ hm (fun s6_2 => [(1, (pV b0_1)), (3, (.slice p0_2 xs0_1.length c0_2)), (5, (pV b0_2)), (8, (nV i1_4)), (9, (nV xs3_1.2)), (10, (pV b4_7)), (11, (.slice p4_1 r4_2.length c4_7)), (12, (nV i5_1))]) (fun s6_2 => [blk b0_1 [(nV c_.params), (nV c_.regs), (sV b3_1 o3_1 c_.blocks.length c1_2)] 57, ow [(.slice p0_2 xs0_1.length c0_2)] s6_2, blk b0_2 [(.slice p0_3 r0_2.ins.length c0_3), (.slice p0_4 r0_2.outs.length c0_4)] 99, ow [(.slice p0_3 r0_2.ins.length c0_3)] r0_2.ins, ow [(.slice p0_4 r0_2.outs.length c0_4)] r0_2.outs, blk b4_7 [(nV x4_8.op), (nV x4_8.to), v4_7, (nV x4_8.n_)] 106, ow [(.slice p4_1 r4_2.length c4_7)] r4_2]) (fun s6_2 => ?_) ?_
        ·
         refine gs 138 rfl (fun h7_6 => ?_) fun h7_6 => ?_
         ·
          refine gct rfl (gS (gW (.p 0 (.p 1 (.p 2 (.p 4 (.q 5 (.e 3 (.p 6 (.e 7 .fin .nil)) .nil)))))) [3] [0, 1, 2, 4, 6] hm [0, 2, 3, 4, 5, 6] [blk b0_1 [(nV c_.params), (nV c_.regs), (sV b3_1 o3_1 c_.blocks.length c1_2)] 57, blk b0_2 [(.slice p0_3 r0_2.ins.length c0_3), (.slice p0_4 r0_2.outs.length c0_4)] 99, ow [(.slice p0_3 r0_2.ins.length c0_3)] r0_2.ins, ow [(.slice p0_4 r0_2.outs.length c0_4)] r0_2.outs, blk b4_7 [(nV x4_8.op), (nV x4_8.to), v4_7, (nV x4_8.n_)] 106, ow [(.slice p4_1 r4_2.length c4_7)] r4_2] rfl mxo (by kernel_rfl) (fun _ _ _ h => h.2) fun w hm hS => tP rfl (fun w => yM rfl) (tP rfl (fun w => yM rfl) (gg fun x7_3 h7_7 hx7_6 => ?_))))
          obtain ⟨b7_3, o7_3, c7_3, he⟩ := idx_form' (hm.ow_rep 1 rfl) hx7_6
          simp only [Value.slice.injEq, Option.some.injEq] at he; obtain ⟨rfl, _, rfl⟩ := he
          obtain ⟨_, _, hc7_1, hr7_1⟩ := ro_get' (hm.ow_rep 1 rfl) hx7_6
          have h7_8 := hr7_1
          obtain ⟨v7_1, rfl, -⟩ := id h7_8
          replace h7_8 : GT.rep (hp _) [v7_1] x7_3 := h7_8
          replace hc7_1 : CellsAt (hp _) b7_3 (o7_3 + (i5_1).toNat * 1) [v7_1] := hc7_1
          have hL7_1 := rep_slice_len (hm.ow_rep 1 rfl)
          refine tP rfl (fun w => yI st_53 h7_7 (idx_lt2 hx7_6 hL7_1) rfl) (tP rfl (fun w => yF fo_106_1 rfl) (tQ rfl hS (fun w hm => yL hm 4 isAgg3 rfl) (tO ?_)))
          obtain ⟨_, hc7_2, hm⟩ := hm.openE 1 rfl hx7_6
          have hr7_2 := hm.ow_rep 0 rfl
          have h7_9 := hr7_2
          obtain ⟨v7_2, rfl, -⟩ := id h7_9
          replace h7_9 : GT.rep (hp _) [v7_2] x7_3 := h7_9
          clear hc7_2 h7_9
          replace hm : Mem w0 (hp w0) _ [ow [v7_2] (x7_3 : List Bool), blk b0_1 [(nV c_.params), (nV c_.regs), (sV b3_1 o3_1 c_.blocks.length c1_2)] 57, holeE b7_3 o7_3 xs0_1.length c0_2 (xs5_1 : List (List Bool)) (i5_1).toNat [v7_2], blk b0_2 [(.slice p0_3 r0_2.ins.length c0_3), (.slice p0_4 r0_2.outs.length c0_4)] 99, ow [(.slice p0_3 r0_2.ins.length c0_3)] r0_2.ins, ow [(.slice p0_4 r0_2.outs.length c0_4)] r0_2.outs, blk b4_7 [(nV x4_8.op), (nV x4_8.to), v4_7, (nV x4_8.n_)] 106, ow [(.slice p4_1 r4_2.length c4_7)] r4_2] := hm
          replace hm := hm.pk (L' := [ow [v7_2] x7_3, blk b0_1 [(nV c_.params), (nV c_.regs), (sV b3_1 o3_1 c_.blocks.length c1_2)] 57, holeE b7_3 o7_3 xs0_1.length c0_2 (xs5_1 : List (List Bool)) (i5_1).toNat [v7_2], blk b0_2 [(.slice p0_3 r0_2.ins.length c0_3), (.slice p0_4 r0_2.outs.length c0_4)] 99, ow [(.slice p0_3 r0_2.ins.length c0_3)] r0_2.ins, ow [(.slice p0_4 r0_2.outs.length c0_4)] r0_2.outs, blk b4_7 [(nV x4_8.op), (nV x4_8.to), v4_7, (nV x4_8.n_)] 106, ow [(.slice p4_1 r4_2.length c4_7)] r4_2]) [0, 1, 2, 3, 4, 5, 6, 7] rfl rfl
          refine tY rfl (yl isAgg58 ((hm.holeE_at 2 rfl).cell (j := 0) rfl) rfl) (tAk hm [1, 3, 4, 5, 6, 7] rfl fun hS => gg fun x7_4 h7_10 hx7_8 => ?_)
          obtain ⟨b7_4, o7_4, c7_4, he⟩ := idx_form (hm.ow_rep 0 rfl) hx7_8
          subst he
          refine tP rfl (fun w => yI st_58 h7_10 (idx_lt hx7_8) rfl) (tO (tf0 rfl rfl (fun a hf => e_setElem (x1 := true) (j := 0) (vs := [(.bool (true))]) 0 hf hm rfl hx7_8 rfl sizeOf4 rfl rfl rfl (one_cons rfl one_nil) rfl rfl) ?_))
          rintro _ w hm
          have hx7_9 := List.getElem?_set_self (a := true) (idx_lt hx7_8)
          refine tAn rfl (tE ?_)
          replace hm := hm.imp (c' := ow [(sV b7_4 o7_4 x7_3.length c7_4)] ((x7_3.set (x4_8.to).toNat true) : List Bool)) 0 rfl (fun F h0 => h0)
          replace hm := (hm.shutE (y := ((x7_3.set (x4_8.to).toNat true) : List Bool)) 2 0 (by decide) rfl rfl).pk (L' := [blk b0_1 [(nV c_.params), (nV c_.regs), (sV b3_1 o3_1 c_.blocks.length c1_2)] 57, ow [(sV b7_3 o7_3 xs0_1.length c0_2)] (xs5_1.set (i5_1).toNat (x7_3.set (x4_8.to).toNat true)), blk b0_2 [(.slice p0_3 r0_2.ins.length c0_3), (.slice p0_4 r0_2.outs.length c0_4)] 99, ow [(.slice p0_3 r0_2.ins.length c0_3)] r0_2.ins, ow [(.slice p0_4 r0_2.outs.length c0_4)] r0_2.outs, blk b4_7 [(nV x4_8.op), (nV x4_8.to), v4_7, (nV x4_8.n_)] 106, ow [(.slice p4_1 r4_2.length c4_7)] r4_2]) [1, 2, 3, 4, 5, 6, 7] rfl rfl
          have hx7_10 := List.getElem?_set_self (a := ((x7_3.set (x4_8.to).toNat true) : List Bool)) (idx_lt hx7_6)
          refine gR (gM rfl (gF fo_106_1 rfl (gL hm 5 isAgg3 rfl (gg fun x7_5 h7_11 hx7_12 => ?_))))
          obtain ⟨_, _, hc7_3, hr7_3⟩ := ro_get' (hm.ow_rep 1 rfl) hx7_12
          have h7_12 := hr7_3
          obtain ⟨v7_3, rfl, -⟩ := id h7_12
          replace h7_12 : GT.rep (hp _) [v7_3] x7_5 := h7_12
          replace hc7_3 : CellsAt (hp _) b7_3 (o7_3 + (x4_8.to).toNat * 1) [v7_3] := hc7_3
          have hL7_2 := rep_slice_len (hm.ow_rep 1 rfl)
          refine gI st_53 h7_11 (idx_lt2 hx7_12 hL7_2) rfl ?_
          obtain ⟨_, hc7_4, hm⟩ := hm.openE 1 rfl hx7_12
          have hr7_4 := hm.ow_rep 0 rfl
          have h7_13 := hr7_4
          obtain ⟨v7_4, rfl, -⟩ := id h7_13
          replace h7_13 : GT.rep (hp _) [v7_4] x7_5 := h7_13
          clear hc7_4 h7_13
          replace hm : Mem w0 (hp w0) _ [ow [v7_4] (x7_5 : List Bool), blk b0_1 [(nV c_.params), (nV c_.regs), (sV b3_1 o3_1 c_.blocks.length c1_2)] 57, holeE b7_3 o7_3 xs0_1.length c0_2 ((xs5_1.set (i5_1).toNat (x7_3.set (x4_8.to).toNat true)) : List (List Bool)) (x4_8.to).toNat [v7_4], blk b0_2 [(.slice p0_3 r0_2.ins.length c0_3), (.slice p0_4 r0_2.outs.length c0_4)] 99, ow [(.slice p0_3 r0_2.ins.length c0_3)] r0_2.ins, ow [(.slice p0_4 r0_2.outs.length c0_4)] r0_2.outs, blk b4_7 [(nV x4_8.op), (nV x4_8.to), v4_7, (nV x4_8.n_)] 106, ow [(.slice p4_1 r4_2.length c4_7)] r4_2] := hm
          replace hm := hm.pk (L' := [ow [v7_4] x7_5, blk b0_1 [(nV c_.params), (nV c_.regs), (sV b3_1 o3_1 c_.blocks.length c1_2)] 57, holeE b7_3 o7_3 xs0_1.length c0_2 ((xs5_1.set (i5_1).toNat (x7_3.set (x4_8.to).toNat true)) : List (List Bool)) (x4_8.to).toNat [v7_4], blk b0_2 [(.slice p0_3 r0_2.ins.length c0_3), (.slice p0_4 r0_2.outs.length c0_4)] 99, ow [(.slice p0_3 r0_2.ins.length c0_3)] r0_2.ins, ow [(.slice p0_4 r0_2.outs.length c0_4)] r0_2.outs, blk b4_7 [(nV x4_8.op), (nV x4_8.to), v4_7, (nV x4_8.n_)] 106, ow [(.slice p4_1 r4_2.length c4_7)] r4_2]) [0, 1, 2, 3, 4, 5, 6, 7] rfl rfl
          refine gY (yl isAgg58 ((hm.holeE_at 2 rfl).cell (j := 0) rfl) rfl) (gM rfl (gg fun x7_6 h7_14 hx7_14 => ?_))
          obtain ⟨b7_5, o7_5, c7_5, he⟩ := idx_form (hm.ow_rep 0 rfl) hx7_14
          subst he
          refine gI st_58 h7_14 (idx_lt hx7_14) rfl (gf0 rfl (fun a hf => e_setElem (x1 := true) (j := 0) (vs := [(.bool (true))]) 0 hf hm rfl hx7_14 rfl sizeOf4 rfl rfl rfl (one_cons rfl one_nil) rfl rfl) ?_)
          rintro _ w hm
          have hx7_15 := List.getElem?_set_self (a := true) (idx_lt hx7_14)
          refine gE ?_
          replace hm := hm.imp (c' := ow [(sV b7_5 o7_5 x7_5.length c7_5)] ((x7_5.set (i5_1).toNat true) : List Bool)) 0 rfl (fun F h0 => h0)
          replace hm := (hm.shutE (y := ((x7_5.set (i5_1).toNat true) : List Bool)) 2 0 (by decide) rfl rfl).pk (L' := [blk b0_1 [(nV c_.params), (nV c_.regs), (sV b3_1 o3_1 c_.blocks.length c1_2)] 57, ow [(sV b7_3 o7_3 xs0_1.length c0_2)] ((xs5_1.set (i5_1).toNat (x7_3.set (x4_8.to).toNat true)).set (x4_8.to).toNat (x7_5.set (i5_1).toNat true)), blk b0_2 [(.slice p0_3 r0_2.ins.length c0_3), (.slice p0_4 r0_2.outs.length c0_4)] 99, ow [(.slice p0_3 r0_2.ins.length c0_3)] r0_2.ins, ow [(.slice p0_4 r0_2.outs.length c0_4)] r0_2.outs, blk b4_7 [(nV x4_8.op), (nV x4_8.to), v4_7, (nV x4_8.n_)] 106, ow [(.slice p4_1 r4_2.length c4_7)] r4_2]) [1, 2, 3, 4, 5, 6, 7] rfl rfl
          have hx7_16 := List.getElem?_set_self (a := ((x7_5.set (i5_1).toNat true) : List Bool)) (idx_lt hx7_12)
          exact gz hm [0, 1, 2, 3, 4, 5, 6] rfl
         exact gcf rfl (gSk (gz hm [0, 1, 2, 3, 4, 5, 6] rfl))
        repeat clear hm
        intro s6_2 w hm
        exact gz hm [0, 1, 2, 3, 4, 5, 6] rfl
       repeat clear hm
       intro s5_1 w hm
       exact gR (gM rfl (gP (by omega) (by omega) rfl (gA rfl (gE (gze hm [0, 1, 2, 3, 4, 5, 6] rfl)))))
      repeat clear hm
      intro i4_1 xs4_1 w hm hi4_3 hi4_4
      exact gS (gS (gR (gM rfl (gF fo_57_1 rfl (gL hm 0 isAgg3 rfl (gB rfl (gE (go _ 112 rfl (decide_eq_false (by omega)) (gcf rfl (gXt (gHh (gz hm [0, 1, 2, 3, 4] rfl))))))))))))
     repeat clear hm
     intro s3_3 w hm
     exact gR (gM rfl (gB rfl (gA rfl (gE (gze hm [0, 1, 2, 3, 4] rfl)))))
    exact gcf rfl (gXt (gHh (gLp ho2_1 hq2_2 (gz hm [0, 1, 2, 3, 4] rfl))))
   repeat clear hm
   intro s1_1 w hm
   exact gR (gM rfl (gP (by omega) (by omega) rfl (gA rfl (gE (gze hm [0, 1, 2, 3, 4] rfl)))))
  repeat clear hm
  intro i0_3 xs0_3 w hm hi0_11 hi0_12
  refine gS (gS (gR (gM rfl (gF fo_57_2 rfl (gL hm 0 isAgg55 rfl ?_)))))
  obtain ⟨p0_5, c0_5, rfl, hl0_5⟩ := ro_slice h1
  exact gY (yV st_55 rfl) (gB rfl (gE (go _ 77 rfl (decide_eq_false (by omega)) (gcf rfl (gXt (gHh (gS (gR (gM rfl (gA rfl (gE (gRt (gr1 results50 rfl ⟨(.slice p0_2 xs0_1.length c0_2), rfl, hm.pk [1] rfl rfl⟩)))))))))))))

theorem spec_l5Truth_ok (w0 : World) (is : Bool) :
    ConM Tryz.prog 82 [(.bool (is))] w0 (spec_l5Truth is) fun r v w' => v = (nV r) ∧ Below w0.heap.size w0 w' := by
  unfold spec_l5Truth
  refine gcon func82 rfl fun r => ?_
  have hm := Mem.start w0
  refine gS (gR (gA rfl (gE (gS (gS (gR (gM rfl (gE (gs 3 rfl (fun h0_1 => ?_) fun h0_1 => ?_)))))))))
  ·
   exact gct rfl (gS (gR (gA rfl (gE (gRt (gr1 results82 rfl ⟨rfl, hm.below⟩))))))
  exact gcf rfl (gSk (gS (gR (gA rfl (gE (gRt (gr1 results82 rfl ⟨rfl, hm.below⟩)))))))

theorem spec_l21Next_ok (w0 : World) (t : List (List Bool)) (v1 : Value) (h1 : GT.rep (hp w0) [v1] t) (left : List Bool) (v2 : Value) (h2 : GT.rep (hp w0) [v2] left) :
    ConM Tryz.prog 105 [v1, v2] w0 (spec_l21Next t left) fun r v w' => v = (nV r) ∧ Below w0.heap.size w0 w' := by
  unfold spec_l21Next
  refine gcon func105 rfl fun r => ?_
  have hm := Mem.start w0
  refine gS (gR (gA rfl (gE (gS (gR (gA rfl (gE (gS (gR (gA rfl (gE (gS (gS (gR (gA rfl (gE (gBk (gNf hm (fun i1_1 xs1_1 => [(0, v1), (1, v2), (5, (nV xs1_1.1)), (6, (nV xs1_1.2)), (7, (nV i1_1))]) (fun i1_1 xs1_1 => []) [] rfl ?_ ?_))))))))))))))))))
  ·
   repeat clear hm
   intro _ _ i1_1 xs1_1 w hm hi0_1 hi0_2 q0_1 _
   refine gS (gS (gR (gM rfl (gM rfl ?_))))
   obtain ⟨p1_1, c1_1, rfl, hl1_1⟩ := ro_slice h1
   refine gY (yV st_53 rfl) (gB rfl (gE (go _ 13 rfl (decide_eq_true (by omega)) (gct rfl (gSk (gS (gJ hm (fun s1_1 => [(0, (.slice p1_1 t.length c1_1)), (1, v2), (5, (nV s1_1.1)), (6, (nV s1_1.2)), (7, (nV i1_1))]) (fun s1_1 => []) (fun s1_1 => ?_) ?_)))))))
   ·
    refine gBk (gS (gS (gR (gM rfl (gM rfl (gg fun x2_1 h2_1 hx2_2 => ?_))))))
    obtain ⟨b2_1, o2_1, c2_1, he⟩ := idx_form h2 hx2_2
    subst he
    refine gI st_58 h2_1 (idx_lt hx2_2) rfl (gY (yl isAgg4 ((flat_cells (cs := [(.bool (x2_1))]) (hm.now h2) hx2_2 rfl).cell (j := 0) rfl) rfl) (gN rfl (gE (gsn 20 rfl (fun h2_2 => ?_) fun h2_2 => ?_))))
    ·
     exact gct rfl (gXt (gHh (gz hm [] rfl)))
    refine gcf rfl (gSk (gS (gR (gA rfl (gE (gS (gS (gR (gA rfl (gE (gBk (gNf hm (fun i3_1 xs3_1 => [(0, (.slice p1_1 t.length c1_1)), (1, (sV b2_1 o2_1 left.length c2_1)), (5, (nV xs1_1.1)), (6, (nV xs1_1.2)), (7, (nV i1_1)), (8, (nV xs3_1)), (9, (nV i3_1))]) (fun i3_1 xs3_1 => []) [] rfl ?_ ?_))))))))))))
    ·
     repeat clear hm
     intro _ _ i3_1 xs3_1 w hm hi2_1 hi2_2 q2_1 _
     refine gS (gS (gR (gM rfl (gM rfl (gY (yV st_53 rfl) (gB rfl (gE (go _ 24 rfl (decide_eq_true (by omega)) (gct rfl (gSk (gS (gBk (gJ hm (fun s3_1 => [(0, (.slice p1_1 t.length c1_1)), (1, (sV b2_1 o2_1 left.length c2_1)), (5, (nV xs1_1.1)), (6, (nV xs1_1.2)), (7, (nV i1_1)), (8, (nV s3_1)), (9, (nV i3_1))]) (fun s3_1 => []) (fun s3_1 => ?_) ?_)))))))))))))
     ·
      refine gR (gM rfl (gM rfl (gM rfl (gg fun x4_1 h4_1 hx4_2 => gI st_58 h4_1 (idx_lt hx4_2) rfl (gY (yl isAgg4 ((flat_cells (cs := [(.bool (x4_1))]) (hm.now h2) hx4_2 rfl).cell (j := 0) rfl) rfl) (gM rfl (gs 32 rfl (fun h4_2 => ?_) fun h4_2 => ?_)))))))
      ·
       refine gM rfl (gM rfl (gg fun x4_2 h4_3 hx4_4 => ?_))
       obtain ⟨b4_1, o4_1, c4_1, he⟩ := idx_form' h1 hx4_4
       simp only [Value.slice.injEq, Option.some.injEq] at he; obtain ⟨rfl, _, rfl⟩ := he
       obtain ⟨_, _, hc4_1, hr4_1⟩ := ro_get' h1 hx4_4
       have h4_4 := hr4_1
       obtain ⟨v4_1, rfl, -⟩ := id h4_4
       replace h4_4 : GT.rep (hp w0) [v4_1] x4_2 := h4_4
       replace hc4_1 : CellsAt (hp w0) b4_1 (o4_1 + (i1_1).toNat * 1) [v4_1] := hc4_1
       refine gI st_53 h4_3 (idx_lt hx4_4) rfl (gY (yl isAgg58 ((hc4_1.mono hm.lez).cell (j := 0) rfl) rfl) (gM rfl (gg fun x4_3 h4_5 hx4_6 => ?_)))
       obtain ⟨b4_2, o4_2, c4_2, he⟩ := idx_form h4_4 hx4_6
       subst he
       exact gI st_58 h4_5 (idx_lt hx4_6) rfl (gY (yl isAgg4 ((flat_cells (cs := [(.bool (x4_3))]) (hm.now h4_4) hx4_6 rfl).cell (j := 0) rfl) rfl) (gKt rfl (gC hm rfl call82 (spec_l5Truth_ok _ x4_3) fun r4_1 hx4_7 w hm => gB rfl (gA rfl (gE (gz hm [] rfl))))))
      exact gO rfl (gO rfl (gO rfl (gO rfl (gO rfl (gO rfl (gO rfl (gKf rfl (gC hm rfl call82 (spec_l5Truth_ok _ false) fun r4_2 hx4_8 w hm => gB rfl (gA rfl (gE (gz hm [] rfl)))))))))))
     repeat clear hm
     intro s3_1 w hm
     exact gR (gM rfl (gP (by omega) (by omega) rfl (gA rfl (gE (gze hm [] rfl)))))
    repeat clear hm
    intro i2_1 xs2_1 w hm hi2_3 hi2_4
    refine gS (gS (gR (gM rfl (gM rfl (gY (yV st_53 rfl) (gB rfl (gE (go _ 24 rfl (decide_eq_false (by omega)) (gcf rfl (gXt (gHh (gS (gJ hm (fun s2_1 => [(0, (.slice p1_1 t.length c1_1)), (1, (sV b2_1 o2_1 left.length c2_1)), (5, (nV xs1_1.1)), (6, (nV xs1_1.2)), (7, (nV i1_1)), (8, (nV xs2_1)), (49, (.bool (s2_1)))]) (fun s2_1 => []) (fun s2_1 => ?_) ?_)))))))))))))
    ·
     refine gR (gM rfl (gB rfl (gM rfl (gsd 45 rfl (fun h3_1 => ?_) fun h3_1 => ?_))))
     ·
      exact gO rfl (gO rfl (gO rfl (gKt rfl (gE (gz hm [] rfl)))))
     exact gM rfl (gM rfl (gB rfl (gKf rfl (gE (gz hm [] rfl)))))
    repeat clear hm
    intro s2_1 w hm
    refine gJ hm (fun s2_2 => [(0, (.slice p1_1 t.length c1_1)), (1, (sV b2_1 o2_1 left.length c2_1)), (5, (nV s2_2.1)), (6, (nV s2_2.2)), (7, (nV i1_1))]) (fun s2_2 => []) (fun s2_2 => ?_) ?_
    ·
     refine gs 49 rfl (fun h3_2 => ?_) fun h3_2 => ?_
     ·
      exact gct rfl (gS (gR (gM rfl (gA rfl (gE (gR (gM rfl (gA rfl (gE (gz hm [] rfl))))))))))
     exact gcf rfl (gSk (gz hm [] rfl))
    repeat clear hm
    intro s2_2 w hm
    exact gz hm [] rfl
   repeat clear hm
   intro s1_1 w hm
   exact gR (gM rfl (gP (by omega) (by omega) rfl (gA rfl (gE (gze hm [] rfl)))))
  repeat clear hm
  intro i0_1 xs0_1 w hm hi0_3 hi0_4
  refine gS (gS (gR (gM rfl (gM rfl ?_))))
  obtain ⟨p0_1, c0_1, rfl, hl0_1⟩ := ro_slice h1
  exact gY (yV st_53 rfl) (gB rfl (gE (go _ 13 rfl (decide_eq_false (by omega)) (gcf rfl (gXt (gHh (gS (gR (gM rfl (gA rfl (gE (gRt (gr1 results105 rfl ⟨rfl, hm.below⟩)))))))))))))

theorem spec_l21Colours_ok (w0 : World) (t : List (List Bool)) (v1 : Value) (h1 : GT.rep (hp w0) [v1] t) (most : Int) :
    ConM Tryz.prog 62 [v1, (nV most)] w0 (spec_l21Colours t most) fun r v w' => ∃ (x1 : Value), v = x1 ∧ Mem w0 (hp w0) w' [ow [x1] r] := by
  unfold spec_l21Colours
  refine gcon func62 rfl fun r => ?_
  have hm := Mem.start w0
  refine gS (gR (gA rfl (gE (gS (gR (gM rfl ?_))))))
  obtain ⟨p0_1, c0_1, rfl, hl0_1⟩ := ro_slice h1
  refine gY (yV st_53 rfl) (gb fun ys0_1 hx0_1 => ?_)
  obtain ⟨⟨h0_11, h0_12⟩, h0_1e⟩ := makeM_some.1 hx0_1
  refine gf rfl (fun a hf => e_make (x0 := (false : Bool)) et_58 (fun _ => (Flat.own_iff.2 rfl)) hf hm rfl rfl rfl h0_11 (Int.le_refl _) h0_12) ?_
  rintro v0_1 w hm
  rw [h0_1e] at hm
  have h0_1l : (ys0_1.length : Int) = (t.length : Int) := by rw [← h0_1e]; simp only [List.length_replicate]; omega
  refine gA rfl (gE (gS (gR (gM rfl (gY (yV st_53 rfl) (gb fun ys0_2 hx0_2 => ?_))))))
  obtain ⟨⟨h0_21, h0_22⟩, h0_2e⟩ := makeM_some.1 hx0_2
  refine gf rfl (fun a hf => e_make (x0 := (0 : Int)) et_37 (fun _ => (Flat.own_iff.2 rfl)) hf hm rfl rfl rfl h0_21 (Int.le_refl _) h0_22) ?_
  rintro v0_2 w hm
  rw [h0_2e] at hm
  have h0_2l : (ys0_2.length : Int) = (t.length : Int) := by rw [← h0_2e]; simp only [List.length_replicate]; omega
  refine gA rfl (gE (gS (gS (gR (gA rfl (gE ?_))))))
  obtain ⟨p0_2, c0_2, rfl, hl0_2⟩ := ro_slice (hm.ow_rep 1 rfl)
  obtain ⟨p0_3, c0_3, rfl, hl0_3⟩ := ro_slice (hm.ow_rep 0 rfl)
  refine gBk (gNf hm (fun i1_1 xs1_1 => [(0, (.slice p0_1 t.length c0_1)), (1, (nV most)), (5, (.slice p0_2 ys0_1.length c0_2)), (6, (.slice p0_3 ys0_2.length c0_3)), (7, (nV i1_1))]) (fun i1_1 xs1_1 => [ow [(.slice p0_2 ys0_1.length c0_2)] xs1_1.1, ow [(.slice p0_3 ys0_2.length c0_3)] xs1_1.2]) [1, 0] rfl ?_ ?_)
  ·
   repeat clear hm
   intro _ _ i1_1 xs1_1 w hm hi0_1 hi0_2 q0_1 _
   refine gS (gS (gR (gM rfl (gM rfl (gY (yV st_53 rfl) (gB rfl (gE (go _ 24 rfl (decide_eq_true (by omega)) (gct rfl (gSk (gS (gBk (gS (gR (gM rfl (gM rfl (gg fun x1_1 h1_1 hx1_2 => ?_)))))))))))))))))
   obtain ⟨b1_1, o1_1, c1_1, he⟩ := idx_form (hm.ow_rep 0 rfl) hx1_2
   simp only [Value.slice.injEq, Option.some.injEq] at he; obtain ⟨rfl, _, rfl⟩ := he
   have hL1_1 := rep_slice_len (hm.ow_rep 0 rfl)
   refine gI st_58 h1_1 (idx_lt2 hx1_2 hL1_1) rfl (gf0 rfl (fun a hf => e_setElem (x1 := true) (j := 0) (vs := [(.bool (true))]) 0 hf hm rfl hx1_2 rfl sizeOf4 rfl rfl rfl (one_cons rfl one_nil) rfl rfl) ?_)
   rintro _ w hm
   have hx1_3 := List.getElem?_set_self (a := true) (idx_lt hx1_2)
   refine gE (gR (gM rfl (gM rfl (gg fun x1_2 h1_2 hx1_5 => ?_))))
   obtain ⟨b1_2, o1_2, c1_2, he⟩ := idx_form (hm.ow_rep 1 rfl) hx1_5
   simp only [Value.slice.injEq, Option.some.injEq] at he; obtain ⟨rfl, _, rfl⟩ := he
   have hL1_2 := rep_slice_len (hm.ow_rep 1 rfl)
   refine gI st_37 h1_2 (idx_lt2 hx1_5 hL1_2) rfl (gf0 rfl (fun a hf => e_setElem (x1 := -1) (j := 0) (vs := [(nV (-1))]) 1 hf hm rfl hx1_5 rfl sizeOf3 rfl rfl rfl (one_cons rfl one_nil) rfl rfl) ?_)
   rintro _ w hm
   have hx1_6 := List.getElem?_set_self (a := -1) (idx_lt hx1_5)
   exact gE (gR (gM rfl (gP (by omega) (by omega) rfl (gA rfl (gE (gze hm [0, 1] rfl))))))
  repeat clear hm
  intro i0_1 xs0_1 w hm hi0_3 hi0_4
  refine gS (gS (gR (gM rfl (gM rfl (gY (yV st_53 rfl) (gB rfl (gE (go _ 24 rfl (decide_eq_false (by omega)) (gcf rfl (gXt (gHh (gS (gR (gf rfl (fun a hf => e_build0 (α := Int) et_37 hm rfl) ?_))))))))))))))
  rintro v0_3 w hm
  refine gA rfl (gE (gS (gS (gR (gM rfl (gM rfl (gC hm rfl call105 (spec_l21Next_ok _ t (.slice p0_1 t.length c0_1) (hm.now h1) xs0_1.1 (.slice p0_2 ys0_1.length c0_2) (hm.ow_rep 1 rfl)) fun r0_2 hx0_3 w hm => gA rfl (gE ?_))))))))
  obtain ⟨p0_4, c0_4, rfl, hl0_4⟩ := ro_slice (hm.ow_rep 0 rfl)
  refine gJg (fun s0_1 a w => ∃ (v0_5 : Value), St 108 [(0, (.slice p0_1 t.length c0_1)), (1, (nV most)), (6, (.slice p0_3 ys0_2.length c0_3)), (8, v0_5)] w0 (hp w0) [ow [(.slice p0_3 ys0_2.length c0_3)] xs0_1.2, ow [v0_5] s0_1] a w) (fun s0_1 => ?_) ?_
  ·
   refine gBk (gMg (fun xs2_1 a w => ∃ (v2_1 : Value), St 108 [(0, (.slice p0_1 t.length c0_1)), (1, (nV most)), (5, (.slice p0_2 ys0_1.length c0_2)), (6, (.slice p0_3 ys0_2.length c0_3)), (8, v2_1), (9, (nV xs2_1.2.2))] w0 (hp w0) [ow [(.slice p0_2 ys0_1.length c0_2)] xs2_1.1, ow [(.slice p0_3 ys0_2.length c0_3)] xs0_1.2, ow [v2_1] xs2_1.2.1] a w) (fun a hf => ⟨(.slice p0_4 ([] : List Int).length c0_4), hf.sb rfl, hm.pk [1, 2, 0] rfl rfl⟩) ?_)
   repeat clear hm
   rintro r1_1 hq1_1 xs2_1 a w ⟨v2_1, hf, hm⟩ q1_1 ho1_1
   refine gv hf (gS (gS (gR (gM rfl (gB rfl (gE (gsd 38 rfl (fun h2_1 => ?_) fun h2_1 => ?_)))))))
   ·
    refine gct rfl (gSk (gS (gBk (gS (gR (gM rfl (gM rfl (gf rfl (fun a hf => e_build (vs := #[(0, (nV xs2_1.2.2))]) (cs := [(nV xs2_1.2.2)]) et_37 hf hm rfl rfl (by kernel_rfl) rfl rfl) ?_))))))))
    rintro _ w ⟨b2_1, rfl, hm⟩
    replace hm := hm.lit (xs := ([xs2_1.2.2] : List Int)) 0 rfl rfl rfl rfl
    refine gb fun ys2_1 hx2_1 => ?_
    obtain ⟨h2_2, h2_2e⟩ := appM_some.1 hx2_1
    refine gf rfl (fun a hf => e_append 3 et_37 hf hm rfl (hm.ow_rep 0 rfl) rfl rfl rfl h2_2) ?_
    rintro v2_2 w hm
    rw [h2_2e] at hm
    refine gA rfl (gE (gR (gM rfl (gM rfl (gg fun x2_1 h2_3 hx2_3 => ?_)))))
    obtain ⟨b2_2, o2_1, c2_1, he⟩ := idx_form (hm.ow_rep 1 rfl) hx2_3
    simp only [Value.slice.injEq, Option.some.injEq] at he; obtain ⟨rfl, _, rfl⟩ := he
    have hL2_1 := rep_slice_len (hm.ow_rep 1 rfl)
    refine gI st_58 h2_3 (idx_lt2 hx2_3 hL2_1) rfl (gf0 rfl (fun a hf => e_setElem (x1 := false) (j := 0) (vs := [(.bool (false))]) 1 hf hm rfl hx2_3 rfl sizeOf4 rfl rfl rfl (one_cons rfl one_nil) rfl rfl) ?_)
    rintro _ w hm
    have hx2_4 := List.getElem?_set_self (a := false) (idx_lt hx2_3)
    exact gE (gR (gM rfl (gM rfl (gC hm rfl call105 (spec_l21Next_ok _ t (.slice p0_1 t.length c0_1) (hm.now h1) (xs2_1.1.set (xs2_1.2.2).toNat false) (sV b2_2 o2_1 ys0_1.length c0_2) (hm.ow_rep 1 rfl)) fun r2_1 hx2_5 w hm => gA rfl (gE (gZe fun a hf => ⟨v2_2, hf.sb rfl, hm.pk [1, 2, 3] rfl rfl⟩))))))
   exact gcf rfl (gXt (gHh (gLp ho1_1 hq1_1 (gZ fun a hf => ⟨v2_1, hf.sb rfl, hm.pk [1, 2] rfl rfl⟩))))
  repeat clear hm
  rintro s0_1 a w ⟨v0_5, hf, hm⟩
  refine gv hf (gS (gS (gR (gM rfl ?_))))
  obtain ⟨p0_5, c0_5, rfl, hl0_5⟩ := ro_slice (hm.ow_rep 1 rfl)
  refine gY (yV st_37 rfl) (gY (yS (by omega) (by omega) rfl) (gA rfl (gE (gJ hm (fun s0_2 => [(6, (.slice p0_3 ys0_2.length c0_3))]) (fun s0_2 => [ow [(.slice p0_3 ys0_2.length c0_3)] s0_2]) (fun s0_2 => ?_) ?_))))
  ·
   refine gBk (gMf hm (fun xs2_2 => [(0, (.slice p0_1 t.length c0_1)), (1, (nV most)), (6, (.slice p0_3 ys0_2.length c0_3)), (8, (.slice p0_5 s0_1.length c0_5)), (10, (nV xs2_2.2))]) (fun xs2_2 => [ow [(.slice p0_3 ys0_2.length c0_3)] xs2_2.1, ow [(.slice p0_5 s0_1.length c0_5)] s0_1]) [0, 1] rfl ?_)
   repeat clear hm
   intro r1_2 hq1_2 xs2_2 w hm q1_2 ho1_2
   refine gS (gS (gR (gM rfl (gB rfl (gE (gsd 53 rfl (fun h2_4 => ?_) fun h2_4 => ?_))))))
   ·
    refine gct rfl (gSk (gS (gJ hm (fun s2_1 => [(0, (.slice p0_1 t.length c0_1)), (1, (nV most)), (6, (.slice p0_3 ys0_2.length c0_3)), (8, (.slice p0_5 s0_1.length c0_5)), (10, (nV xs2_2.2))]) (fun s2_1 => [ow [(.slice p0_3 ys0_2.length c0_3)] s2_1, ow [(.slice p0_5 s0_1.length c0_5)] s0_1]) (fun s2_1 => ?_) ?_)))
    ·
     refine gBk (gS (gR (gM rfl (gM rfl (gg fun x3_1 h3_1 hx3_2 => ?_)))))
     obtain ⟨b3_1, o3_1, c3_1, he⟩ := idx_form (hm.ow_rep 1 rfl) hx3_2
     simp only [Value.slice.injEq, Option.some.injEq] at he; obtain ⟨rfl, _, rfl⟩ := he
     refine gI st_37 h3_1 (idx_lt hx3_2) rfl (gY (yl isAgg3 ((flat_cells (cs := [(nV x3_1)]) (hm.ow_rep 1 rfl) hx3_2 rfl).cell (j := 0) rfl) rfl) (gA rfl (gE (gS (gR (gM rfl (gB rfl (gb fun ys3_1 hx3_3 => ?_))))))))
     obtain ⟨⟨h3_21, h3_22⟩, h3_2e⟩ := makeM_some.1 hx3_3
     refine gf rfl (fun a hf => e_make (x0 := (false : Bool)) et_58 (fun _ => (Flat.own_iff.2 rfl)) hf hm rfl rfl rfl h3_21 (Int.le_refl _) h3_22) ?_
     rintro v3_1 w hm
     rw [h3_2e] at hm
     have h3_2l : (ys3_1.length : Int) = w64 (most + 1) := by rw [← h3_2e]; simp only [List.length_replicate]; omega
     refine gA rfl (gE (gS (gS (gR (gA rfl (gE ?_))))))
     obtain ⟨p3_1, c3_2, rfl, hl3_1⟩ := ro_slice (hm.ow_rep 0 rfl)
     refine gBk (gNf hm (fun i4_1 xs4_1 => [(0, (.slice p0_1 t.length c0_1)), (1, (nV most)), (6, (.slice p0_3 ys0_2.length c0_3)), (8, (sV b3_1 o3_1 s0_1.length c0_5)), (10, (nV xs2_2.2)), (11, (nV x3_1)), (12, (.slice p3_1 ys3_1.length c3_2)), (13, (nV i4_1))]) (fun i4_1 xs4_1 => [ow [(.slice p0_3 ys0_2.length c0_3)] xs2_2.1, ow [(sV b3_1 o3_1 s0_1.length c0_5)] s0_1, ow [(.slice p3_1 ys3_1.length c3_2)] xs4_1]) [1, 2, 0] rfl ?_ ?_)
     ·
      repeat clear hm
      intro _ _ i4_1 xs4_1 w hm hi3_1 hi3_2 q3_1 _
      refine gS (gS (gR (gM rfl (gM rfl (gY (yV st_53 rfl) (gB rfl (gE (go _ 66 rfl (decide_eq_true (by omega)) (gct rfl (gSk (gS (gJ hm (fun s4_1 => [(0, (.slice p0_1 t.length c0_1)), (1, (nV most)), (6, (.slice p0_3 ys0_2.length c0_3)), (8, (sV b3_1 o3_1 s0_1.length c0_5)), (10, (nV xs2_2.2)), (11, (nV x3_1)), (12, (.slice p3_1 ys3_1.length c3_2)), (13, (nV i4_1))]) (fun s4_1 => [ow [(.slice p0_3 ys0_2.length c0_3)] xs2_2.1, ow [(sV b3_1 o3_1 s0_1.length c0_5)] s0_1, ow [(.slice p3_1 ys3_1.length c3_2)] s4_1]) (fun s4_1 => ?_) ?_))))))))))))
      ·
       refine gBk (gS (gJ hm (fun s5_1 => [(0, (.slice p0_1 t.length c0_1)), (1, (nV most)), (6, (.slice p0_3 ys0_2.length c0_3)), (8, (sV b3_1 o3_1 s0_1.length c0_5)), (10, (nV xs2_2.2)), (11, (nV x3_1)), (12, (.slice p3_1 ys3_1.length c3_2)), (13, (nV i4_1)), (82, (.bool (s5_1)))]) (fun s5_1 => [ow [(.slice p0_3 ys0_2.length c0_3)] xs2_2.1, ow [(sV b3_1 o3_1 s0_1.length c0_5)] s0_1, ow [(.slice p3_1 ys3_1.length c3_2)] xs4_1]) (fun s5_1 => ?_) ?_))
       ·
        refine gR (gM rfl (gM rfl (gg fun x6_1 h6_1 hx6_2 => ?_)))
        obtain ⟨b6_1, o6_1, c6_1, he⟩ := idx_form' h1 hx6_2
        simp only [Value.slice.injEq, Option.some.injEq] at he; obtain ⟨rfl, _, rfl⟩ := he
        obtain ⟨_, _, hc6_1, hr6_1⟩ := ro_get' h1 hx6_2
        have h6_2 := hr6_1
        obtain ⟨v6_1, rfl, -⟩ := id h6_2
        replace h6_2 : GT.rep (hp w0) [v6_1] x6_1 := h6_2
        replace hc6_1 : CellsAt (hp w0) b6_1 (o6_1 + (x3_1).toNat * 1) [v6_1] := hc6_1
        refine gI st_53 h6_1 (idx_lt hx6_2) rfl (gY (yl isAgg58 ((hc6_1.mono hm.lez).cell (j := 0) rfl) rfl) (gM rfl (gg fun x6_2 h6_3 hx6_4 => ?_)))
        obtain ⟨b6_2, o6_2, c6_2, he⟩ := idx_form h6_2 hx6_4
        subst he
        refine gI st_58 h6_3 (idx_lt hx6_4) rfl (gY (yl isAgg4 ((flat_cells (cs := [(.bool (x6_2))]) (hm.now h6_2) hx6_4 rfl).cell (j := 0) rfl) rfl) (gM rfl (gs 76 rfl (fun h6_4 => ?_) fun h6_4 => ?_)))
        ·
         refine gM rfl (gM rfl (gg fun x6_3 h6_5 hx6_6 => ?_))
         obtain ⟨b6_3, o6_3, c6_3, he⟩ := idx_form (hm.ow_rep 0 rfl) hx6_6
         simp only [Value.slice.injEq, Option.some.injEq] at he; obtain ⟨rfl, _, rfl⟩ := he
         have hL6_1 := rep_slice_len (hm.ow_rep 0 rfl)
         exact gI st_37 h6_5 (idx_lt2 hx6_6 hL6_1) rfl (gY (yl isAgg3 ((flat_cells (cs := [(nV x6_3)]) (hm.ow_rep 0 rfl) hx6_6 rfl).cell (j := 0) rfl) rfl) (gB rfl (gKt rfl (gE (gz hm [0, 1, 2] rfl)))))
        exact gO rfl (gO rfl (gO rfl (gO rfl (gO rfl (gKf rfl (gE (gz hm [0, 1, 2] rfl)))))))
       repeat clear hm
       intro s5_1 w hm
       refine gJ hm (fun s5_2 => [(0, (.slice p0_1 t.length c0_1)), (1, (nV most)), (6, (.slice p0_3 ys0_2.length c0_3)), (8, (sV b3_1 o3_1 s0_1.length c0_5)), (10, (nV xs2_2.2)), (11, (nV x3_1)), (12, (.slice p3_1 ys3_1.length c3_2)), (13, (nV i4_1))]) (fun s5_2 => [ow [(.slice p0_3 ys0_2.length c0_3)] xs2_2.1, ow [(sV b3_1 o3_1 s0_1.length c0_5)] s0_1, ow [(.slice p3_1 ys3_1.length c3_2)] s5_2]) (fun s5_2 => ?_) ?_
       ·
        refine gs 82 rfl (fun h6_6 => ?_) fun h6_6 => ?_
        ·
         refine gct rfl (gR (gM rfl (gM rfl (gM rfl (gg fun x6_4 h6_7 hx6_8 => ?_)))))
         obtain ⟨b6_4, o6_4, c6_4, he⟩ := idx_form (hm.ow_rep 0 rfl) hx6_8
         simp only [Value.slice.injEq, Option.some.injEq] at he; obtain ⟨rfl, _, rfl⟩ := he
         have hL6_2 := rep_slice_len (hm.ow_rep 0 rfl)
         refine gI st_37 h6_7 (idx_lt2 hx6_8 hL6_2) rfl (gY (yl isAgg3 ((flat_cells (cs := [(nV x6_4)]) (hm.ow_rep 0 rfl) hx6_8 rfl).cell (j := 0) rfl) rfl) (gg fun x6_5 h6_8 hx6_10 => ?_))
         obtain ⟨b6_5, o6_5, c6_5, he⟩ := idx_form (hm.ow_rep 2 rfl) hx6_10
         simp only [Value.slice.injEq, Option.some.injEq] at he; obtain ⟨rfl, _, rfl⟩ := he
         have hL6_3 := rep_slice_len (hm.ow_rep 2 rfl)
         refine gI st_58 h6_8 (idx_lt2 hx6_10 hL6_3) rfl (gf0 rfl (fun a hf => e_setElem (x1 := true) (j := 0) (vs := [(.bool (true))]) 2 hf hm rfl hx6_10 rfl sizeOf4 rfl rfl rfl (one_cons rfl one_nil) rfl rfl) ?_)
         rintro _ w hm
         have hx6_11 := List.getElem?_set_self (a := true) (idx_lt hx6_10)
         exact gE (gz hm [0, 1, 2] rfl)
        exact gcf rfl (gSk (gz hm [0, 1, 2] rfl))
       repeat clear hm
       intro s5_2 w hm
       exact gz hm [0, 1, 2] rfl
      repeat clear hm
      intro s4_1 w hm
      exact gR (gM rfl (gP (by omega) (by omega) rfl (gA rfl (gE (gze hm [0, 1, 2] rfl)))))
     repeat clear hm
     intro i3_1 xs3_1 w hm hi3_3 hi3_4
     refine gS (gS (gR (gM rfl (gM rfl (gY (yV st_53 rfl) (gB rfl (gE (go _ 66 rfl (decide_eq_false (by omega)) (gcf rfl (gXt (gHh (gS (gR (gA rfl (gE (gS (gJ hm (fun s3_1 => [(0, (.slice p0_1 t.length c0_1)), (1, (nV most)), (6, (.slice p0_3 ys0_2.length c0_3)), (8, (sV b3_1 o3_1 s0_1.length c0_5)), (10, (nV xs2_2.2)), (11, (nV x3_1)), (14, (nV s3_1))]) (fun s3_1 => [ow [(.slice p0_3 ys0_2.length c0_3)] xs2_2.1, ow [(sV b3_1 o3_1 s0_1.length c0_5)] s0_1]) (fun s3_1 => ?_) ?_)))))))))))))))))
     ·
      refine gBk (gMf hm (fun xs5_1 => [(0, (.slice p0_1 t.length c0_1)), (1, (nV most)), (6, (.slice p0_3 ys0_2.length c0_3)), (8, (sV b3_1 o3_1 s0_1.length c0_5)), (10, (nV xs2_2.2)), (11, (nV x3_1)), (12, (.slice p3_1 ys3_1.length c3_2)), (14, (nV xs5_1))]) (fun xs5_1 => [ow [(.slice p0_3 ys0_2.length c0_3)] xs2_2.1, ow [(sV b3_1 o3_1 s0_1.length c0_5)] s0_1, ow [(.slice p3_1 ys3_1.length c3_2)] xs3_1]) [0, 1, 2] rfl ?_)
      repeat clear hm
      intro r4_1 hq4_2 xs5_1 w hm q4_1 ho4_1
      refine gS (gS (gJ hm (fun s5_3 => [(0, (.slice p0_1 t.length c0_1)), (1, (nV most)), (6, (.slice p0_3 ys0_2.length c0_3)), (8, (sV b3_1 o3_1 s0_1.length c0_5)), (10, (nV xs2_2.2)), (11, (nV x3_1)), (12, (.slice p3_1 ys3_1.length c3_2)), (14, (nV xs5_1)), (97, (.bool (s5_3)))]) (fun s5_3 => [ow [(.slice p0_3 ys0_2.length c0_3)] xs2_2.1, ow [(sV b3_1 o3_1 s0_1.length c0_5)] s0_1, ow [(.slice p3_1 ys3_1.length c3_2)] xs3_1]) (fun s5_3 => ?_) ?_))
      ·
       refine gR (gM rfl (gM rfl (gB rfl (gM rfl (gsd 92 rfl (fun h6_9 => ?_) fun h6_9 => ?_)))))
       ·
        refine gM rfl (gM rfl (gg fun x6_6 h6_10 hx6_13 => ?_))
        obtain ⟨b6_6, o6_6, c6_6, he⟩ := idx_form (hm.ow_rep 2 rfl) hx6_13
        simp only [Value.slice.injEq, Option.some.injEq] at he; obtain ⟨rfl, _, rfl⟩ := he
        have hL6_4 := rep_slice_len (hm.ow_rep 2 rfl)
        exact gI st_58 h6_10 (idx_lt2 hx6_13 hL6_4) rfl (gY (yl isAgg4 ((flat_cells (cs := [(.bool (x6_6))]) (hm.ow_rep 2 rfl) hx6_13 rfl).cell (j := 0) rfl) rfl) (gKt rfl (gE (gz hm [0, 1, 2] rfl))))
       exact gO rfl (gO rfl (gO rfl (gO rfl (gKf rfl (gE (gz hm [0, 1, 2] rfl))))))
      repeat clear hm
      intro s5_3 w hm
      refine gs 97 rfl (fun h5_1 => ?_) fun h5_1 => ?_
      ·
       exact gct rfl (gSk (gBk (gR (gM rfl (gB rfl (gA rfl (gE (gze hm [0, 1, 2] rfl))))))))
      exact gcf rfl (gXt (gHh (gLp ho4_1 hq4_2 (gz hm [0, 1] rfl))))
     repeat clear hm
     intro s3_1 w hm
     refine gS (gR (gM rfl (gM rfl (gB rfl (gE (gJ hm (fun s3_2 => [(0, (.slice p0_1 t.length c0_1)), (1, (nV most)), (6, (.slice p0_3 ys0_2.length c0_3)), (8, (sV b3_1 o3_1 s0_1.length c0_5)), (10, (nV xs2_2.2))]) (fun s3_2 => [ow [(.slice p0_3 ys0_2.length c0_3)] s3_2, ow [(sV b3_1 o3_1 s0_1.length c0_5)] s0_1]) (fun s3_2 => ?_) ?_))))))
     ·
      refine gsd 102 rfl (fun h4_1 => ?_) fun h4_1 => ?_
      ·
       refine gct rfl (gR (gM rfl (gM rfl (gM rfl (gg fun x4_1 h4_2 hx4_2 => ?_)))))
       obtain ⟨b4_1, o4_1, c4_1, he⟩ := idx_form (hm.ow_rep 0 rfl) hx4_2
       simp only [Value.slice.injEq, Option.some.injEq] at he; obtain ⟨rfl, _, rfl⟩ := he
       have hL4_1 := rep_slice_len (hm.ow_rep 0 rfl)
       refine gI st_37 h4_2 (idx_lt2 hx4_2 hL4_1) rfl (gf0 rfl (fun a hf => e_setElem (x1 := s3_1) (j := 0) (vs := [(nV s3_1)]) 0 hf hm rfl hx4_2 rfl sizeOf3 rfl rfl rfl (one_cons rfl one_nil) rfl rfl) ?_)
       rintro _ w hm
       have hx4_3 := List.getElem?_set_self (a := s3_1) (idx_lt hx4_2)
       exact gE (gz hm [0, 1] rfl)
      exact gcf rfl (gSk (gz hm [0, 1] rfl))
     repeat clear hm
     intro s3_2 w hm
     exact gz hm [0, 1] rfl
    repeat clear hm
    intro s2_1 w hm
    exact gR (gM rfl (gB rfl (gA rfl (gE (gze hm [0, 1] rfl)))))
   exact gcf rfl (gXt (gHh (gLp ho1_2 hq1_2 (gz hm [0] rfl))))
  repeat clear hm
  intro s0_2 w hm
  exact gS (gR (gM rfl (gA rfl (gE (gRt (gr1 results62 rfl ⟨(.slice p0_3 ys0_2.length c0_3), rfl, hm.pk [0] rfl rfl⟩))))))

theorem impl_within_ok (w0 : World) (n_ : Int) (low : Int) (high : Int) :
    ConM Tryz.prog 63 [(nV n_), (nV low), (nV high)] w0 (impl_within n_ low high) fun r v w' => v = (.bool (r)) ∧ Below w0.heap.size w0 w' := by
  unfold impl_within
  refine gcon func63 rfl fun r => ?_
  have hm := Mem.start w0
  refine gS (gR (gA rfl (gE (gS (gJ hm (fun s0_1 => [(6, (.bool (s0_1)))]) (fun s0_1 => []) (fun s0_1 => ?_) ?_)))))
  ·
   refine gR (gM rfl (gM rfl (gB rfl (gM rfl (gsd 10 rfl (fun h1_1 => ?_) fun h1_1 => ?_)))))
   ·
    exact gM rfl (gM rfl (gB rfl (gKt rfl (gA rfl (gE (gz hm [] rfl))))))
   exact gO rfl (gO rfl (gO rfl (gKf rfl (gA rfl (gE (gz hm [] rfl))))))
  repeat clear hm
  intro s0_1 w hm
  exact gRt (gr1 results63 rfl ⟨rfl, hm.below⟩)

theorem impl_codeOk_1_ok (w0 : World) (r_ : Int) (c0_ : Code_) (v1 : Value) (h1 : GT.rep (hp w0) [v1] c0_.blocks) (bf0 : Nat) (hbf0 : w0.heap[bf0]? = some (.cells ([(nV c0_.params), (nV c0_.regs), v1] : List Value).toArray 57 (0, 0))) :
    ConM Tryz.prog 228 [(nV r_), (pV bf0)] w0 (impl_codeOk_1 r_ c0_) fun r v w' => v = (.bool (r)) ∧ Below w0.heap.size w0 w' := by
  unfold impl_codeOk_1
  refine gcon func228 rfl fun r => ?_
  have hm := Mem.start w0
  exact gS (gR (gA rfl (gE (gS (gR (gM rfl (gF fo_57_1 rfl (gY (yl isAgg3 (hm.old_cell hbf0 rfl) rfl) (gB rfl (gC hm rfl call63 (impl_within_ok _ r_ 0 (w64 (c0_.regs - 1))) fun r0_1 hx0_1 w hm => gA rfl (gE (gRt (gr1 results228 rfl ⟨rfl, hm.below⟩)))))))))))))

theorem impl_nextCount_ok (w0 : World) (jump : Int) :
    ConM Tryz.prog 229 [(nV jump)] w0 (impl_nextCount jump) fun r v w' => v = (nV r) ∧ Below w0.heap.size w0 w' := by
  unfold impl_nextCount
  refine gcon func229 rfl fun r => ?_
  have hm := Mem.start w0
  refine gS (gR (gA rfl (gE (gS (gS (gR (gM rfl (gE (gBk (gS (gR (gB rfl (gA rfl (gE (gsd 4 rfl (fun h0_1 => ?_) fun h0_1 => ?_)))))))))))))))
  ·
   exact gct rfl (gS (gR (gA rfl (gE (gRt (gr1 results229 rfl ⟨rfl, hm.below⟩))))))
  refine gcf rfl (gS (gR (gB rfl (gA rfl (gE (gsd 6 rfl (fun h0_2 => ?_) fun h0_2 => ?_))))))
  ·
   exact gct rfl (gS (gR (gA rfl (gE (gRt (gr1 results229 rfl ⟨rfl, hm.below⟩))))))
  refine gcf rfl (gS (gR (gB rfl (gA rfl (gE (gsd 8 rfl (fun h0_3 => ?_) fun h0_3 => ?_))))))
  ·
   exact gct rfl (gS (gR (gA rfl (gE (gRt (gr1 results229 rfl ⟨rfl, hm.below⟩))))))
  exact gcf rfl (gSk (gS (gR (gA rfl (gE (gRt (gr1 results229 rfl ⟨rfl, hm.below⟩)))))))

theorem impl_usesOn_ok (w0 : World) (jump : Int) :
    ConM Tryz.prog 144 [(nV jump)] w0 (impl_usesOn jump) fun r v w' => v = (.bool (r)) ∧ Below w0.heap.size w0 w' := by
  unfold impl_usesOn
  refine gcon func144 rfl fun r => ?_
  have hm := Mem.start w0
  refine gS (gR (gA rfl (gE (gS (gJ hm (fun s0_1 => [(2, (.bool (s0_1)))]) (fun s0_1 => []) (fun s0_1 => ?_) ?_)))))
  ·
   refine gR (gM rfl (gB rfl (gM rfl (gsd 5 rfl (fun h1_1 => ?_) fun h1_1 => ?_))))
   ·
    exact gO rfl (gO rfl (gKt rfl (gA rfl (gE (gz hm [] rfl)))))
   exact gM rfl (gB rfl (gKf rfl (gA rfl (gE (gz hm [] rfl)))))
  repeat clear hm
  intro s0_1 w hm
  exact gRt (gr1 results144 rfl ⟨rfl, hm.below⟩)

theorem impl_codeOk_2_ok (w0 : World) (n_ : Int) (c0_ : Code_) (v1 : Value) (h1 : GT.rep (hp w0) [v1] c0_.blocks) (bf0 : Nat) (hbf0 : w0.heap[bf0]? = some (.cells ([(nV c0_.params), (nV c0_.regs), v1] : List Value).toArray 57 (0, 0))) :
    ConM Tryz.prog 230 [(nV n_), (pV bf0)] w0 (impl_codeOk_2 n_ c0_) fun r v w' => v = (.bool (r)) ∧ Below w0.heap.size w0 w' := by
  unfold impl_codeOk_2
  refine gcon func230 rfl fun r => ?_
  have hm := Mem.start w0
  refine gS (gR (gA rfl (gE (gS (gR (gM rfl (gF fo_57_2 rfl (gY (yl isAgg55 (hm.old_cell hbf0 rfl) rfl) ?_))))))))
  obtain ⟨p0_1, c0_1, rfl, hl0_1⟩ := ro_slice h1
  exact gY (yV st_55 rfl) (gY (yS (by omega) (by omega) rfl) (gC hm rfl call63 (impl_within_ok _ n_ 1 (((c0_.blocks.length : Int)) - 1)) fun r0_1 hx0_1 w hm => gN rfl (gA rfl (gE (gRt (gr1 results230 rfl ⟨rfl, hm.below⟩))))))

theorem slices_IndexFunc_S_int_int_ok (w0 : World) (s_ : List Int) (v1 : Value) (h1 : GT.rep (hp w0) [v1] s_) (f : Int → Option Bool) (fv1 : Value) (hfn1 : ∀ (w : World) (y0 : Int) (r : Bool), Below w0.heap.size w0 w → f y0 = some r → FnOk Tryz.prog fv1 [(nV y0)] w (fun v w' => v = (.bool (r)) ∧ Below w.heap.size w w')) :
    ConM Tryz.prog 103 [v1, fv1] w0 (slices_IndexFunc_S_int_int s_ f) fun r v w' => v = (nV r) ∧ Below w0.heap.size w0 w' := by
  unfold slices_IndexFunc_S_int_int
  refine gcon func103 rfl fun r => ?_
  have hm := Mem.start w0
  refine gS (gR (gA rfl (gE (gS (gS (gR (gM rfl ?_)))))))
  obtain ⟨p0_1, c0_1, rfl, hl0_1⟩ := ro_slice h1
  refine gY (yV st_37 rfl) (gM rfl (gE (gBk (gNf hm (fun i1_1 xs1_1 => [(0, (.slice p0_1 s_.length c0_1)), (1, fv1), (7, (nV ((s_.length : Int)))), (8, (nV i1_1))]) (fun i1_1 xs1_1 => []) [] rfl ?_ ?_))))
  ·
   repeat clear hm
   intro r0_1 hq0_1 i1_1 xs1_1 w hm hi0_1 hi0_2 q0_1 ho0_1
   refine gS (gR (gB rfl (gE (gS (go _ 9 rfl (decide_eq_true (by omega)) (gct rfl (gSk (gS (gBk (gS (gR (gM rfl (gA rfl (gE (gS (gR (gM rfl (gM rfl (gM rfl (gg fun x1_1 h1_1 hx1_2 => ?_))))))))))))))))))))
   obtain ⟨b1_1, o1_1, c1_1, he⟩ := idx_form h1 hx1_2
   simp only [Value.slice.injEq, Option.some.injEq] at he; obtain ⟨rfl, _, rfl⟩ := he
   refine gI st_37 h1_1 (idx_lt hx1_2) rfl (gY (yl isAgg3 ((flat_cells (cs := [(nV x1_1)]) (hm.now h1) hx1_2 rfl).cell (j := 0) rfl) rfl) (gb fun r1_1 hx1_3 => gf rfl (fun a hf => e_callv hf rfl rfl rfl (hfn1 _ x1_1 _ hm.below hx1_3)) ?_))
   rintro v1_1 w ⟨rfl, hB⟩
   replace hm := hm.below' hB; clear hB
   refine gE (gs 16 rfl (fun h1_2 => ?_) fun h1_2 => ?_)
   ·
    exact gct rfl (gS (gR (gM rfl (gA rfl (gE (gRt (gLr ho0_1 hq0_1 (gr1 results103 rfl ⟨rfl, hm.below⟩))))))))
   exact gcf rfl (gSk (gR (gP (by omega) (by omega) rfl (gM rfl (gE (gze hm [] rfl))))))
  repeat clear hm
  intro i0_1 xs0_1 w hm hi0_3 hi0_4
  exact gS (gR (gB rfl (gE (gS (go _ 9 rfl (decide_eq_false (by omega)) (gcf rfl (gXt (gHh (gS (gR (gA rfl (gE (gRt (gr1 results103 rfl ⟨rfl, hm.below⟩))))))))))))))

theorem slices_ContainsFunc_S_int_int_ok (w0 : World) (s_ : List Int) (v1 : Value) (h1 : GT.rep (hp w0) [v1] s_) (f : Int → Option Bool) (fv1 : Value) (hfn1 : ∀ (w : World) (y0 : Int) (r : Bool), Below w0.heap.size w0 w → f y0 = some r → FnOk Tryz.prog fv1 [(nV y0)] w (fun v w' => v = (.bool (r)) ∧ Below w.heap.size w w')) :
    ConM Tryz.prog 57 [v1, fv1] w0 (slices_ContainsFunc_S_int_int s_ f) fun r v w' => v = (.bool (r)) ∧ Below w0.heap.size w0 w' := by
  unfold slices_ContainsFunc_S_int_int
  refine gcon func57 rfl fun r => ?_
  have hm := Mem.start w0
  exact gS (gR (gA rfl (gE (gS (gR (gM rfl (gM rfl (gC hm rfl call103 (slices_IndexFunc_S_int_int_ok _ s_ v1 (hm.now h1) f fv1 (fun w y0 r hB hq => hfn1 w y0 r (hm.below.trans (hB.mono hm.below.size)) hq)) fun r0_1 hx0_1 w hm => gB rfl (gA rfl (gE (gRt (gr1 results57 rfl ⟨rfl, hm.below⟩))))))))))))

theorem impl_insOk_1_ok (w0 : World) (r_ : Int) (c0_ : Code_) (v1 : Value) (h1 : GT.rep (hp w0) [v1] c0_.blocks) (bf0 : Nat) (hbf0 : w0.heap[bf0]? = some (.cells ([(nV c0_.params), (nV c0_.regs), v1] : List Value).toArray 57 (0, 0))) :
    ConM Tryz.prog 280 [(nV r_), (pV bf0)] w0 (impl_insOk_1 r_ c0_) fun r v w' => v = (.bool (r)) ∧ Below w0.heap.size w0 w' := by
  unfold impl_insOk_1
  refine gcon func280 rfl fun r => ?_
  have hm := Mem.start w0
  exact gS (gR (gA rfl (gE (gS (gR (gM rfl (gF fo_57_1 rfl (gY (yl isAgg3 (hm.old_cell hbf0 rfl) rfl) (gB rfl (gC hm rfl call63 (impl_within_ok _ r_ 0 (w64 (c0_.regs - 1))) fun r0_1 hx0_1 w hm => gA rfl (gE (gRt (gr1 results280 rfl ⟨rfl, hm.below⟩)))))))))))))

theorem impl_isIns_ok (w0 : World) (op : Int) :
    ConM Tryz.prog 208 [(nV op)] w0 (impl_isIns op) fun r v w' => v = (.bool (r)) ∧ Below w0.heap.size w0 w' := by
  unfold impl_isIns
  refine gcon func208 rfl fun r => ?_
  have hm := Mem.start w0
  exact gS (gR (gA rfl (gE (gS (gR (gM rfl (gC hm rfl call63 (impl_within_ok _ op 1 14) fun r0_1 hx0_1 w hm => gA rfl (gE (gRt (gr1 results208 rfl ⟨rfl, hm.below⟩))))))))))

theorem impl_insOk_2_ok (w0 : World) (r_ : Int) (c0_0_ : Code_) (v1 : Value) (h1 : GT.rep (hp w0) [v1] c0_0_.blocks) (bf0_0 : Nat) (hbf0_0 : w0.heap[bf0_0]? = some (.cells ([(nV c0_0_.params), (nV c0_0_.regs), v1] : List Value).toArray 57 (0, 0))) (bf0 : Nat) (hbf0 : w0.heap[bf0]? = some (.cells ([(.func (.func 280) #[] #[(pV bf0_0)])] : List Value).toArray 68 (0, 0))) :
    ConM Tryz.prog 281 [(nV r_), (pV bf0)] w0 (impl_insOk_2 r_ c0_0_) fun r v w' => v = (.bool (r)) ∧ Below w0.heap.size w0 w' := by
  unfold impl_insOk_2
  refine gcon func281 rfl fun r => ?_
  have hm := Mem.start w0
  refine gS (gR (gA rfl (gE (gS (gR (gY (yl isAgg68 (hm.old_cell hbf0 rfl) rfl) (gM rfl (gb fun r0_1 hx0_1 => gf rfl (fun a hf => e_callv hf rfl rfl rfl ⟨280, [(pV bf0_0)], rfl, call280, impl_insOk_1_ok _ r_ c0_0_ v1 (rep_later (hm.now h1) (Below.refl _ _)) bf0_0 (hm.old_later hbf0_0 (Below.refl _ _)) _ hx0_1⟩) ?_))))))))
  rintro v0_1 w ⟨rfl, hB⟩
  replace hm := hm.below' hB; clear hB
  exact gN rfl (gA rfl (gE (gRt (gr1 results281 rfl ⟨rfl, hm.below⟩))))

theorem impl_sets_ok (w0 : World) (op : Int) :
    ConM Tryz.prog 142 [(nV op)] w0 (impl_sets op) fun r v w' => v = (.bool (r)) ∧ Below w0.heap.size w0 w' := by
  unfold impl_sets
  refine gcon func142 rfl fun r => ?_
  have hm := Mem.start w0
  refine gS (gR (gA rfl (gE (gS (gJ hm (fun s0_1 => [(2, (.bool (s0_1)))]) (fun s0_1 => []) (fun s0_1 => ?_) ?_)))))
  ·
   refine gR (gM rfl (gC hm rfl call208 (impl_isIns_ok _ op) fun r1_1 hx1_1 w hm => gM rfl (gs 5 rfl (fun h1_1 => ?_) fun h1_1 => ?_)))
   ·
    refine gM rfl (gB rfl (gKt rfl (gM rfl (gsd 9 rfl (fun h1_2 => ?_) fun h1_2 => ?_))))
    ·
     exact gM rfl (gB rfl (gKt rfl (gA rfl (gE (gz hm [] rfl)))))
    exact gO rfl (gO rfl (gKf rfl (gA rfl (gE (gz hm [] rfl)))))
   exact gO rfl (gO rfl (gKf rfl (gM rfl (gO rfl (gO rfl (gKf rfl (gA rfl (gE (gz hm [] rfl)))))))))
  repeat clear hm
  intro s0_1 w hm
  exact gRt (gr1 results142 rfl ⟨rfl, hm.below⟩)

theorem impl_isByte_ok (w0 : World) (n_ : Int) :
    ConM Tryz.prog 282 [(nV n_)] w0 (impl_isByte n_) fun r v w' => v = (.bool (r)) ∧ Below w0.heap.size w0 w' := by
  unfold impl_isByte
  refine gcon func282 rfl fun r => ?_
  have hm := Mem.start w0
  exact gS (gR (gA rfl (gE (gS (gR (gM rfl (gC hm rfl call63 (impl_within_ok _ n_ 0 255) fun r0_1 hx0_1 w hm => gA rfl (gE (gRt (gr1 results282 rfl ⟨rfl, hm.below⟩))))))))))

theorem impl_insArgs_ok (w0 : World) (op : Int) :
    ConM Tryz.prog 283 [(nV op)] w0 (impl_insArgs op) fun r v w' => v = (nV r) ∧ Below w0.heap.size w0 w' := by
  unfold impl_insArgs
  refine gcon func283 rfl fun r => ?_
  have hm := Mem.start w0
  refine gS (gR (gA rfl (gE (gS (gS (gR (gM rfl (gE (gBk (gS (gR (gB rfl (gA rfl (gE (gsd 4 rfl (fun h0_1 => ?_) fun h0_1 => ?_)))))))))))))))
  ·
   exact gct rfl (gS (gR (gA rfl (gE (gRt (gr1 results283 rfl ⟨rfl, hm.below⟩))))))
  refine gcf rfl (gS (gS (gR (gB rfl (gA rfl (gE (gJ hm (fun s0_1 => [(6, (.bool (s0_1)))]) (fun s0_1 => []) (fun s0_1 => ?_) ?_)))))))
  ·
   refine gsd 6 rfl (fun h1_1 => ?_) fun h1_1 => ?_
   ·
    exact gct rfl (gSk (gz hm [] rfl))
   refine gcf rfl (gS (gR (gB rfl (gA rfl (gE (gJ hm (fun s1_1 => [(6, (.bool (s1_1)))]) (fun s1_1 => []) (fun s1_1 => ?_) ?_))))))
   ·
    refine gsd 6 rfl (fun h2_1 => ?_) fun h2_1 => ?_
    ·
     exact gct rfl (gSk (gz hm [] rfl))
    refine gcf rfl (gS (gR (gB rfl (gA rfl (gE (gJ hm (fun s2_1 => [(6, (.bool (s2_1)))]) (fun s2_1 => []) (fun s2_1 => ?_) ?_))))))
    ·
     refine gsd 6 rfl (fun h3_1 => ?_) fun h3_1 => ?_
     ·
      exact gct rfl (gSk (gz hm [] rfl))
     exact gcf rfl (gR (gB rfl (gA rfl (gE (gz hm [] rfl)))))
    repeat clear hm
    intro s2_1 w hm
    exact gz hm [] rfl
   repeat clear hm
   intro s1_1 w hm
   exact gz hm [] rfl
  repeat clear hm
  intro s0_1 w hm
  refine gs 6 rfl (fun h0_2 => ?_) fun h0_2 => ?_
  ·
   exact gct rfl (gS (gR (gA rfl (gE (gRt (gr1 results283 rfl ⟨rfl, hm.below⟩))))))
  exact gcf rfl (gSk (gS (gR (gA rfl (gE (gRt (gr1 results283 rfl ⟨rfl, hm.below⟩)))))))

theorem impl_insOk_ok (w0 : World) (u : Unit_) (v1 : Value) (h1 : GT.rep (hp w0) [v1] u.codes) (k_ : Int) (x_ : Ins_) (v2 : Value) (h2 : GT.rep (hp w0) [v2] x_.args) :
    ConM Tryz.prog 233 [(.agg #[v1]), (nV k_), (.agg #[(nV x_.op), (nV x_.to), v2, (nV x_.n_)])] w0 (impl_insOk u k_ x_) fun r v w' => v = (.bool (r)) ∧ Below w0.heap.size w0 w' := by
  unfold impl_insOk
  refine gcon func233 rfl fun r => ?_
  have hm := Mem.start w0
  refine gS (gR (gBx hm rfl fun b0_1 w hm => gBx hm rfl fun b0_2 w hm => gA rfl (gE (gS (gR (gF fo_30_0 rfl (gL hm 1 isAgg28 rfl (gM rfl (gg fun x0_1 h0_1 hx0_2 => ?_)))))))))
  obtain ⟨b0_3, o0_1, c0_1, he⟩ := idx_form' h1 hx0_2
  subst he
  obtain ⟨v0_1, hc0_1, h0_2⟩ := rk_Code_ h1 hx0_2
  refine gI st_28 h0_1 (idx_lt hx0_2) rfl (gY (yn (hc0_1.mono hm.lez) isAgg57 sizeOf57 rfl) (gAl hm zeroValue57 rfl fun b0_4 w hm => gSN hm 0 sizeOf57 (one_cons rfl (one_cons rfl (one_cons (rep_one h0_2) one_nil))) rfl fun w hm => gE (gS (gR (gY (yU rfl) (gAl hm zeroValue68 rfl fun b0_5 w hm => gS1 hm 0 sizeOf68 rfl rfl fun w hm => gE (gS (gS (gJ hm (fun s0_1 => [(1, (nV k_)), (3, (pV b0_1)), (5, (pV b0_2)), (8, (pV b0_5)), (24, (.bool (s0_1)))]) (fun s0_1 => [blk b0_1 [(sV b0_3 o0_1 u.codes.length c0_1)] 30, blk b0_2 [(nV x_.op), (nV x_.to), v2, (nV x_.n_)] 106, blk b0_5 [(.func (.func 280) #[] #[(pV b0_4)])] 68, blk b0_4 [(nV x0_1.params), (nV x0_1.regs), v0_1] 57]) (fun s0_1 => ?_) ?_)))))))))
  ·
   refine gR (gF fo_106_0 rfl (gL hm 2 isAgg3 rfl (gC hm rfl call208 (impl_isIns_ok _ x_.op) fun r1_1 hx1_1 w hm => gN rfl (gM rfl (gsn 19 rfl (fun h1_1 => ?_) fun h1_1 => ?_)))))
   ·
    exact gO rfl (gO rfl (gO rfl (gO rfl (gKt rfl (gE (gz hm [3, 2, 0, 1] rfl))))))
   exact gF fo_106_2 rfl (gL hm 2 isAgg37 rfl (gY (yU rfl) (gC hm rfl call57 (slices_ContainsFunc_S_int_int_ok _ x_.args v2 (hm.now h2) (fun y0 => impl_insOk_2 y0 x0_1) (.func (.func 281) #[] #[(pV b0_5)]) (fun w y0 r hB hq => ⟨281, [(pV b0_5)], rfl, call281, impl_insOk_2_ok w y0 x0_1 v0_1 (rep_later (hm.now h0_2) hB) b0_4 (hm.blk_later 1 rfl hB) b0_5 (hm.blk_later 0 rfl hB) r hq⟩)) fun r1_2 hx1_2 w hm => gKf rfl (gE (gz hm [3, 2, 0, 1] rfl)))))
  repeat clear hm
  intro s0_1 w hm
  refine gs 24 rfl (fun h0_3 => ?_) fun h0_3 => ?_
  ·
   exact gct rfl (gS (gR (gA rfl (gE (gRt (gr1 results233 rfl ⟨rfl, hm.below⟩))))))
  refine gcf rfl (gSk (gS (gS (gJ hm (fun s0_2 => [(1, (nV k_)), (3, (pV b0_1)), (5, (pV b0_2)), (45, (.bool (s0_2)))]) (fun s0_2 => [blk b0_1 [(sV b0_3 o0_1 u.codes.length c0_1)] 30, blk b0_2 [(nV x_.op), (nV x_.to), v2, (nV x_.n_)] 106]) (fun s0_2 => ?_) ?_))))
  ·
   refine gR (gF fo_106_0 rfl (gL hm 1 isAgg3 rfl (gC hm rfl call142 (impl_sets_ok _ x_.op) fun r1_3 hx1_3 w hm => gM rfl (gs 28 rfl (fun h1_2 => ?_) fun h1_2 => ?_))))
   ·
    refine gL hm 2 isAgg68 rfl (gF fo_106_1 rfl (gL hm 1 isAgg3 rfl (gb fun r1_4 hx1_4 => gf rfl (fun a hf => e_callv hf rfl rfl rfl ⟨280, [(pV b0_4)], rfl, call280, impl_insOk_1_ok _ x_.to x0_1 v0_1 (rep_later (hm.now h0_2) (Below.refl _ _)) b0_4 (hm.blk_later 3 rfl (Below.refl _ _)) _ hx1_4⟩) ?_)))
    rintro v1_4 w ⟨rfl, hB⟩
    replace hm := hm.below' hB; clear hB
    refine gN rfl (gKt rfl (gM rfl (gsn 35 rfl (fun h1_3 => ?_) fun h1_3 => ?_)))
    ·
     exact gO rfl (gO rfl (gO rfl (gO rfl (gO rfl (gO rfl (gO rfl (gO rfl (gO rfl (gKt rfl (gE (gz hm [0, 1] rfl)))))))))))
    refine gF fo_106_0 rfl (gL hm 1 isAgg3 rfl (gC hm rfl call142 (impl_sets_ok _ x_.op) fun r1_5 hx1_5 w hm => gN rfl (gM rfl (gsn 40 rfl (fun h1_4 => ?_) fun h1_4 => ?_))))
    ·
     exact gF fo_106_1 rfl (gL hm 1 isAgg3 rfl (gB rfl (gKt rfl (gKf rfl (gE (gz hm [0, 1] rfl))))))
    exact gO rfl (gO rfl (gO rfl (gKf rfl (gKf rfl (gE (gz hm [0, 1] rfl))))))
   refine gO rfl (gO rfl (gO rfl (gO rfl (gO rfl (gKf rfl (gM rfl (gF fo_106_0 rfl (gL hm 1 isAgg3 rfl (gC hm rfl call142 (impl_sets_ok _ x_.op) fun r1_6 hx1_6 w hm => gN rfl (gM rfl (gsn 40 rfl (fun h1_5 => ?_) fun h1_5 => ?_)))))))))))
   ·
    exact gF fo_106_1 rfl (gL hm 1 isAgg3 rfl (gB rfl (gKt rfl (gKf rfl (gE (gz hm [0, 1] rfl))))))
   exact gO rfl (gO rfl (gO rfl (gKf rfl (gKf rfl (gE (gz hm [0, 1] rfl))))))
  repeat clear hm
  intro s0_2 w hm
  refine gs 45 rfl (fun h0_4 => ?_) fun h0_4 => ?_
  ·
   exact gct rfl (gS (gR (gA rfl (gE (gRt (gr1 results233 rfl ⟨rfl, hm.below⟩))))))
  refine gcf rfl (gSk (gS (gS (gR (gF fo_106_0 rfl (gL hm 1 isAgg3 rfl (gE (gBk (gS (gR (gB rfl (gA rfl (gE (gsd 48 rfl (fun h0_5 => ?_) fun h0_5 => ?_))))))))))))))
  ·
   refine gct rfl (gS (gJ hm (fun s0_3 => [(6, (.bool (s0_3)))]) (fun s0_3 => []) (fun s0_3 => ?_) ?_))
   ·
    refine gR (gF fo_106_2 rfl (gL hm 1 isAgg37 rfl ?_))
    obtain ⟨p1_1, c1_1, rfl, hl1_1⟩ := ro_slice h2
    refine gY (yV st_37 rfl) (gB rfl (gM rfl (gsd 54 rfl (fun h1_6 => ?_) fun h1_6 => ?_)))
    ·
     exact gF fo_106_3 rfl (gL hm 1 isAgg3 rfl (gC hm rfl call282 (impl_isByte_ok _ x_.n_) fun r1_7 hx1_7 w hm => gKt rfl (gA rfl (gE (gz hm [] rfl)))))
    exact gO rfl (gO rfl (gO rfl (gKf rfl (gA rfl (gE (gz hm [] rfl))))))
   repeat clear hm
   intro s0_3 w hm
   exact gRt (gr1 results233 rfl ⟨rfl, hm.below⟩)
  refine gcf rfl (gS (gR (gB rfl (gA rfl (gE (gsd 59 rfl (fun h0_6 => ?_) fun h0_6 => ?_))))))
  ·
   refine gct rfl (gS (gJ hm (fun s0_4 => [(6, (.bool (s0_4)))]) (fun s0_4 => []) (fun s0_4 => ?_) ?_))
   ·
    refine gW (.p 0 (.p 2 (.p 3 (.e 1 (.e 4 (.p 5 (.p 6 (.p 9 (.p 11 (.q 7 (.p 8 (.q 10 (.e 12 (.p 13 (.p 14 (.e 15 (.p 16 (.p 17 (.p 18 .fin))) .nil))) .nil)))))))) .nil) .nil)))) [7, 10, 12, 15] [0, 2, 3, 5, 6, 8, 9, 11, 13, 14, 16, 17, 18] hm [0, 1] [blk b0_1 [(sV b0_3 o0_1 u.codes.length c0_1)] 30, blk b0_2 [(nV x_.op), (nV x_.to), v2, (nV x_.n_)] 106] rfl mxo (by kernel_rfl) (fun _ _ _ h => h.2) fun w hm hS => tP rfl (fun w => yF fo_106_3 rfl) (tP rfl (fun w => yM rfl) (tP rfl (fun w => yB rfl) (tO (tY rfl (yL hm 1 isAgg3 rfl) (tAn rfl (tO (gb fun r1_8 hx1_8 => tf rfl rfl (fun a hf => e_call hf rfl call63 rfl (impl_within_ok _ x_.n_ 0 (w64 (k_ - 1)) _ hx1_8)) ?_)))))))
    rintro v1_8 w ⟨rfl, hB⟩
    replace hm := hm.below' hB; clear hB
    refine tAk hm [0, 1] rfl fun hS => tP rfl (fun w => yM rfl) (gs 66 rfl (fun h1_7 => ?_) fun h1_7 => ?_)
    ·
     refine tP rfl (fun w => yF fo_106_2 rfl) (tP rfl (fun w => yF fo_30_0 rfl) (tP rfl (fun w => yF fo_106_3 rfl) (tQ rfl hS (fun w hm => yL hm 1 isAgg37 rfl) ?_)))
     obtain ⟨p1_2, c1_2, rfl, hl1_2⟩ := ro_slice h2
     refine tP rfl (fun w => yV st_37 rfl) (tQ rfl hS (fun w hm => yL hm 0 isAgg28 rfl) (tO (tY rfl (yL hm 1 isAgg3 rfl) (tAs hS (gg fun x1_1 h1_8 hx1_10 => ?_)))))
     obtain ⟨v1_9, hc1_1, h1_9⟩ := rk_Code_ h1 hx1_10
     exact tP rfl (fun w => yI st_28 h1_8 (idx_lt hx1_10) rfl) (tP rfl (fun w => yF fo_57_0 rfl) (tO (tY rfl (yl isAgg3 ((hc1_1.mono hm.lez).cell (j := 0) rfl) rfl) (tAs hS (tP rfl (fun w => yB rfl) (tP rfl (fun w => yKt rfl) (tP rfl (fun w => yA rfl) (tE (gz hm [] rfl)))))))))
    exact tPo rfl rfl (tPo rfl rfl (tPo rfl rfl (tQo rfl hS rfl (tPo rfl rfl (tQo rfl hS rfl (tO (tEo rfl rfl (tAs hS (tPo rfl rfl (tPo rfl rfl (tO (tEo rfl rfl (tAs hS (tPo rfl rfl (tP rfl (fun w => yKf rfl) (tP rfl (fun w => yA rfl) (tE (gz hm [] rfl))))))))))))))))))
   repeat clear hm
   intro s0_4 w hm
   exact gRt (gr1 results233 rfl ⟨rfl, hm.below⟩)
  refine gcf rfl (gSk (gS (gJ hm (fun s0_5 => [(6, (.bool (s0_5)))]) (fun s0_5 => []) (fun s0_5 => ?_) ?_)))
  ·
   refine gW (.p 0 (.e 1 (.p 2 (.p 3 (.p 4 (.p 7 (.q 5 (.p 6 (.e 8 (.e 9 (.p 10 (.p 11 (.p 12 .fin))) .nil) .nil))))))) .nil)) [8, 9] [0, 2, 3, 4, 6, 7, 10, 11, 12] hm [0, 1] [blk b0_1 [(sV b0_3 o0_1 u.codes.length c0_1)] 30, blk b0_2 [(nV x_.op), (nV x_.to), v2, (nV x_.n_)] 106] rfl mxo (by kernel_rfl) (fun _ _ _ h => h.2) fun w hm hS => tP rfl (fun w => yF fo_106_3 rfl) (tO (tY rfl (yL hm 1 isAgg3 rfl) (tAn rfl (tP rfl (fun w => yB rfl) (tP rfl (fun w => yM rfl) (gsd 82 rfl (fun h1_10 => ?_) fun h1_10 => ?_))))))
   ·
    refine tP rfl (fun w => yF fo_106_2 rfl) (tP rfl (fun w => yF fo_106_0 rfl) (tQ rfl hS (fun w hm => yL hm 1 isAgg37 rfl) ?_))
    obtain ⟨p1_3, c1_3, rfl, hl1_3⟩ := ro_slice h2
    refine tP rfl (fun w => yV st_37 rfl) (tO (tY rfl (yL hm 1 isAgg3 rfl) (tAs hS (tO (gb fun r1_9 hx1_11 => tf rfl rfl (fun a hf => e_call hf rfl call283 rfl (impl_insArgs_ok _ x_.op _ hx1_11)) ?_)))))
    rintro v1_10 w ⟨rfl, hB⟩
    replace hm := hm.below' hB; clear hB
    exact tAk hm [0, 1] rfl fun hS => tP rfl (fun w => yB rfl) (tP rfl (fun w => yKt rfl) (tP rfl (fun w => yA rfl) (tE (gz hm [] rfl))))
   exact tPo rfl rfl (tPo rfl rfl (tQo rfl hS rfl (tPo rfl rfl (tO (tEo rfl rfl (tAs hS (tO (tEo rfl rfl (tAs hS (tPo rfl rfl (tP rfl (fun w => yKf rfl) (tP rfl (fun w => yA rfl) (tE (gz hm [] rfl))))))))))))))
  repeat clear hm
  intro s0_5 w hm
  exact gRt (gr1 results233 rfl ⟨rfl, hm.below⟩)

theorem impl_codeOk_3_ok (w0 : World) (i_ : Ins_) (v1 : Value) (h1 : GT.rep (hp w0) [v1] i_.args) (c0_ : Unit_) (v2 : Value) (h2 : GT.rep (hp w0) [v2] c0_.codes) (bf0 : Nat) (hbf0 : w0.heap[bf0]? = some (.cells ([v2] : List Value).toArray 30 (0, 0))) (c1_ : Int) (bf1 : Nat) (hbf1 : w0.heap[bf1]? = some (.cells ([(nV c1_)] : List Value).toArray 3 (0, 0))) :
    ConM Tryz.prog 232 [(.agg #[(nV i_.op), (nV i_.to), v1, (nV i_.n_)]), (pV bf0), (pV bf1)] w0 (impl_codeOk_3 i_ c0_ c1_) fun r v w' => v = (.bool (r)) ∧ Below w0.heap.size w0 w' := by
  unfold impl_codeOk_3
  refine gcon func232 rfl fun r => ?_
  have hm := Mem.start w0
  exact gS (gR (gBx hm rfl fun b0_1 w hm => gA rfl (gE (gS (gR (gY (yn (hm.old_at hbf0) isAgg30 sizeOf30 rfl) (gY (yl isAgg3 (hm.old_cell hbf1 rfl) rfl) (gY (yn (hm.blk_at 0 rfl) isAgg106 sizeOf106 rfl) (gC hm rfl call233 (impl_insOk_ok _ c0_ v2 (hm.now h2) c1_ i_ v1 (hm.now h1)) fun r0_1 hx0_1 w hm => gN rfl (gA rfl (gE (gRt (gr1 results232 rfl ⟨rfl, hm.below⟩)))))))))))))

theorem slices_IndexFunc_S_impl_Ins_impl_Ins_ok (w0 : World) (s_ : List Ins_) (v1 : Value) (h1 : GT.rep (hp w0) [v1] s_) (f : Ins_ → Option Bool) (fv1 : Value) (hfn1 : ∀ (w : World) (y0 : Ins_) (z1 : Value) (_ : GT.rep (hp w) [z1] y0.args) (r : Bool), Below w0.heap.size w0 w → f y0 = some r → FnOk Tryz.prog fv1 [(.agg #[(nV y0.op), (nV y0.to), z1, (nV y0.n_)])] w (fun v w' => v = (.bool (r)) ∧ Below w.heap.size w w')) :
    ConM Tryz.prog 279 [v1, fv1] w0 (slices_IndexFunc_S_impl_Ins_impl_Ins s_ f) fun r v w' => v = (nV r) ∧ Below w0.heap.size w0 w' := by
  unfold slices_IndexFunc_S_impl_Ins_impl_Ins
  refine gcon func279 rfl fun r => ?_
  have hm := Mem.start w0
  refine gS (gR (gA rfl (gE (gS (gS (gR (gM rfl ?_)))))))
  obtain ⟨p0_1, c0_1, rfl, hl0_1⟩ := ro_slice h1
  refine gY (yV st_102 rfl) (gM rfl (gE (gBk (gNf hm (fun i1_1 xs1_1 => [(0, (.slice p0_1 s_.length c0_1)), (1, fv1), (7, (nV ((s_.length : Int)))), (8, (nV i1_1))]) (fun i1_1 xs1_1 => []) [] rfl ?_ ?_))))
  ·
   repeat clear hm
   intro r0_1 hq0_1 i1_1 xs1_1 w hm hi0_1 hi0_2 q0_1 ho0_1
   refine gS (gR (gB rfl (gE (gS (go _ 9 rfl (decide_eq_true (by omega)) (gct rfl (gSk (gS (gBk (gS (gR (gM rfl (gA rfl (gE (gS (gR (gM rfl (gM rfl (gM rfl (gg fun x1_1 h1_1 hx1_2 => ?_))))))))))))))))))))
   obtain ⟨b1_1, o1_1, c1_1, he⟩ := idx_form' h1 hx1_2
   simp only [Value.slice.injEq, Option.some.injEq] at he; obtain ⟨rfl, _, rfl⟩ := he
   obtain ⟨v1_1, hc1_1, h1_2⟩ := rk_Ins_ h1 hx1_2
   refine gI st_102 h1_1 (idx_lt hx1_2) rfl (gY (yn (hc1_1.mono hm.lez) isAgg106 sizeOf106 rfl) (gb fun r1_1 hx1_3 => gf rfl (fun a hf => e_callv hf rfl rfl rfl (hfn1 _ x1_1 v1_1 (hm.now h1_2) _ hm.below hx1_3)) ?_))
   rintro v1_2 w ⟨rfl, hB⟩
   replace hm := hm.below' hB; clear hB
   refine gE (gs 16 rfl (fun h1_3 => ?_) fun h1_3 => ?_)
   ·
    exact gct rfl (gS (gR (gM rfl (gA rfl (gE (gRt (gLr ho0_1 hq0_1 (gr1 results279 rfl ⟨rfl, hm.below⟩))))))))
   exact gcf rfl (gSk (gR (gP (by omega) (by omega) rfl (gM rfl (gE (gze hm [] rfl))))))
  repeat clear hm
  intro i0_1 xs0_1 w hm hi0_3 hi0_4
  exact gS (gR (gB rfl (gE (gS (go _ 9 rfl (decide_eq_false (by omega)) (gcf rfl (gXt (gHh (gS (gR (gA rfl (gE (gRt (gr1 results279 rfl ⟨rfl, hm.below⟩))))))))))))))

theorem slices_ContainsFunc_S_impl_Ins_impl_Ins_ok (w0 : World) (s_ : List Ins_) (v1 : Value) (h1 : GT.rep (hp w0) [v1] s_) (f : Ins_ → Option Bool) (fv1 : Value) (hfn1 : ∀ (w : World) (y0 : Ins_) (z1 : Value) (_ : GT.rep (hp w) [z1] y0.args) (r : Bool), Below w0.heap.size w0 w → f y0 = some r → FnOk Tryz.prog fv1 [(.agg #[(nV y0.op), (nV y0.to), z1, (nV y0.n_)])] w (fun v w' => v = (.bool (r)) ∧ Below w.heap.size w w')) :
    ConM Tryz.prog 231 [v1, fv1] w0 (slices_ContainsFunc_S_impl_Ins_impl_Ins s_ f) fun r v w' => v = (.bool (r)) ∧ Below w0.heap.size w0 w' := by
  unfold slices_ContainsFunc_S_impl_Ins_impl_Ins
  refine gcon func231 rfl fun r => ?_
  have hm := Mem.start w0
  exact gS (gR (gA rfl (gE (gS (gR (gM rfl (gM rfl (gC hm rfl call279 (slices_IndexFunc_S_impl_Ins_impl_Ins_ok _ s_ v1 (hm.now h1) f fv1 (fun w y0 z0_0 z0_1 r hB hq => hfn1 w y0 z0_0 z0_1 r (hm.below.trans (hB.mono hm.below.size)) hq)) fun r0_1 hx0_1 w hm => gB rfl (gA rfl (gE (gRt (gr1 results231 rfl ⟨rfl, hm.below⟩))))))))))))

theorem slices_Index_S_int_int_ok (w0 : World) (s_ : List Int) (v1 : Value) (h1 : GT.rep (hp w0) [v1] s_) (v_ : Int) :
    ConM Tryz.prog 157 [v1, (nV v_)] w0 (slices_Index_S_int_int s_ v_) fun r v w' => v = (nV r) ∧ Below w0.heap.size w0 w' := by
  unfold slices_Index_S_int_int
  refine gcon func157 rfl fun r => ?_
  have hm := Mem.start w0
  refine gS (gR (gA rfl (gE (gS (gS (gR (gM rfl ?_)))))))
  obtain ⟨p0_1, c0_1, rfl, hl0_1⟩ := ro_slice h1
  refine gY (yV st_37 rfl) (gM rfl (gE (gBk (gNf hm (fun i1_1 xs1_1 => [(0, (.slice p0_1 s_.length c0_1)), (1, (nV v_)), (7, (nV ((s_.length : Int)))), (8, (nV i1_1))]) (fun i1_1 xs1_1 => []) [] rfl ?_ ?_))))
  ·
   repeat clear hm
   intro r0_1 hq0_1 i1_1 xs1_1 w hm hi0_1 hi0_2 q0_1 ho0_1
   refine gS (gR (gB rfl (gE (gS (go _ 9 rfl (decide_eq_true (by omega)) (gct rfl (gSk (gS (gBk (gS (gR (gM rfl (gA rfl (gE (gS (gR (gM rfl (gM rfl (gM rfl (gg fun x1_1 h1_1 hx1_2 => ?_))))))))))))))))))))
   obtain ⟨b1_1, o1_1, c1_1, he⟩ := idx_form h1 hx1_2
   simp only [Value.slice.injEq, Option.some.injEq] at he; obtain ⟨rfl, _, rfl⟩ := he
   refine gI st_37 h1_1 (idx_lt hx1_2) rfl (gY (yl isAgg3 ((flat_cells (cs := [(nV x1_1)]) (hm.now h1) hx1_2 rfl).cell (j := 0) rfl) rfl) (gB rfl (gE (gsd 16 rfl (fun h1_2 => ?_) fun h1_2 => ?_))))
   ·
    exact gct rfl (gS (gR (gM rfl (gA rfl (gE (gRt (gLr ho0_1 hq0_1 (gr1 results157 rfl ⟨rfl, hm.below⟩))))))))
   exact gcf rfl (gSk (gR (gP (by omega) (by omega) rfl (gM rfl (gE (gze hm [] rfl))))))
  repeat clear hm
  intro i0_1 xs0_1 w hm hi0_3 hi0_4
  exact gS (gR (gB rfl (gE (gS (go _ 9 rfl (decide_eq_false (by omega)) (gcf rfl (gXt (gHh (gS (gR (gA rfl (gE (gRt (gr1 results157 rfl ⟨rfl, hm.below⟩))))))))))))))

theorem slices_Contains_S_int_int_ok (w0 : World) (s_ : List Int) (v1 : Value) (h1 : GT.rep (hp w0) [v1] s_) (v_ : Int) :
    ConM Tryz.prog 111 [v1, (nV v_)] w0 (slices_Contains_S_int_int s_ v_) fun r v w' => v = (.bool (r)) ∧ Below w0.heap.size w0 w' := by
  unfold slices_Contains_S_int_int
  refine gcon func111 rfl fun r => ?_
  have hm := Mem.start w0
  exact gS (gR (gA rfl (gE (gS (gR (gM rfl (gM rfl (gC hm rfl call157 (slices_Index_S_int_int_ok _ s_ v1 (hm.now h1) v_) fun r0_1 hx0_1 w hm => gB rfl (gA rfl (gE (gRt (gr1 results111 rfl ⟨rfl, hm.below⟩))))))))))))

theorem impl_PredsOf_ok (w0 : World) (c_ : Code_) (v1 : Value) (h1 : GT.rep (hp w0) [v1] c_.blocks) (b_ : Int) :
    ConM Tryz.prog 141 [(.agg #[(nV c_.params), (nV c_.regs), v1]), (nV b_)] w0 (impl_PredsOf c_ b_) fun r v w' => ∃ (x1 : Value), v = x1 ∧ Mem w0 (hp w0) w' [ow [x1] r] := by
  unfold impl_PredsOf
  refine gcon func141 rfl fun r => ?_
  have hm := Mem.start w0
  refine gS (gR (gBx hm rfl fun b0_1 w hm => gA rfl (gE (gS (gR (gA rfl (gE (gS (gS (gR (gM rfl (gF fo_57_2 rfl (gL hm 0 isAgg55 rfl ?_)))))))))))))
  obtain ⟨p0_1, c0_1, rfl, hl0_1⟩ := ro_slice h1
  refine gY (yV st_55 rfl) (gY (yS (by omega) (by omega) rfl) (gC hm rfl call63 (impl_within_ok _ b_ 0 (((c_.blocks.length : Int)) - 1)) fun r0_1 hx0_1 w hm => gN rfl (gE (gsn 14 rfl (fun h0_1 => ?_) fun h0_1 => ?_))))
  ·
   refine gct rfl (gS (gR (gA rfl (gE (gRt ?_)))))
   replace hm := hm.nilow (α := Int)
   exact gr1 results141 rfl ⟨(.slice none 0 0), rfl, hm.pk [0] rfl rfl⟩
  refine gcf rfl (gSk (gS (gS (gR (gF fo_57_2 rfl (gL hm 0 isAgg55 rfl (gY (yV st_55 rfl) (gM rfl (gE (gBk ?_))))))))))
  replace hm := hm.nilow (α := Int)
  refine gNg (fun i1_1 xs1_1 a w => ∃ (v1_1 : Value), St 33 [(1, (nV b_)), (5, v1_1), (16, (.slice p0_1 c_.blocks.length c0_1)), (17, (nV ((c_.blocks.length : Int)))), (18, (nV i1_1))] w0 (hp w0) [ow [v1_1] xs1_1] a w) (fun a hf => ⟨(.slice none 0 0), hf.sb rfl, hm.pk [0] rfl rfl⟩) ?_ ?_
  ·
   repeat clear hm
   rintro _ _ i1_1 xs1_1 a w ⟨v1_1, hf, hm⟩ hi0_1 hi0_2 q0_1 _
   refine gv hf (gS (gR (gB rfl (gE (gS (go _ 19 rfl (decide_eq_true (by omega)) (gct rfl (gSk (gS (gJg (fun s1_1 a w => ∃ (v1_2 : Value), St 33 [(1, (nV b_)), (5, v1_2), (16, (.slice p0_1 c_.blocks.length c0_1)), (17, (nV ((c_.blocks.length : Int)))), (18, (nV i1_1))] w0 (hp w0) [ow [v1_2] s1_1] a w) (fun s1_1 => ?_) ?_))))))))))
   ·
    refine gBk (gS (gR (gM rfl (gg fun x2_1 h2_1 hx2_2 => ?_))))
    obtain ⟨b2_1, o2_1, c2_1, he⟩ := idx_form' h1 hx2_2
    simp only [Value.slice.injEq, Option.some.injEq] at he; obtain ⟨rfl, _, rfl⟩ := he
    obtain ⟨v2_1, v2_2, v2_3, hc2_1, h2_2, h2_3, h2_4⟩ := rk_Block_ h1 hx2_2
    refine gI st_55 h2_1 (idx_lt hx2_2) rfl (gY (yn (hc2_1.mono hm.lez) isAgg104 sizeOf104 rfl) (gAl hm zeroValue104 rfl fun b2_2 w hm => gA rfl (gSN hm 0 sizeOf104 (one_cons (rep_one h2_2) (one_cons (rep_one h2_3) (one_cons rfl (one_cons rfl (one_cons (rep_one h2_4) one_nil))))) rfl fun w hm => gE (gS (gR (gF fo_104_4 rfl (gL hm 0 isAgg37 rfl (gM rfl (gC hm rfl call111 (slices_Contains_S_int_int_ok _ x2_1.next_ v2_3 (hm.now h2_4) b_) fun r2_1 hx2_3 w hm => gE (gJg (fun s2_1 a w => ∃ (v2_5 : Value), St 33 [(1, (nV b_)), (5, v2_5), (16, (sV b2_1 o2_1 c_.blocks.length c0_1)), (17, (nV ((c_.blocks.length : Int)))), (18, (nV i1_1))] w0 (hp w0) [ow [v2_5] s2_1] a w) (fun s2_1 => ?_) ?_))))))))))
    ·
     refine gs 26 rfl (fun h3_1 => ?_) fun h3_1 => ?_
     ·
      refine gct rfl (gR (gM rfl (gM rfl (gf rfl (fun a hf => e_build (vs := #[(0, (nV i1_1))]) (cs := [(nV i1_1)]) et_37 hf hm rfl rfl (by kernel_rfl) rfl rfl) ?_))))
      rintro _ w ⟨b3_1, rfl, hm⟩
      replace hm := hm.lit (xs := ([i1_1] : List Int)) 0 rfl rfl rfl rfl
      refine gb fun ys3_1 hx3_1 => ?_
      obtain ⟨h3_2, h3_2e⟩ := appM_some.1 hx3_1
      refine gf rfl (fun a hf => e_append 2 et_37 hf hm rfl (hm.ow_rep 0 rfl) rfl rfl rfl h3_2) ?_
      rintro v3_1 w hm
      rw [h3_2e] at hm
      exact gA rfl (gE (gZ fun a hf => ⟨v3_1, hf.sb rfl, hm.pk [2] rfl rfl⟩))
     exact gcf rfl (gSk (gZ fun a hf => ⟨v1_1, hf.sb rfl, hm.pk [1] rfl rfl⟩))
    repeat clear hm
    rintro s2_1 a w ⟨v2_5, hf, hm⟩
    exact gv hf (gZ fun a hf => ⟨v2_5, hf.sb rfl, hm.pk [0] rfl rfl⟩)
   repeat clear hm
   rintro s1_1 a w ⟨v1_2, hf, hm⟩
   exact gv hf (gR (gP (by omega) (by omega) rfl (gM rfl (gE (gZe fun a hf => ⟨v1_2, hf.sb rfl, hm.pk [0] rfl rfl⟩)))))
  repeat clear hm
  rintro i0_1 xs0_1 a w ⟨v0_2, hf, hm⟩ hi0_3 hi0_4
  exact gv hf (gS (gR (gB rfl (gE (gS (go _ 19 rfl (decide_eq_false (by omega)) (gcf rfl (gXt (gHh (gS (gR (gM rfl (gA rfl (gE (gRt (gr1 results141 rfl ⟨v0_2, rfl, hm.pk [0] rfl rfl⟩))))))))))))))))

theorem impl_codeOk_4_ok (w0 : World) (r_ : Int) (c0_0_ : Code_) (v1 : Value) (h1 : GT.rep (hp w0) [v1] c0_0_.blocks) (bf0_0 : Nat) (hbf0_0 : w0.heap[bf0_0]? = some (.cells ([(nV c0_0_.params), (nV c0_0_.regs), v1] : List Value).toArray 57 (0, 0))) (bf0 : Nat) (hbf0 : w0.heap[bf0]? = some (.cells ([(.func (.func 228) #[] #[(pV bf0_0)])] : List Value).toArray 68 (0, 0))) :
    ConM Tryz.prog 234 [(nV r_), (pV bf0)] w0 (impl_codeOk_4 r_ c0_0_) fun r v w' => v = (.bool (r)) ∧ Below w0.heap.size w0 w' := by
  unfold impl_codeOk_4
  refine gcon func234 rfl fun r => ?_
  have hm := Mem.start w0
  refine gS (gR (gA rfl (gE (gS (gR (gY (yl isAgg68 (hm.old_cell hbf0 rfl) rfl) (gM rfl (gb fun r0_1 hx0_1 => gf rfl (fun a hf => e_callv hf rfl rfl rfl ⟨228, [(pV bf0_0)], rfl, call228, impl_codeOk_1_ok _ r_ c0_0_ v1 (rep_later (hm.now h1) (Below.refl _ _)) bf0_0 (hm.old_later hbf0_0 (Below.refl _ _)) _ hx0_1⟩) ?_))))))))
  rintro v0_1 w ⟨rfl, hB⟩
  replace hm := hm.below' hB; clear hB
  exact gN rfl (gA rfl (gE (gRt (gr1 results234 rfl ⟨rfl, hm.below⟩))))

theorem impl_codeOk_ok (w0 : World) (u : Unit_) (v1 : Value) (h1 : GT.rep (hp w0) [v1] u.codes) (k_ : Int) :
    ConM Tryz.prog 162 [(.agg #[v1]), (nV k_)] w0 (impl_codeOk u k_) fun r v w' => v = (.bool (r)) ∧ Below w0.heap.size w0 w' := by
  unfold impl_codeOk
  refine gcon func162 rfl fun r => ?_
  have hm := Mem.start w0
  refine gS (gR (gBx hm rfl fun b0_1 w hm => gBx hm rfl fun b0_2 w hm => gA rfl (gE (gS (gR (gF fo_30_0 rfl (gL hm 1 isAgg28 rfl (gL hm 0 isAgg3 rfl (gg fun x0_1 h0_1 hx0_2 => ?_)))))))))
  obtain ⟨b0_3, o0_1, c0_1, he⟩ := idx_form' h1 hx0_2
  subst he
  obtain ⟨v0_1, hc0_1, h0_2⟩ := rk_Code_ h1 hx0_2
  refine gI st_28 h0_1 (idx_lt hx0_2) rfl (gY (yn (hc0_1.mono hm.lez) isAgg57 sizeOf57 rfl) (gAl hm zeroValue57 rfl fun b0_4 w hm => gSN hm 0 sizeOf57 (one_cons rfl (one_cons rfl (one_cons (rep_one h0_2) one_nil))) rfl fun w hm => gE (gS (gS (gJ hm (fun s0_1 => [(2, (pV b0_1)), (3, (pV b0_2)), (5, (pV b0_4)), (36, (.bool (s0_1)))]) (fun s0_1 => [blk b0_1 [(sV b0_3 o0_1 u.codes.length c0_1)] 30, blk b0_2 [(nV k_)] 3, blk b0_4 [(nV x0_1.params), (nV x0_1.regs), v0_1] 57]) (fun s0_1 => ?_) ?_)))))
  ·
   refine gR (gF fo_57_1 rfl (gL hm 0 isAgg3 rfl (gC hm rfl call63 (impl_within_ok _ x0_1.regs 0 300) fun r1_1 hx1_1 w hm => gN rfl (gM rfl (gsn 21 rfl (fun h1_1 => ?_) fun h1_1 => ?_)))))
   ·
    exact gO rfl (gO rfl (gO rfl (gO rfl (gO rfl (gO rfl (gO rfl (gKt rfl (gM rfl (gO rfl (gO rfl (gO rfl (gO rfl (gO rfl (gKt rfl (gE (gz hm [2, 1, 0] rfl))))))))))))))))
   refine gF fo_57_0 rfl (gL hm 0 isAgg3 rfl (gF fo_57_1 rfl (gL hm 0 isAgg3 rfl (gY (yG rfl (y_min rfl rfl rfl)) ?_))))
   have h1_2 : minI 3 x0_1.regs = min 3 x0_1.regs := minI_eq _ _
   refine gC hm rfl call63 (impl_within_ok _ x0_1.params 0 (minI 3 x0_1.regs)) fun r1_2 hx1_2 w hm => gN rfl (gKf rfl (gM rfl (gsn 30 rfl (fun h1_3 => ?_) fun h1_3 => ?_)))
   ·
    exact gO rfl (gO rfl (gO rfl (gO rfl (gO rfl (gKt rfl (gE (gz hm [2, 1, 0] rfl)))))))
   refine gF fo_57_2 rfl (gL hm 0 isAgg55 rfl ?_)
   obtain ⟨p1_1, c1_1, rfl, hl1_1⟩ := ro_slice h0_2
   exact gY (yV st_55 rfl) (gC hm rfl call63 (impl_within_ok _ (x0_1.blocks.length : Int) 1 160) fun r1_3 hx1_3 w hm => gN rfl (gKf rfl (gE (gz hm [2, 1, 0] rfl))))
  repeat clear hm
  intro s0_1 w hm
  refine gs 36 rfl (fun h0_3 => ?_) fun h0_3 => ?_
  ·
   exact gct rfl (gS (gR (gA rfl (gE (gRt (gr1 results162 rfl ⟨rfl, hm.below⟩))))))
  refine gcf rfl (gSk (gS (gR (gY (yU rfl) (gAl hm zeroValue68 rfl fun b0_5 w hm => gS1 hm 0 sizeOf68 rfl rfl fun w hm => gE (gS (gS (gR (gF fo_57_2 rfl (gL hm 3 isAgg55 rfl ?_))))))))))
  obtain ⟨p0_1, c0_2, rfl, hl0_1⟩ := ro_slice h0_2
  refine gY (yV st_55 rfl) (gM rfl (gE (gBk (gNf hm (fun i1_1 xs1_1 => [(2, (pV b0_1)), (3, (pV b0_2)), (5, (pV b0_4)), (6, (pV b0_5)), (39, (.slice p0_1 x0_1.blocks.length c0_2)), (40, (nV ((x0_1.blocks.length : Int)))), (41, (nV i1_1))]) (fun i1_1 xs1_1 => [blk b0_1 [(sV b0_3 o0_1 u.codes.length c0_1)] 30, blk b0_2 [(nV k_)] 3, blk b0_4 [(nV x0_1.params), (nV x0_1.regs), (.slice p0_1 x0_1.blocks.length c0_2)] 57, blk b0_5 [(.func (.func 228) #[] #[(pV b0_4)])] 68]) [1, 2, 3, 0] rfl ?_ ?_))))
  ·
   repeat clear hm
   intro r0_1 hq0_2 i1_1 xs1_1 w hm hi0_1 hi0_2 q0_1 ho0_1
   refine gS (gR (gB rfl (gE (gS (go _ 42 rfl (decide_eq_true (by omega)) (gct rfl (gSk (gS (gBk (gS (gR (gM rfl (gg fun x1_1 h1_4 hx1_5 => ?_)))))))))))))
   obtain ⟨b1_1, o1_1, c1_2, he⟩ := idx_form' h0_2 hx1_5
   simp only [Value.slice.injEq, Option.some.injEq] at he; obtain ⟨rfl, _, rfl⟩ := he
   obtain ⟨v1_4, v1_5, v1_6, hc1_1, h1_5, h1_6, h1_7⟩ := rk_Block_ h0_2 hx1_5
   refine gI st_55 h1_4 (idx_lt hx1_5) rfl (gY (yn (hc1_1.mono hm.lez) isAgg104 sizeOf104 rfl) (gAl hm zeroValue104 rfl fun b1_2 w hm => gA rfl (gSN hm 0 sizeOf104 (one_cons (rep_one h1_5) (one_cons (rep_one h1_6) (one_cons rfl (one_cons rfl (one_cons (rep_one h1_7) one_nil))))) rfl fun w hm => gE (gS (gS (gJ hm (fun s1_1 => [(2, (pV b0_1)), (3, (pV b0_2)), (5, (pV b0_4)), (6, (pV b0_5)), (7, (nV i1_1)), (8, (pV b1_2)), (39, (sV b1_1 o1_1 x0_1.blocks.length c0_2)), (40, (nV ((x0_1.blocks.length : Int)))), (41, (nV i1_1)), (75, (.bool (s1_1)))]) (fun s1_1 => [blk b0_1 [(sV b0_3 o0_1 u.codes.length c0_1)] 30, blk b0_2 [(nV k_)] 3, blk b0_4 [(nV x0_1.params), (nV x0_1.regs), (sV b1_1 o1_1 x0_1.blocks.length c0_2)] 57, blk b0_5 [(.func (.func 228) #[] #[(pV b0_4)])] 68, blk b1_2 [v1_4, v1_5, (nV x1_1.jump), (nV x1_1.on), v1_6] 104]) (fun s1_1 => ?_) ?_))))))
   ·
    refine gW (.p 0 (.p 3 (.q 1 (.p 2 (.e 4 (.e 5 (.p 6 (.p 7 (.p 8 (.e 9 (.e 10 (.p 11 (.p 13 (.q 12 (.e 14 (.e 15 (.p 16 (.p 17 (.p 18 (.p 19 (.p 20 (.e 21 (.e 22 (.p 23 (.p 24 (.p 25 (.e 26 (.p 27 (.p 28 (.p 29 .fin))) .nil)))) .nil) .nil)))))) .nil) .nil)))) .nil) .nil)))) .nil) .nil))))) [4, 5, 14] [0, 2, 3, 6, 7, 8, 11, 13, 16, 17, 18, 19, 20, 23, 24, 25, 27, 28, 29] hm [0, 1, 2, 3, 4] [blk b1_2 [v1_4, v1_5, (nV x1_1.jump), (nV x1_1.on), v1_6] 104, blk b0_1 [(sV b0_3 o0_1 u.codes.length c0_1)] 30, blk b0_2 [(nV k_)] 3, blk b0_4 [(nV x0_1.params), (nV x0_1.regs), (sV b1_1 o1_1 x0_1.blocks.length c0_2)] 57, blk b0_5 [(.func (.func 228) #[] #[(pV b0_4)])] 68] rfl mxo (by kernel_rfl) (fun _ _ _ h => h.2) fun w hm hS => tP rfl (fun w => yF fo_104_4 rfl) (tP rfl (fun w => yF fo_104_2 rfl) (tQ rfl hS (fun w hm => yL hm 0 isAgg37 rfl) ?_))
    obtain ⟨p2_1, c2_1, rfl, hl2_1⟩ := ro_slice h1_7
    refine tP rfl (fun w => yV st_37 rfl) (tO (tY rfl (yL hm 0 isAgg3 rfl) (tAs hS (tO (gb fun r2_1 hx2_1 => tf rfl rfl (fun a hf => e_call hf rfl call229 rfl (impl_nextCount_ok _ x1_1.jump _ hx2_1)) ?_)))))
    rintro v2_1 w ⟨rfl, hB⟩
    replace hm := hm.below' hB; clear hB
    refine tAk hm [0, 1, 2, 3, 4] rfl fun hS => tP rfl (fun w => yB rfl) (tP rfl (fun w => yM rfl) (gsd 53 rfl (fun h2_1 => ?_) fun h2_1 => ?_))
    ·
     refine tPo rfl rfl (tO (tEo rfl rfl (tAn rfl (tO (tEo rfl rfl (tAn rfl (tPo rfl rfl (tPo rfl rfl (tQo rfl hS rfl (tO (tEo rfl rfl (tAs hS (tO (tEo rfl rfl (tAn rfl (tPo rfl rfl (tPo rfl rfl (tP rfl (fun w => yKt rfl) (tP rfl (fun w => yM rfl) (tPo rfl rfl (tO (tEo rfl rfl (tAn rfl (tO (tEo rfl rfl (tAn rfl (tPo rfl rfl (tPo rfl rfl (tPo rfl rfl (tO ?_))))))))))))))))))))))))))))))
     exact tEo rfl rfl (tAn rfl (tPo rfl rfl (tPo rfl rfl (tP rfl (fun w => yKt rfl) (tE (gz hm [1, 2, 3, 4, 0] rfl))))))
    refine tP rfl (fun w => yF fo_104_2 rfl) (tO (tY rfl (yL hm 0 isAgg3 rfl) (tAn rfl (tO (gb fun r2_2 hx2_2 => tf rfl rfl (fun a hf => e_call hf rfl call144 rfl (impl_usesOn_ok _ x1_1.jump _ hx2_2)) ?_)))))
    rintro v2_2 w ⟨rfl, hB⟩
    replace hm := hm.below' hB; clear hB
    refine tAk hm [0, 1, 2, 3, 4] rfl fun hS => tP rfl (fun w => yM rfl) (gs 57 rfl (fun h2_2 => ?_) fun h2_2 => ?_)
    ·
     refine tP rfl (fun w => yF fo_104_3 rfl) (tQ rfl hS (fun w hm => yL hm 4 isAgg68 rfl) (tO (tY rfl (yL hm 0 isAgg3 rfl) (tAs hS (tO (gb fun r2_3 hx2_3 => tf rfl rfl (fun a hf => e_callv hf rfl rfl rfl ⟨228, [(pV b0_4)], rfl, call228, impl_codeOk_1_ok _ x1_1.on x0_1 (sV b1_1 o1_1 x0_1.blocks.length c0_2) (rep_later (hm.now h0_2) (Below.refl _ _)) b0_4 (hm.blk_later 3 rfl (Below.refl _ _)) _ hx2_3⟩) ?_))))))
     rintro v2_3 w ⟨rfl, hB⟩
     replace hm := hm.below' hB; clear hB
     refine tAn rfl (tP rfl (fun w => yN rfl) (tP rfl (fun w => yKt rfl) (tP rfl (fun w => yKf rfl) (tP rfl (fun w => yM rfl) (gsn 65 rfl (fun h2_3 => ?_) fun h2_3 => ?_)))))
     ·
      exact tPo rfl rfl (tO (tEo rfl rfl (tAn rfl (tO (tEo rfl rfl (tAn rfl (tPo rfl rfl (tPo rfl rfl (tPo rfl rfl (tO (tEo rfl rfl (tAn rfl (tPo rfl rfl (tPo rfl rfl (tP rfl (fun w => yKt rfl) (tE (gz hm [1, 2, 3, 4, 0] rfl)))))))))))))))))
     refine tP rfl (fun w => yF fo_104_2 rfl) (tO (tY rfl (yL hm 0 isAgg3 rfl) (tAn rfl (tO (gb fun r2_4 hx2_4 => tf rfl rfl (fun a hf => e_call hf rfl call144 rfl (impl_usesOn_ok _ x1_1.jump _ hx2_4)) ?_)))))
     rintro v2_4 w ⟨rfl, hB⟩
     replace hm := hm.below' hB; clear hB
     refine tAn rfl (tP rfl (fun w => yN rfl) (tP rfl (fun w => yM rfl) (gsn 70 rfl (fun h2_4 => ?_) fun h2_4 => ?_)))
     ·
      exact tP rfl (fun w => yF fo_104_3 rfl) (tO (tY rfl (yL hm 0 isAgg3 rfl) (tAn rfl (tP rfl (fun w => yB rfl) (tP rfl (fun w => yKt rfl) (tP rfl (fun w => yKf rfl) (tE (gz hm [1, 2, 3, 4, 0] rfl))))))))
     exact tPo rfl rfl (tO (tEo rfl rfl (tAn rfl (tPo rfl rfl (tP rfl (fun w => yKf rfl) (tP rfl (fun w => yKf rfl) (tE (gz hm [1, 2, 3, 4, 0] rfl))))))))
    refine tPo rfl rfl (tQo rfl hS rfl (tO (tEo rfl rfl (tAs hS (tO (tEo rfl rfl (tAn rfl (tPo rfl rfl (tP rfl (fun w => yKf rfl) (tP rfl (fun w => yKf rfl) (tP rfl (fun w => yM rfl) (tP rfl (fun w => yF fo_104_2 rfl) (tO (tY rfl (yL hm 0 isAgg3 rfl) (tAn rfl (tO (gb fun r2_5 hx2_5 => tf rfl rfl (fun a hf => e_call hf rfl call144 rfl (impl_usesOn_ok _ x1_1.jump _ hx2_5)) ?_)))))))))))))))))
    rintro v2_5 w ⟨rfl, hB⟩
    replace hm := hm.below' hB; clear hB
    refine tAn rfl (tP rfl (fun w => yN rfl) (tP rfl (fun w => yM rfl) (gsn 70 rfl (fun h2_5 => ?_) fun h2_5 => ?_)))
    ·
     exact tP rfl (fun w => yF fo_104_3 rfl) (tO (tY rfl (yL hm 0 isAgg3 rfl) (tAn rfl (tP rfl (fun w => yB rfl) (tP rfl (fun w => yKt rfl) (tP rfl (fun w => yKf rfl) (tE (gz hm [1, 2, 3, 4, 0] rfl))))))))
    exact tPo rfl rfl (tO (tEo rfl rfl (tAn rfl (tPo rfl rfl (tP rfl (fun w => yKf rfl) (tP rfl (fun w => yKf rfl) (tE (gz hm [1, 2, 3, 4, 0] rfl))))))))
   repeat clear hm
   intro s1_1 w hm
   refine gs 75 rfl (fun h1_8 => ?_) fun h1_8 => ?_
   ·
    exact gct rfl (gS (gR (gA rfl (gE (gRt (gLr ho0_1 hq0_2 (gr1 results162 rfl ⟨rfl, hm.below⟩)))))))
   refine gcf rfl (gSk (gS (gS (gJ hm (fun s1_2 => [(2, (pV b0_1)), (3, (pV b0_2)), (5, (pV b0_4)), (6, (pV b0_5)), (7, (nV i1_1)), (8, (pV b1_2)), (39, (sV b1_1 o1_1 x0_1.blocks.length c0_2)), (40, (nV ((x0_1.blocks.length : Int)))), (41, (nV i1_1)), (85, (.bool (s1_2)))]) (fun s1_2 => [blk b0_1 [(sV b0_3 o0_1 u.codes.length c0_1)] 30, blk b0_2 [(nV k_)] 3, blk b0_4 [(nV x0_1.params), (nV x0_1.regs), (sV b1_1 o1_1 x0_1.blocks.length c0_2)] 57, blk b0_5 [(.func (.func 228) #[] #[(pV b0_4)])] 68, blk b1_2 [v1_4, v1_5, (nV x1_1.jump), (nV x1_1.on), v1_6] 104]) (fun s1_2 => ?_) ?_))))
   ·
    refine gR (gF fo_104_4 rfl (gL hm 4 isAgg37 rfl (gY (yU rfl) (gC hm rfl call57 (slices_ContainsFunc_S_int_int_ok _ x1_1.next_ v1_6 (hm.now h1_7) (fun y0 => impl_codeOk_2 y0 x0_1) (.func (.func 230) #[] #[(pV b0_4)]) (fun w y0 r hB hq => ⟨230, [(pV b0_4)], rfl, call230, impl_codeOk_2_ok w y0 x0_1 (sV b1_1 o1_1 x0_1.blocks.length c0_2) (rep_later (hm.now h0_2) hB) b0_4 (hm.blk_later 2 rfl hB) r hq⟩)) fun r2_6 hx2_6 w hm => gM rfl (gs 80 rfl (fun h2_6 => ?_) fun h2_6 => ?_)))))
    ·
     exact gO rfl (gO rfl (gO rfl (gO rfl (gKt rfl (gE (gz hm [0, 1, 2, 3, 4] rfl))))))
    exact gF fo_104_1 rfl (gL hm 4 isAgg102 rfl (gY (yU rfl) (gC hm rfl call231 (slices_ContainsFunc_S_impl_Ins_impl_Ins_ok _ x1_1.ins v1_5 (hm.now h1_6) (fun y0 => impl_codeOk_3 y0 u k_) (.func (.func 232) #[] #[(pV b0_1), (pV b0_2)]) (fun w y0 z0_0 z0_1 r hB hq => ⟨232, [(pV b0_1), (pV b0_2)], rfl, call232, impl_codeOk_3_ok w y0 z0_0 z0_1 u (sV b0_3 o0_1 u.codes.length c0_1) (rep_later (hm.now h1) hB) b0_1 (hm.blk_later 0 rfl hB) k_ b0_2 (hm.blk_later 1 rfl hB) r hq⟩)) fun r2_7 hx2_7 w hm => gKf rfl (gE (gz hm [0, 1, 2, 3, 4] rfl)))))
   repeat clear hm
   intro s1_2 w hm
   refine gs 85 rfl (fun h1_9 => ?_) fun h1_9 => ?_
   ·
    exact gct rfl (gS (gR (gA rfl (gE (gRt (gLr ho0_1 hq0_2 (gr1 results162 rfl ⟨rfl, hm.below⟩)))))))
   refine gcf rfl (gSk (gS (gR (gY (yn (hm.blk_at 2 rfl) isAgg57 sizeOf57 rfl) (gM rfl (gCg rfl call141 (impl_PredsOf_ok _ x0_1 (sV b1_1 o1_1 x0_1.blocks.length c0_2) (hm.now h0_2) i1_1) ?_))))))
   rintro r1_4 hx1_6 v1_7 w ⟨_, rfl, hB⟩
   replace hm := hm.give hB; clear hB
   obtain ⟨p1_2, c1_3, rfl, hl1_2⟩ := ro_slice (hm.ow_rep 0 rfl)
   refine gY (yV st_37 rfl) (gA rfl (gE (gS (gR (gF fo_104_0 rfl (gL hm 5 isAgg101 rfl ?_))))))
   obtain ⟨p1_3, c1_4, rfl, hl1_3⟩ := ro_slice h1_5
   refine gY (yV st_101 rfl) (gM rfl (gE (gBk (gNf hm (fun i2_1 xs2_1 => [(2, (pV b0_1)), (3, (pV b0_2)), (5, (pV b0_4)), (6, (pV b0_5)), (7, (nV i1_1)), (9, (nV ((r1_4.length : Int)))), (39, (sV b1_1 o1_1 x0_1.blocks.length c0_2)), (40, (nV ((x0_1.blocks.length : Int)))), (41, (nV i1_1)), (91, (.slice p1_3 x1_1.phis.length c1_4)), (92, (nV ((x1_1.phis.length : Int)))), (93, (nV i2_1))]) (fun i2_1 xs2_1 => [blk b0_1 [(sV b0_3 o0_1 u.codes.length c0_1)] 30, blk b0_2 [(nV k_)] 3, blk b0_4 [(nV x0_1.params), (nV x0_1.regs), (sV b1_1 o1_1 x0_1.blocks.length c0_2)] 57, blk b0_5 [(.func (.func 228) #[] #[(pV b0_4)])] 68]) [1, 2, 3, 4] rfl ?_ ?_))))
   ·
    repeat clear hm
    intro r1_5 hq1_3 i2_1 xs2_1 w hm hi1_1 hi1_2 q1_1 ho1_5
    refine gS (gR (gB rfl (gE (gS (go _ 94 rfl (decide_eq_true (by omega)) (gct rfl (gSk (gS (gBk (gS (gR (gg fun x2_1 h2_7 hx2_9 => ?_))))))))))))
    obtain ⟨b2_1, o2_1, c2_2, he⟩ := idx_form' h1_5 hx2_9
    simp only [Value.slice.injEq, Option.some.injEq] at he; obtain ⟨rfl, _, rfl⟩ := he
    obtain ⟨v2_8, hc2_1, h2_8⟩ := rk_Phi_ h1_5 hx2_9
    refine gI st_101 h2_7 (idx_lt hx2_9) rfl (gY (yn (hc2_1.mono hm.lez) isAgg143 sizeOf143 rfl) (gAl hm zeroValue143 rfl fun b2_2 w hm => gSN hm 0 sizeOf143 (one_cons rfl (one_cons (rep_one h2_8) one_nil)) rfl fun w hm => gE (gS (gJ hm (fun s2_1 => [(2, (pV b0_1)), (3, (pV b0_2)), (5, (pV b0_4)), (6, (pV b0_5)), (7, (nV i1_1)), (9, (nV ((r1_4.length : Int)))), (39, (sV b1_1 o1_1 x0_1.blocks.length c0_2)), (40, (nV ((x0_1.blocks.length : Int)))), (41, (nV i1_1)), (91, (sV b2_1 o2_1 x1_1.phis.length c1_4)), (92, (nV ((x1_1.phis.length : Int)))), (93, (nV i2_1)), (118, (.bool (s2_1)))]) (fun s2_1 => [blk b0_1 [(sV b0_3 o0_1 u.codes.length c0_1)] 30, blk b0_2 [(nV k_)] 3, blk b0_4 [(nV x0_1.params), (nV x0_1.regs), (sV b1_1 o1_1 x0_1.blocks.length c0_2)] 57, blk b0_5 [(.func (.func 228) #[] #[(pV b0_4)])] 68]) (fun s2_1 => ?_) ?_))))
    ·
     refine gR (gM rfl (gB rfl (gM rfl (gsd 99 rfl (fun h3_1 => ?_) fun h3_1 => ?_))))
     ·
      exact gO rfl (gO rfl (gO rfl (gO rfl (gO rfl (gKt rfl (gM rfl (gO rfl (gO rfl (gO rfl (gO rfl (gO rfl (gKt rfl (gM rfl (gO rfl (gO rfl (gO rfl (gO rfl (gKt rfl (gE (gz hm [1, 2, 3, 4] rfl))))))))))))))))))))
     refine gL hm 4 isAgg68 rfl (gF fo_143_0 rfl (gL hm 0 isAgg3 rfl (gb fun r3_1 hx3_1 => gf rfl (fun a hf => e_callv hf rfl rfl rfl ⟨228, [(pV b0_4)], rfl, call228, impl_codeOk_1_ok _ x2_1.to x0_1 (sV b1_1 o1_1 x0_1.blocks.length c0_2) (rep_later (hm.now h0_2) (Below.refl _ _)) b0_4 (hm.blk_later 3 rfl (Below.refl _ _)) _ hx3_1⟩) ?_)))
     rintro v3_1 w ⟨rfl, hB⟩
     replace hm := hm.below' hB; clear hB
     refine gN rfl (gKf rfl (gM rfl (gsn 106 rfl (fun h3_2 => ?_) fun h3_2 => ?_)))
     ·
      exact gO rfl (gO rfl (gO rfl (gO rfl (gO rfl (gKt rfl (gM rfl (gO rfl (gO rfl (gO rfl (gO rfl (gKt rfl (gE (gz hm [1, 2, 3, 4] rfl)))))))))))))
     refine gF fo_143_1 rfl (gL hm 0 isAgg37 rfl ?_)
     obtain ⟨p3_1, c3_1, rfl, hl3_1⟩ := ro_slice h2_8
     refine gY (yV st_37 rfl) (gM rfl (gB rfl (gKf rfl (gM rfl (gsd 113 rfl (fun h3_3 => ?_) fun h3_3 => ?_)))))
     ·
      exact gO rfl (gO rfl (gO rfl (gO rfl (gKt rfl (gE (gz hm [1, 2, 3, 4] rfl))))))
     exact gF fo_143_1 rfl (gL hm 0 isAgg37 rfl (gY (yU rfl) (gC hm rfl call57 (slices_ContainsFunc_S_int_int_ok _ x2_1.args (.slice p3_1 x2_1.args.length c3_1) (hm.now h2_8) (fun y0 => impl_codeOk_4 y0 x0_1) (.func (.func 234) #[] #[(pV b0_5)]) (fun w y0 r hB hq => ⟨234, [(pV b0_5)], rfl, call234, impl_codeOk_4_ok w y0 x0_1 (sV b1_1 o1_1 x0_1.blocks.length c0_2) (rep_later (hm.now h0_2) hB) b0_4 (hm.blk_later 3 rfl hB) b0_5 (hm.blk_later 4 rfl hB) r hq⟩)) fun r3_2 hx3_2 w hm => gKf rfl (gE (gz hm [1, 2, 3, 4] rfl)))))
    repeat clear hm
    intro s2_1 w hm
    refine gs 118 rfl (fun h2_9 => ?_) fun h2_9 => ?_
    ·
     exact gct rfl (gS (gR (gA rfl (gE (gRt (gLr ho1_5 hq1_3 (gLr ho0_1 hq0_2 (gr1 results162 rfl ⟨rfl, hm.below⟩))))))))
    exact gcf rfl (gSk (gR (gP (by omega) (by omega) rfl (gM rfl (gE (gze hm [0, 1, 2, 3] rfl))))))
   repeat clear hm
   intro i1_2 xs1_2 w hm hi1_3 hi1_4
   exact gS (gR (gB rfl (gE (gS (go _ 94 rfl (decide_eq_false (by omega)) (gcf rfl (gXt (gHh (gR (gP (by omega) (by omega) rfl (gM rfl (gE (gze hm [0, 1, 2, 3] rfl)))))))))))))
  repeat clear hm
  intro i0_1 xs0_1 w hm hi0_3 hi0_4
  exact gS (gR (gB rfl (gE (gS (go _ 42 rfl (decide_eq_false (by omega)) (gcf rfl (gXt (gHh (gS (gR (gA rfl (gE (gRt (gr1 results162 rfl ⟨rfl, hm.below⟩))))))))))))))

theorem impl_codeCount_ok (w0 : World) (c_ : Code_) (v1 : Value) (h1 : GT.rep (hp w0) [v1] c_.blocks) :
    ConM Tryz.prog 128 [(.agg #[(nV c_.params), (nV c_.regs), v1])] w0 (impl_codeCount c_) fun r v w' => v = (nV r) ∧ Below w0.heap.size w0 w' := by
  unfold impl_codeCount
  refine gcon func128 rfl fun r => ?_
  have hm := Mem.start w0
  refine gS (gR (gBx hm rfl fun b0_1 w hm => gA rfl (gE (gS (gR (gA rfl (gE (gS (gS (gR (gF fo_57_2 rfl (gL hm 0 isAgg55 rfl ?_))))))))))))
  obtain ⟨p0_1, c0_1, rfl, hl0_1⟩ := ro_slice h1
  refine gY (yV st_55 rfl) (gM rfl (gE (gBk (gNf hm (fun i1_1 xs1_1 => [(3, (nV xs1_1)), (7, (.slice p0_1 c_.blocks.length c0_1)), (8, (nV ((c_.blocks.length : Int)))), (9, (nV i1_1))]) (fun i1_1 xs1_1 => []) [] rfl ?_ ?_))))
  ·
   repeat clear hm
   intro _ _ i1_1 xs1_1 w hm hi0_1 hi0_2 q0_1 _
   refine gS (gR (gB rfl (gE (gS (go _ 10 rfl (decide_eq_true (by omega)) (gct rfl (gSk (gS (gBk (gS (gR (gg fun x1_1 h1_1 hx1_2 => ?_))))))))))))
   obtain ⟨b1_1, o1_1, c1_1, he⟩ := idx_form' h1 hx1_2
   simp only [Value.slice.injEq, Option.some.injEq] at he; obtain ⟨rfl, _, rfl⟩ := he
   obtain ⟨v1_1, v1_2, v1_3, hc1_1, h1_2, h1_3, h1_4⟩ := rk_Block_ h1 hx1_2
   refine gI st_55 h1_1 (idx_lt hx1_2) rfl (gY (yn (hc1_1.mono hm.lez) isAgg104 sizeOf104 rfl) (gAl hm zeroValue104 rfl fun b1_2 w hm => gSN hm 0 sizeOf104 (one_cons (rep_one h1_2) (one_cons (rep_one h1_3) (one_cons rfl (one_cons rfl (one_cons (rep_one h1_4) one_nil))))) rfl fun w hm => gE (gR (gM rfl (gF fo_104_0 rfl (gL hm 0 isAgg101 rfl ?_))))))
   obtain ⟨p1_1, c1_2, rfl, hl1_1⟩ := ro_slice h1_2
   refine gY (yV st_101 rfl) (gF fo_104_1 rfl (gL hm 0 isAgg102 rfl ?_))
   obtain ⟨p1_2, c1_3, rfl, hl1_2⟩ := ro_slice h1_3
   exact gY (yV st_102 rfl) (gP (by omega) (by omega) rfl (gB rfl (gA rfl (gE (gR (gP (by omega) (by omega) rfl (gM rfl (gE (gze hm [] rfl)))))))))
  repeat clear hm
  intro i0_1 xs0_1 w hm hi0_3 hi0_4
  exact gS (gR (gB rfl (gE (gS (go _ 10 rfl (decide_eq_false (by omega)) (gcf rfl (gXt (gHh (gS (gR (gM rfl (gA rfl (gE (gRt (gr1 results128 rfl ⟨rfl, hm.below⟩)))))))))))))))

end Go.Proofs.YtpllkdbmgcmklaaGreat
