/- A part of the proof of FnExactReadProgramCardSaid. -/
import Derived.Test.YtjccffpccjdmgaaGreatDoorRgModels
import Derived.Test.YtjccffpccjdmgaaGreatDoorChecked
import Derived.Test.YtjccffpccjdmgaaGreatDoorRgLays
import Derived.Test.YtjccffpccjdmgaaGreatDoorWkAd
namespace Go.Proofs.YtjccffpccjdmgaaGreatDoor
open Go Go.Wk Go.RowKit
set_option maxRecDepth 4000
set_option maxHeartbeats 4000000
open Tryz
theorem mxo : Tryz.prog.follows .mixedOrders = true := by kernel_rfl
theorem fo_24_0 : FieldOff Tryz.prog 24 0 0 := by have h := FieldOff.mk (k := 0) underlying24 rfl sizeOf3; exact h
theorem fo_24_1 : FieldOff Tryz.prog 24 1 1 := by have h := FieldOff.mk (k := 1) underlying24 rfl sizeOf3; exact h
theorem fo_24_2 : FieldOff Tryz.prog 24 2 2 := by have h := FieldOff.mk (k := 2) underlying24 rfl sizeOf9; exact h
theorem fo_24_3 : FieldOff Tryz.prog 24 3 3 := by have h := FieldOff.mk (k := 3) underlying24 rfl sizeOf22; exact h
theorem fo_46_0 : FieldOff Tryz.prog 46 0 0 := by have h := FieldOff.mk (k := 0) underlying46 rfl sizeOf44; exact h
theorem fo_56_0 : FieldOff Tryz.prog 56 0 0 := by have h := FieldOff.mk (k := 0) underlying56 rfl sizeOf3; exact h
theorem fo_56_1 : FieldOff Tryz.prog 56 1 1 := by have h := FieldOff.mk (k := 1) underlying56 rfl sizeOf9; exact h
theorem fo_63_0 : FieldOff Tryz.prog 63 0 0 := by have h := FieldOff.mk (k := 0) underlying63 rfl sizeOf41; exact h
theorem fo_63_1 : FieldOff Tryz.prog 63 1 1 := by have h := FieldOff.mk (k := 1) underlying63 rfl sizeOf4; exact h
theorem fo_91_0 : FieldOff Tryz.prog 91 0 0 := by have h := FieldOff.mk (k := 0) underlying91 rfl sizeOf41; exact h
theorem fo_91_1 : FieldOff Tryz.prog 91 1 1 := by have h := FieldOff.mk (k := 1) underlying91 rfl sizeOf3; exact h
theorem fo_94_0 : FieldOff Tryz.prog 94 0 0 := by have h := FieldOff.mk (k := 0) underlying94 rfl sizeOf9; exact h
theorem fo_94_1 : FieldOff Tryz.prog 94 1 1 := by have h := FieldOff.mk (k := 1) underlying94 rfl sizeOf74; exact h
theorem fo_94_2 : FieldOff Tryz.prog 94 2 2 := by have h := FieldOff.mk (k := 2) underlying94 rfl sizeOf92; exact h
theorem fo_105_0 : FieldOff Tryz.prog 105 0 0 := by have h := FieldOff.mk (k := 0) underlying105 rfl sizeOf3; exact h
theorem fo_105_1 : FieldOff Tryz.prog 105 1 1 := by have h := FieldOff.mk (k := 1) underlying105 rfl sizeOf9; exact h
theorem fo_105_2 : FieldOff Tryz.prog 105 2 2 := by have h := FieldOff.mk (k := 2) underlying105 rfl sizeOf22; exact h
theorem fo_105_3 : FieldOff Tryz.prog 105 3 3 := by have h := FieldOff.mk (k := 3) underlying105 rfl sizeOf92; exact h
theorem fo_105_4 : FieldOff Tryz.prog 105 4 4 := by have h := FieldOff.mk (k := 4) underlying105 rfl sizeOf92; exact h
theorem fo_120_0 : FieldOff Tryz.prog 120 0 0 := by have h := FieldOff.mk (k := 0) underlying120 rfl sizeOf9; exact h
theorem fo_120_1 : FieldOff Tryz.prog 120 1 1 := by have h := FieldOff.mk (k := 1) underlying120 rfl sizeOf3; exact h
theorem st_22 : SliceTy Tryz.prog 22 24 4 := ⟨underlying22, sizeOf24⟩
theorem st_41 : SliceTy Tryz.prog 41 56 2 := ⟨underlying41, sizeOf56⟩
theorem st_44 : SliceTy Tryz.prog 44 94 3 := ⟨underlying44, sizeOf94⟩
theorem st_74 : SliceTy Tryz.prog 74 9 1 := ⟨underlying74, sizeOf9⟩
theorem st_92 : SliceTy Tryz.prog 92 105 5 := ⟨underlying92, sizeOf105⟩
theorem et_22 : ElemTy Tryz.prog 22 24 4 (.agg #[(.int .i64 (0)), (.int .i64 (0)), (.string ⟨((mkS [])).b.toArray⟩), (.slice none 0 0)]) := ⟨underlying22, ⟨_, (by kernel_rfl : Tryz.prog.info? 24 = some t24), rfl, by decide, rfl⟩, rfl, by decide⟩
theorem et_30 : ElemTy Tryz.prog 30 5 1 (.int .u8 (((0 : UInt8)).toNat : Int)) := ⟨underlying30, ⟨_, (by kernel_rfl : Tryz.prog.info? 5 = some t5), rfl, by decide, rfl⟩, rfl, by decide⟩
theorem et_41 : ElemTy Tryz.prog 41 56 2 (.agg #[(.int .i64 (0)), (.string ⟨((mkS [])).b.toArray⟩)]) := ⟨underlying41, ⟨_, (by kernel_rfl : Tryz.prog.info? 56 = some t56), rfl, by decide, rfl⟩, rfl, by decide⟩
theorem et_44 : ElemTy Tryz.prog 44 94 3 (.agg #[(.string ⟨((mkS [])).b.toArray⟩), (.slice none 0 0), (.slice none 0 0)]) := ⟨underlying44, ⟨_, (by kernel_rfl : Tryz.prog.info? 94 = some t94), rfl, by decide, rfl⟩, rfl, by decide⟩
theorem et_74 : ElemTy Tryz.prog 74 9 1 (.string ⟨((mkS [])).b.toArray⟩) := ⟨underlying74, ⟨_, (by kernel_rfl : Tryz.prog.info? 9 = some t9), rfl, by decide, rfl⟩, rfl, by decide⟩
theorem et_92 : ElemTy Tryz.prog 92 105 5 (.agg #[(.int .i64 (0)), (.string ⟨((mkS [])).b.toArray⟩), (.slice none 0 0), (.slice none 0 0), (.slice none 0 0)]) := ⟨underlying92, ⟨_, (by kernel_rfl : Tryz.prog.info? 105 = some t105), rfl, by decide, rfl⟩, rfl, by decide⟩
theorem spec_l30Find_ok (w0 : World) (s_ : Str) (c_ : UInt8) :
    ConM Tryz.prog 153 [(.string ⟨(s_).b.toArray⟩), (.int .u8 ((c_).toNat : Int))] w0 (spec_l30Find s_ c_) fun r v w' => v = (nV r) ∧ Below w0.heap.size w0 w' := by
  unfold spec_l30Find
  refine gcon func153 rfl fun r => ?_
  have hm := Mem.start w0
  refine gS (gR (gA rfl (gE (gS (gS (gR (gA rfl (gE (gBk (gNf hm (fun aA aB => [(0, (.string ⟨(s_).b.toArray⟩)), (1, (.int .u8 ((c_).toNat : Int))), (5, (nV aA))]) (fun aA aB => []) [] rfl ?_ ?_))))))))))
  ·
   repeat clear hm
   intro aI aC aA aB w hm aJ aK aL aD
   refine gS (gS (gR (gM rfl (gM rfl (gY (yG rfl (y_len_str (p := s_) underlying9 rfl rfl)) ?_)))))
   have aM := (s_).h
   refine gB rfl (gE (go _ 9 rfl (decide_eq_true (by omega)) (gct rfl (gSk (gS (gBk (gS (gR (gM rfl (gM rfl (gg fun aE aF aG => gY (yG rfl (y_idx_str (p := s_) underlying9 rfl rfl rfl aF aG)) (gM rfl (gY (yG rfl (y_eql8 (b := aE) (c := c_) rfl rfl rfl)) (gE (gsd 16 rfl (fun aH => ?_) fun aH => ?_)))))))))))))))
   ·
    exact gct rfl (gS (gR (gM rfl (gA rfl (gE (gRt (gLr aD aC (gr1 results153 rfl ⟨rfl, hm.below⟩))))))))
   exact gcf rfl (gSk (gR (gM rfl (gP (by omega) (by omega) rfl (gA rfl (gE (gze hm [] rfl)))))))
  repeat clear hm
  intro aN aO w hm aP aQ
  refine gS (gS (gR (gM rfl (gM rfl (gY (yG rfl (y_len_str (p := s_) underlying9 rfl rfl)) ?_)))))
  have aR := (s_).h
  exact gB rfl (gE (go _ 9 rfl (decide_eq_false (by omega)) (gcf rfl (gXt (gHh (gS (gR (gA rfl (gE (gRt (gr1 results153 rfl ⟨rfl, hm.below⟩)))))))))))
theorem spec_l1Class_ok (w0 : World) (b_ : UInt8) :
    ConM Tryz.prog 99 [(.int .u8 ((b_).toNat : Int))] w0 (spec_l1Class b_) fun r v w' => v = (nV r) ∧ Below w0.heap.size w0 w' := by
  unfold spec_l1Class
  refine gcon func99 rfl fun r => ?_
  have hm := Mem.start w0
  refine gS (gR (gA rfl (gE (gS (gBk (gS (gJ hm (fun aA => [(0, (.int .u8 ((b_).toNat : Int))), (3, (.bool (aA)))]) (fun aA => []) (fun aA => ?_) ?_)))))))
  ·
   refine gR (gM rfl (gY (yG rfl (y_geq8 (b := b_) (c := (97 : UInt8)) rfl rfl rfl)) (gM rfl (gsd 6 rfl (fun aD => ?_) fun aD => ?_))))
   ·
    exact gM rfl (gY (yG rfl (y_leq8 (b := b_) (c := (122 : UInt8)) rfl rfl rfl)) (gKt rfl (gA rfl (gE (gz hm [] rfl)))))
   exact gO rfl (gO rfl (gKf rfl (gA rfl (gE (gz hm [] rfl)))))
  repeat clear hm
  intro aA w hm
  refine gs 3 rfl (fun aE => ?_) fun aE => ?_
  ·
   exact gct rfl (gS (gR (gA rfl (gE (gRt (gr1 results99 rfl ⟨rfl, hm.below⟩))))))
  refine gcf rfl (gS (gJ hm (fun aB => [(0, (.int .u8 ((b_).toNat : Int))), (10, (.bool (aB)))]) (fun aB => []) (fun aB => ?_) ?_))
  ·
   refine gR (gM rfl (gY (yG rfl (y_geq8 (b := b_) (c := (48 : UInt8)) rfl rfl rfl)) (gM rfl (gsd 13 rfl (fun aF => ?_) fun aF => ?_))))
   ·
    exact gM rfl (gY (yG rfl (y_leq8 (b := b_) (c := (57 : UInt8)) rfl rfl rfl)) (gKt rfl (gA rfl (gE (gz hm [] rfl)))))
   exact gO rfl (gO rfl (gKf rfl (gA rfl (gE (gz hm [] rfl)))))
  repeat clear hm
  intro aB w hm
  refine gs 10 rfl (fun aG => ?_) fun aG => ?_
  ·
   exact gct rfl (gS (gR (gA rfl (gE (gRt (gr1 results99 rfl ⟨rfl, hm.below⟩))))))
  refine gcf rfl (gS (gR (gM rfl (gC hm rfl call153 (spec_l30Find_ok _ (mkS [40, 41, 123, 125, 59, 44, 43, 45, 42, 47, 37, 60, 61, 38, 33, 64]) b_) fun aK aL w hm => gB rfl (gA rfl (gE (gsd 17 rfl (fun aH => ?_) fun aH => ?_)))))))
  ·
   exact gct rfl (gS (gR (gA rfl (gE (gRt (gr1 results99 rfl ⟨rfl, hm.below⟩))))))
  refine gcf rfl (gS (gJ hm (fun aC => [(21, (.bool (aC)))]) (fun aC => []) (fun aC => ?_) ?_))
  ·
   refine gR (gM rfl (gY (yG rfl (y_eql8 (b := b_) (c := (32 : UInt8)) rfl rfl rfl)) (gM rfl (gsd 24 rfl (fun aI => ?_) fun aI => ?_))))
   ·
    exact gO rfl (gO rfl (gKt rfl (gA rfl (gE (gz hm [] rfl)))))
   exact gM rfl (gY (yG rfl (y_eql8 (b := b_) (c := (10 : UInt8)) rfl rfl rfl)) (gKf rfl (gA rfl (gE (gz hm [] rfl)))))
  repeat clear hm
  intro aC w hm
  refine gs 21 rfl (fun aJ => ?_) fun aJ => ?_
  ·
   exact gct rfl (gS (gR (gA rfl (gE (gRt (gr1 results99 rfl ⟨rfl, hm.below⟩))))))
  exact gcf rfl (gSk (gS (gR (gA rfl (gE (gRt (gr1 results99 rfl ⟨rfl, hm.below⟩)))))))
theorem spec_KeyWords_ok (w0 : World) :
    ConM Tryz.prog 162 [] w0 (spec_KeyWords ) fun r v w' => ∃ (x1 : Value), v = x1 ∧ Mem w0 (hp w0) w' [ow [x1] r] := by
  unfold spec_KeyWords
  refine gcon func162 rfl fun r => ?_
  have hm := Mem.start w0
  refine gS (gR (gA rfl (gE (gS (gR (gf rfl (fun a hf => e_build (vs := #[(0, (.string ⟨((mkS [102, 110])).b.toArray⟩)), (1, (.string ⟨((mkS [108, 101, 116])).b.toArray⟩)), (2, (.string ⟨((mkS [115, 97, 121])).b.toArray⟩)), (3, (.string ⟨((mkS [112, 117, 116])).b.toArray⟩)), (4, (.string ⟨((mkS [105, 102])).b.toArray⟩)), (5, (.string ⟨((mkS [101, 108, 115, 101])).b.toArray⟩)), (6, (.string ⟨((mkS [108, 111, 111, 112])).b.toArray⟩)), (7, (.string ⟨((mkS [98, 97, 99, 107])).b.toArray⟩)), (8, (.string ⟨((mkS [100, 111])).b.toArray⟩))]) (cs := [(.string ⟨((mkS [102, 110])).b.toArray⟩), (.string ⟨((mkS [108, 101, 116])).b.toArray⟩), (.string ⟨((mkS [115, 97, 121])).b.toArray⟩), (.string ⟨((mkS [112, 117, 116])).b.toArray⟩), (.string ⟨((mkS [105, 102])).b.toArray⟩), (.string ⟨((mkS [101, 108, 115, 101])).b.toArray⟩), (.string ⟨((mkS [108, 111, 111, 112])).b.toArray⟩), (.string ⟨((mkS [98, 97, 99, 107])).b.toArray⟩), (.string ⟨((mkS [100, 111])).b.toArray⟩)]) et_74 hf hm rfl rfl (by kernel_rfl) rfl rfl) ?_))))))
  rintro _ w ⟨aA, rfl, hm⟩
  replace hm := hm.lit (xs := ([(mkS [102, 110]), (mkS [108, 101, 116]), (mkS [115, 97, 121]), (mkS [112, 117, 116]), (mkS [105, 102]), (mkS [101, 108, 115, 101]), (mkS [108, 111, 111, 112]), (mkS [98, 97, 99, 107]), (mkS [100, 111])] : List Str)) 0 rfl rfl rfl rfl
  exact gA rfl (gE (gRt (gr1 results162 rfl ⟨(sV aA 0 9 9), rfl, hm.pk [0] rfl rfl⟩)))
theorem spec_l1Key_ok (w0 : World) (s_ : Str) :
    ConM Tryz.prog 155 [(.string ⟨(s_).b.toArray⟩)] w0 (spec_l1Key s_) fun r v w' => v = (.bool (r)) ∧ Below w0.heap.size w0 w' := by
  unfold spec_l1Key
  refine gcon func155 rfl fun r => ?_
  have hm := Mem.start w0
  refine gS (gR (gA rfl (gE (gS (gR (gCg rfl call162 (spec_KeyWords_ok _ ) ?_))))))
  rintro aA aL aM w ⟨_, rfl, hB⟩
  replace hm := hm.give hB; clear hB
  refine gA rfl (gE (gS (gS (gR (gA rfl (gE ?_))))))
  obtain ⟨aD, aE, rfl, aN⟩ := ro_slice (hm.ow_rep 0 rfl)
  refine gBk (gNf hm (fun aB aF => [(0, (.string ⟨(s_).b.toArray⟩)), (3, (.slice aD aA.length aE)), (4, (nV aB))]) (fun aB aF => [ow [(.slice aD aA.length aE)] aA]) [0] rfl ?_ ?_)
  ·
   repeat clear hm
   intro aO aH aB aF w hm aP aQ aR aI
   refine gS (gS (gR (gM rfl (gM rfl (gY (yV st_74 rfl) (gB rfl (gE (go _ 9 rfl (decide_eq_true (by omega)) (gct rfl (gSk (gS (gBk (gS (gR (gM rfl (gM rfl (gg fun aG aJ aC => ?_)))))))))))))))))
   obtain ⟨aT, aU, aV, he⟩ := idx_form (hm.ow_rep 0 rfl) aC
   obtain ⟨rfl, _, rfl⟩ := sl3 he
   refine gI st_74 aJ (idx_lt aC) rfl (gY (yl isAgg9 ((flat_cells (cs := [(.string ⟨(aG).b.toArray⟩)]) (hm.ow_rep 0 rfl) aC rfl).cell (j := 0) rfl) rfl) (gM rfl (gY (yG rfl (y_eqls (p := aG) (q := s_) rfl rfl rfl)) (gE (gsd 17 rfl (fun aK => ?_) fun aK => ?_)))))
   ·
    exact gct rfl (gS (gR (gA rfl (gE (gRt (gLr aI aH (gr1 results155 rfl ⟨rfl, hm.below⟩)))))))
   exact gcf rfl (gSk (gR (gM rfl (gP (by omega) (by omega) rfl (gA rfl (gE (gze hm [0] rfl)))))))
  repeat clear hm
  intro aW aX w hm aY aZ
  exact gS (gS (gR (gM rfl (gM rfl (gY (yV st_74 rfl) (gB rfl (gE (go _ 9 rfl (decide_eq_false (by omega)) (gcf rfl (gXt (gHh (gS (gR (gA rfl (gE (gRt (gr1 results155 rfl ⟨rfl, hm.below⟩)))))))))))))))))
theorem spec_l1Word_ok (w0 : World) (s_ : Str) :
    ConM Tryz.prog 101 [(.string ⟨(s_).b.toArray⟩)] w0 (spec_l1Word s_) fun r v w' => v = (.agg #[(nV r.kind), (.string ⟨(r.text).b.toArray⟩)]) ∧ Below w0.heap.size w0 w' := by
  unfold spec_l1Word
  refine gcon func101 rfl fun r => ?_
  have hm := Mem.start w0
  refine gS (gR (gAl hm zeroValue56 rfl fun aB w hm => gE (gS (gR (gM rfl (gg fun aC aD aE => gY (yG rfl (y_idx_str (p := s_) underlying9 rfl rfl rfl aD aE)) (gC hm rfl call99 (spec_l1Class_ok _ aC) fun aG aH w hm => gA rfl (gE (gS (gS (gR (gM rfl (gC hm rfl call155 (spec_l1Key_ok _ s_) fun aI aJ w hm => gE (gJ hm (fun aA => [(0, (.string ⟨(s_).b.toArray⟩)), (2, (pV aB)), (3, (nV aA))]) (fun aA => [blk aB [(nV 0), (.string ⟨((mkS [])).b.toArray⟩)] 56]) (fun aA => ?_) ?_))))))))))))))
  ·
   refine gs 8 rfl (fun aF => ?_) fun aF => ?_
   ·
    exact gct rfl (gR (gA rfl (gE (gz hm [0] rfl))))
   exact gcf rfl (gSk (gz hm [0] rfl))
  repeat clear hm
  intro aA w hm
  exact gS (gR (gM rfl (gM rfl (gY (yG rfl (y_build (vs := [(0, (nV aA)), (1, (.string ⟨(s_).b.toArray⟩))]) (cs := #[(nV aA), (.string ⟨(s_).b.toArray⟩)]) rfl rfl (by kernel_rfl))) (gSN hm 0 sizeOf56 (one_cons rfl (one_cons rfl one_nil)) rfl fun w hm => gE (gRt (grc 0 results101 hm rfl isAgg56 sizeOf56 ⟨rfl, hm.below⟩)))))))
theorem spec_l1All_ok (w0 : World) (s_ : Str) (class_ : Int) :
    ConM Tryz.prog 160 [(.string ⟨(s_).b.toArray⟩), (nV class_)] w0 (spec_l1All s_ class_) fun r v w' => v = (.bool (r)) ∧ Below w0.heap.size w0 w' := by
  unfold spec_l1All
  refine gcon func160 rfl fun r => ?_
  have hm := Mem.start w0
  refine gS (gR (gA rfl (gE (gS (gS (gR (gA rfl (gE (gBk (gNf hm (fun aA aB => [(0, (.string ⟨(s_).b.toArray⟩)), (1, (nV class_)), (5, (nV aA))]) (fun aA aB => []) [] rfl ?_ ?_))))))))))
  ·
   repeat clear hm
   intro aI aC aA aB w hm aJ aK aL aD
   refine gS (gS (gR (gM rfl (gM rfl (gY (yG rfl (y_len_str (p := s_) underlying9 rfl rfl)) ?_)))))
   have aM := (s_).h
   refine gB rfl (gE (go _ 9 rfl (decide_eq_true (by omega)) (gct rfl (gSk (gS (gBk (gS (gR (gM rfl (gM rfl (gg fun aE aF aG => gY (yG rfl (y_idx_str (p := s_) underlying9 rfl rfl rfl aF aG)) (gC hm rfl call99 (spec_l1Class_ok _ aE) fun aN aO w hm => gM rfl (gB rfl (gE (gsd 17 rfl (fun aH => ?_) fun aH => ?_)))))))))))))))
   ·
    exact gct rfl (gS (gR (gA rfl (gE (gRt (gLr aD aC (gr1 results160 rfl ⟨rfl, hm.below⟩)))))))
   exact gcf rfl (gSk (gR (gM rfl (gP (by omega) (by omega) rfl (gA rfl (gE (gze hm [] rfl)))))))
  repeat clear hm
  intro aP aQ w hm aR aT
  refine gS (gS (gR (gM rfl (gM rfl (gY (yG rfl (y_len_str (p := s_) underlying9 rfl rfl)) ?_)))))
  have aU := (s_).h
  exact gB rfl (gE (go _ 9 rfl (decide_eq_false (by omega)) (gcf rfl (gXt (gHh (gS (gR (gM rfl (gY (yG rfl (y_len_str (p := s_) underlying9 rfl rfl)) (gB rfl (gA rfl (gE (gRt (gr1 results160 rfl ⟨rfl, hm.below⟩))))))))))))))
theorem spec_IsName_ok (w0 : World) (s_ : Str) :
    ConM Tryz.prog 113 [(.string ⟨(s_).b.toArray⟩)] w0 (spec_IsName s_) fun r v w' => v = (.bool (r)) ∧ Below w0.heap.size w0 w' := by
  unfold spec_IsName
  refine gcon func113 rfl fun r => ?_
  have hm := Mem.start w0
  refine gS (gR (gA rfl (gE (gS (gJ hm (fun aA => [(2, (.bool (aA)))]) (fun aA => []) (fun aA => ?_) ?_)))))
  ·
   refine gR (gM rfl (gC hm rfl call160 (spec_l1All_ok _ s_ 1) fun aD aE w hm => gM rfl (gs 5 rfl (fun aB => ?_) fun aB => ?_)))
   ·
    refine gM rfl (gY (yG rfl (y_len_str (p := s_) underlying9 rfl rfl)) ?_)
    have aF := (s_).h
    refine gB rfl (gKt rfl (gM rfl (gsd 10 rfl (fun aC => ?_) fun aC => ?_)))
    ·
     exact gM rfl (gC hm rfl call155 (spec_l1Key_ok _ s_) fun aG aH w hm => gN rfl (gKt rfl (gA rfl (gE (gz hm [] rfl)))))
    exact gO rfl (gO rfl (gO rfl (gKf rfl (gA rfl (gE (gz hm [] rfl))))))
   exact gO rfl (gO rfl (gO rfl (gKf rfl (gM rfl (gO rfl (gO rfl (gO rfl (gKf rfl (gA rfl (gE (gz hm [] rfl)))))))))))
  repeat clear hm
  intro aA w hm
  exact gRt (gr1 results113 rfl ⟨rfl, hm.below⟩)
theorem spec_l30Num_ok (w0 : World) (s_ : Str) :
    ConM Tryz.prog 154 [(.string ⟨(s_).b.toArray⟩)] w0 (spec_l30Num s_) fun r v w' => v = (.tuple #[(nV r.1), (.bool (r.2))]) ∧ Below w0.heap.size w0 w' := by
  unfold spec_l30Num
  refine gcon func154 rfl fun r => ?_
  have hm := Mem.start w0
  refine gS (gR (gA rfl (gA rfl (gE (gS (gJ hm (fun aB => [(0, (.string ⟨(s_).b.toArray⟩)), (4, (.bool (aB)))]) (fun aB => []) (fun aB => ?_) ?_))))))
  ·
   refine gR (gM rfl (gY (yG rfl (y_len_str (p := s_) underlying9 rfl rfl)) ?_))
   have al := (s_).h
   refine gB rfl (gM rfl (gsd 10 rfl (fun aI => ?_) fun aI => ?_))
   ·
    exact gM rfl (gg fun aJ aK aL => gY (yG rfl (y_idx_str (p := s_) underlying9 rfl rfl rfl aK aL)) (gY (yG rfl (y_eql8 (b := aJ) (c := (45 : UInt8)) rfl rfl rfl)) (gKt rfl (gA rfl (gE (gz hm [] rfl))))))
   exact gO rfl (gO rfl (gO rfl (gKf rfl (gA rfl (gE (gz hm [] rfl))))))
  repeat clear hm
  intro aB w hm
  refine gS (gS (gR (gM rfl (gE (gJ hm (fun aA => [(0, (.string ⟨(aA).b.toArray⟩)), (4, (.bool (aB)))]) (fun aA => []) (fun aA => ?_) ?_)))))
  ·
   refine gs 15 rfl (fun aM => ?_) fun aM => ?_
   ·
    refine gct rfl (gR (gM rfl (gb fun am aN => ?_)))
    obtain ⟨aO, aP⟩ := subS_some.1 aN
    refine gY (yG rfl (y_subsL (s := s_) underlying9 rfl rfl rfl aO _)) ?_
    rw [aP]
    exact gA rfl (gE (gz hm [] rfl))
   exact gcf rfl (gSk (gz hm [] rfl))
  repeat clear hm
  intro aA w hm
  refine gS (gS (gJ hm (fun aC => [(0, (.string ⟨(aA).b.toArray⟩)), (4, (.bool (aB))), (38, (.bool (aC)))]) (fun aC => []) (fun aC => ?_) ?_))
  ·
   refine gR (gM rfl (gY (yG rfl (y_len_str (p := aA) underlying9 rfl rfl)) ?_))
   have an := (aA).h
   refine gB rfl (gM rfl (gsd 21 rfl (fun aQ => ?_) fun aQ => ?_))
   ·
    exact gO rfl (gO rfl (gO rfl (gKt rfl (gM rfl (gO rfl (gO rfl (gO rfl (gO rfl (gO rfl (gO rfl (gO rfl (gO rfl (gO rfl (gO rfl (gO rfl (gKt rfl (gE (gz hm [] rfl))))))))))))))))))
   refine gM rfl (gY (yG rfl (y_len_str (p := aA) underlying9 rfl rfl)) (gB rfl (gKf rfl (gM rfl (gsd 26 rfl (fun aR => ?_) fun aR => ?_)))))
   ·
    exact gO rfl (gO rfl (gO rfl (gO rfl (gO rfl (gO rfl (gO rfl (gO rfl (gO rfl (gO rfl (gO rfl (gKt rfl (gE (gz hm [] rfl)))))))))))))
   refine gM rfl (gg fun aT aU aV => gY (yG rfl (y_idx_str (p := aA) underlying9 rfl rfl rfl aU aV)) (gY (yG rfl (y_eql8 (b := aT) (c := (48 : UInt8)) rfl rfl rfl)) (gM rfl (gsd 30 rfl (fun aW => ?_) fun aW => ?_))))
   ·
    refine gM rfl (gY (yG rfl (y_len_str (p := aA) underlying9 rfl rfl)) (gB rfl (gM rfl (gsd 34 rfl (fun aX => ?_) fun aX => ?_))))
    ·
     exact gO rfl (gKt rfl (gKt rfl (gKf rfl (gE (gz hm [] rfl)))))
    exact gM rfl (gKf rfl (gKt rfl (gKf rfl (gE (gz hm [] rfl)))))
   exact gO rfl (gO rfl (gO rfl (gO rfl (gO rfl (gO rfl (gKf rfl (gKf rfl (gE (gz hm [] rfl)))))))))
  repeat clear hm
  intro aC w hm
  refine gs 38 rfl (fun aY => ?_) fun aY => ?_
  ·
   exact gct rfl (gS (gR (gA rfl (gA rfl (gE (gRt (gr2 results154 rfl ⟨rfl, hm.below⟩)))))))
  refine gcf rfl (gSk (gS (gR (gA rfl (gE (gS (gS (gR (gA rfl (gE (gBk (gNf hm (fun aD aE => [(0, (.string ⟨(aA).b.toArray⟩)), (4, (.bool (aB))), (5, (nV aE)), (6, (nV aD))]) (fun aD aE => []) [] rfl ?_ ?_))))))))))))
  ·
   repeat clear hm
   intro ao aZ aD aE w hm ap aq ar a7
   refine gS (gS (gR (gM rfl (gM rfl (gY (yG rfl (y_len_str (p := aA) underlying9 rfl rfl)) ?_)))))
   have au := (aA).h
   refine gB rfl (gE (go _ 42 rfl (decide_eq_true (by omega)) (gct rfl (gSk (gS (gBk (gS (gS (gJ hm (fun aF => [(0, (.string ⟨(aA).b.toArray⟩)), (4, (.bool (aB))), (5, (nV aE)), (6, (nV aD)), (54, (.bool (aF)))]) (fun aF => []) (fun aF => ?_) ?_)))))))))
   ·
    refine gR (gM rfl (gM rfl (gg fun a8 aa ab => gY (yG rfl (y_idx_str (p := aA) underlying9 rfl rfl rfl aa ab)) (gY (yG rfl (y_lss8 (b := a8) (c := (48 : UInt8)) rfl rfl rfl)) (gM rfl (gsd 49 rfl (fun ac => ?_) fun ac => ?_))))))
    ·
     exact gO rfl (gO rfl (gO rfl (gO rfl (gKt rfl (gE (gz hm [] rfl))))))
    exact gM rfl (gM rfl (gg fun ae af ag => gY (yG rfl (y_idx_str (p := aA) underlying9 rfl rfl rfl af ag)) (gY (yG rfl (y_gtr8 (b := ae) (c := (57 : UInt8)) rfl rfl rfl)) (gKf rfl (gE (gz hm [] rfl))))))
   repeat clear hm
   intro aF w hm
   refine gs 54 rfl (fun ah => ?_) fun ah => ?_
   ·
    exact gct rfl (gS (gR (gA rfl (gA rfl (gE (gRt (gLr a7 aZ (gr2 results154 rfl ⟨rfl, hm.below⟩))))))))
   refine gcf rfl (gSk (gR (gM rfl (gB rfl (gM rfl (gM rfl (gg fun aH ai aj => gY (yG rfl (y_idx_str (p := aA) underlying9 rfl rfl rfl ai aj)) (gY (yG rfl (y_sub8 (b := aH) (c := (48 : UInt8)) rfl rfl rfl)) (gY (yG rfl (y_conv64 (b := (aH - (48 : UInt8))) underlying5 underlying3 rfl rfl)) ?_)))))))))
   have av := UInt8.toNat_lt ((aH - (48 : UInt8)))
   exact gB rfl (gA rfl (gE (gR (gM rfl (gP (by omega) (by omega) rfl (gA rfl (gE (gze hm [] rfl))))))))
  repeat clear hm
  intro aw ax w hm ay az
  refine gS (gS (gR (gM rfl (gM rfl (gY (yG rfl (y_len_str (p := aA) underlying9 rfl rfl)) ?_)))))
  have bA := (aA).h
  refine gB rfl (gE (go _ 42 rfl (decide_eq_false (by omega)) (gcf rfl (gXt (gHh (gS (gS (gR (gM rfl (gE (gJ hm (fun aG => [(5, (nV aG))]) (fun aG => []) (fun aG => ?_) ?_)))))))))))
  ·
   refine gs 63 rfl (fun ak => ?_) fun ak => ?_
   ·
    exact gct rfl (gR (gM rfl (gY (yG rfl (y_neg rfl rfl)) (gA rfl (gE (gz hm [] rfl))))))
   exact gcf rfl (gSk (gz hm [] rfl))
  repeat clear hm
  intro aG w hm
  exact gS (gR (gM rfl (gA rfl (gA rfl (gE (gRt (gr2 results154 rfl ⟨rfl, hm.below⟩)))))))
theorem spec_l1In_ok (w0 : World) (n_ : Int) (low : Int) (high : Int) :
    ConM Tryz.prog 112 [(nV n_), (nV low), (nV high)] w0 (spec_l1In n_ low high) fun r v w' => v = (.bool (r)) ∧ Below w0.heap.size w0 w' := by
  unfold spec_l1In
  refine gcon func112 rfl fun r => ?_
  have hm := Mem.start w0
  refine gS (gR (gA rfl (gE (gS (gJ hm (fun aA => [(6, (.bool (aA)))]) (fun aA => []) (fun aA => ?_) ?_)))))
  ·
   refine gR (gM rfl (gM rfl (gB rfl (gM rfl (gsd 10 rfl (fun aB => ?_) fun aB => ?_)))))
   ·
    exact gM rfl (gM rfl (gB rfl (gKt rfl (gA rfl (gE (gz hm [] rfl))))))
   exact gO rfl (gO rfl (gO rfl (gKf rfl (gA rfl (gE (gz hm [] rfl))))))
  repeat clear hm
  intro aA w hm
  exact gRt (gr1 results112 rfl ⟨rfl, hm.below⟩)
theorem spec_WordValid_ok (w0 : World) (w_ : Word_) :
    ConM Tryz.prog 100 [(.agg #[(nV w_.kind), (.string ⟨(w_.text).b.toArray⟩)])] w0 (spec_WordValid w_) fun r v w' => v = (.bool (r)) ∧ Below w0.heap.size w0 w' := by
  unfold spec_WordValid
  refine gcon func100 rfl fun r => ?_
  have hm := Mem.start w0
  refine gS (gR (gBx hm rfl fun aM w hm => gA rfl (gE (gS (gS (gR (gF fo_56_0 rfl (gL hm 0 isAgg3 rfl (gE (gBk (gS (gR (gB rfl (gA rfl (gE (gsd 7 rfl (fun aC => ?_) fun aC => ?_))))))))))))))))
  ·
   exact gct rfl (gS (gR (gF fo_56_1 rfl (gL hm 0 isAgg9 rfl (gC hm rfl call113 (spec_IsName_ok _ w_.text) fun aN aO w hm => gA rfl (gE (gRt (gr1 results100 rfl ⟨rfl, hm.below⟩))))))))
  refine gcf rfl (gS (gR (gB rfl (gA rfl (gE (gsd 12 rfl (fun aD => ?_) fun aD => ?_))))))
  ·
   refine gct rfl (gS (gR (gF fo_56_1 rfl (gL hm 0 isAgg9 rfl (gC hm rfl call154 (spec_l30Num_ok _ w_.text) fun aE aP w hm => gM rfl (gX rfl (gX rfl (gA rfl (gA rfl (gE (gS (gJ hm (fun aA => [(2, (.bool (aA)))]) (fun aA => []) (fun aA => ?_) ?_))))))))))))
   ·
    refine gR (gM rfl (gM rfl (gs 21 rfl (fun aF => ?_) fun aF => ?_)))
    ·
     exact gM rfl (gC hm rfl call112 (spec_l1In_ok _ aE.1 0 255) fun aQ aR w hm => gKt rfl (gA rfl (gE (gz hm [] rfl))))
    exact gO rfl (gO rfl (gKf rfl (gA rfl (gE (gz hm [] rfl)))))
   repeat clear hm
   intro aA w hm
   exact gRt (gr1 results100 rfl ⟨rfl, hm.below⟩)
  refine gcf rfl (gS (gR (gB rfl (gA rfl (gE (gsd 25 rfl (fun aG => ?_) fun aG => ?_))))))
  ·
   refine gct rfl (gS (gJ hm (fun aB => [(2, (.bool (aB)))]) (fun aB => []) (fun aB => ?_) ?_))
   ·
    refine gR (gF fo_56_1 rfl (gL hm 0 isAgg9 rfl (gY (yG rfl (y_len_str (p := w_.text) underlying9 rfl rfl)) ?_)))
    have aT := (w_.text).h
    refine gB rfl (gM rfl (gsd 31 rfl (fun aH => ?_) fun aH => ?_))
    ·
     exact gF fo_56_1 rfl (gL hm 0 isAgg9 rfl (gg fun aI aJ aK => gY (yG rfl (y_idx_str (p := w_.text) underlying9 rfl rfl rfl aJ aK)) (gC hm rfl call99 (spec_l1Class_ok _ aI) fun aU aV w hm => gB rfl (gKt rfl (gA rfl (gE (gz hm [] rfl)))))))
    exact gO rfl (gO rfl (gO rfl (gO rfl (gO rfl (gKf rfl (gA rfl (gE (gz hm [] rfl))))))))
   repeat clear hm
   intro aB w hm
   exact gRt (gr1 results100 rfl ⟨rfl, hm.below⟩)
  refine gcf rfl (gS (gR (gB rfl (gA rfl (gE (gsd 38 rfl (fun aL => ?_) fun aL => ?_))))))
  ·
   exact gct rfl (gS (gR (gF fo_56_1 rfl (gL hm 0 isAgg9 rfl (gC hm rfl call155 (spec_l1Key_ok _ w_.text) fun aW aX w hm => gA rfl (gE (gRt (gr1 results100 rfl ⟨rfl, hm.below⟩))))))))
  exact gcf rfl (gSk (gS (gR (gA rfl (gE (gRt (gr1 results100 rfl ⟨rfl, hm.below⟩)))))))
theorem spec_CutWords_ok (w0 : World) (s_ : Str) :
    ConM Tryz.prog 44 [(.string ⟨(s_).b.toArray⟩)] w0 (spec_CutWords s_) fun r v w' => ∃ (x1 : Value), v = (.tuple #[x1, (.bool (r.2))]) ∧ Mem w0 (hp w0) w' [ow [x1] r.1] := by
  unfold spec_CutWords
  refine gcon func44 rfl fun r => ?_
  have hm := Mem.start w0
  refine gS (gR (gA rfl (gA rfl (gE (gS (gR (gf rfl (fun a hf => e_build0 (α := Word_) et_41 hm rfl) ?_)))))))
  rintro bF w hm
  refine gA rfl (gE (gS (gS (gR (gA rfl (gE ?_))))))
  obtain ⟨aT, aU, rfl, bG⟩ := ro_slice (hm.ow_rep 0 rfl)
  refine gJge (fun aN a w => ∃ (aD : Value), St 75 [(0, (.string ⟨(s_).b.toArray⟩)), (4, aD)] w0 (hp w0) [ow [aD] aN] a w) (fun bH aV => ?_) ?_
  ·
   refine gBk (gMg (fun aA a w => ∃ (aE : Value), St 75 [(0, (.string ⟨(s_).b.toArray⟩)), (4, aE), (5, (nV aA.2))] w0 (hp w0) [ow [aE] aA.1] a w) (fun a hf => ⟨(.slice aT ([] : List Word_).length aU), hf.sb rfl, hm.pk [0] rfl rfl⟩) ?_)
   repeat clear hm
   rintro bJ aP aA a w ⟨aE, hf, hm⟩ bK aQ
   refine gv hf (gS (gS (gJ hm (fun aH => [(0, (.string ⟨(s_).b.toArray⟩)), (4, aE), (5, (nV aA.2)), (17, (.bool (aH)))]) (fun aH => [ow [aE] aA.1]) (fun aH => ?_) ?_)))
   ·
    refine gR (gM rfl (gM rfl (gY (yG rfl (y_len_str (p := s_) underlying9 rfl rfl)) ?_)))
    have bL := (s_).h
    refine gB rfl (gM rfl (gsd 13 rfl (fun aW => ?_) fun aW => ?_))
    ·
     exact gM rfl (gY (yG rfl (y_len_str (p := s_) underlying9 rfl rfl)) (gB rfl (gKt rfl (gE (gz hm [0] rfl)))))
    exact gO rfl (gO rfl (gO rfl (gKf rfl (gE (gz hm [0] rfl)))))
   repeat clear hm
   intro aH w hm
   refine gs 17 rfl (fun aX => ?_) fun aX => ?_
   ·
    refine gct rfl (gSk (gBk (gS (gR (gM rfl (gM rfl (gg fun aY aZ a7 => gY (yG rfl (y_idx_str (p := s_) underlying9 rfl rfl rfl aZ a7)) (gC hm rfl call99 (spec_l1Class_ok _ aY) fun aO bM w hm => gA rfl (gE (gS (gR (gM rfl (gB rfl (gA rfl (gE (gS ?_))))))))))))))))
    obtain ⟨aB, aC, rfl, bN⟩ := ro_slice (hm.ow_rep 0 rfl)
    refine gJ hm (fun aF => [(0, (.string ⟨(s_).b.toArray⟩)), (4, (.slice aB aA.1.length aC)), (5, (nV aA.2)), (6, (nV aO)), (7, (nV aF))]) (fun aF => [ow [(.slice aB aA.1.length aC)] aA.1]) (fun aF => ?_) ?_
    ·
     refine gBk (gMf hm (fun aI => [(0, (.string ⟨(s_).b.toArray⟩)), (4, (.slice aB aA.1.length aC)), (5, (nV aA.2)), (6, (nV aO)), (7, (nV aI))]) (fun aI => [ow [(.slice aB aA.1.length aC)] aA.1]) [0] rfl ?_)
     repeat clear hm
     intro bO a8 aI w hm bP aa
     refine gS (gS (gJ hm (fun aJ => [(0, (.string ⟨(s_).b.toArray⟩)), (4, (.slice aB aA.1.length aC)), (5, (nV aA.2)), (6, (nV aO)), (7, (nV aI)), (39, (.bool (aJ)))]) (fun aJ => [ow [(.slice aB aA.1.length aC)] aA.1]) (fun aJ => ?_) ?_))
     ·
      refine gR (gM rfl (gM rfl (gY (yG rfl (y_len_str (p := s_) underlying9 rfl rfl)) ?_)))
      have bQ := (s_).h
      refine gB rfl (gM rfl (gsd 28 rfl (fun ab => ?_) fun ab => ?_))
      ·
       refine gM rfl (gM rfl (gg fun ac ae af => gY (yG rfl (y_idx_str (p := s_) underlying9 rfl rfl rfl ae af)) (gC hm rfl call99 (spec_l1Class_ok _ ac) fun bR bS w hm => gM rfl (gB rfl (gKt rfl (gM rfl (gsd 36 rfl (fun ag => ?_) fun ag => ?_)))))))
       ·
        exact gM rfl (gB rfl (gKt rfl (gE (gz hm [0] rfl))))
       exact gO rfl (gO rfl (gKf rfl (gE (gz hm [0] rfl))))
      exact gO rfl (gO rfl (gO rfl (gO rfl (gO rfl (gO rfl (gKf rfl (gM rfl (gO rfl (gO rfl (gKf rfl (gE (gz hm [0] rfl))))))))))))
     repeat clear hm
     intro aJ w hm
     refine gs 39 rfl (fun ah => ?_) fun ah => ?_
     ·
      exact gct rfl (gSk (gBk (gR (gM rfl (gB rfl (gA rfl (gE (gze hm [0] rfl))))))))
     exact gcf rfl (gXt (gHh (gLp aa a8 (gz hm [0] rfl))))
    repeat clear hm
    intro aF w hm
    refine gS (gS (gR (gM rfl (gB rfl (gE (gJge (fun aR a w => ∃ (aK : Value), St 75 [(0, (.string ⟨(s_).b.toArray⟩)), (4, aK), (7, (nV aF))] w0 (hp w0) [ow [aK] aR] a w) (fun bT ai => ?_) ?_))))))
    ·
     refine gsd 43 rfl (fun aj => ?_) fun aj => ?_
     ·
      refine gct rfl (gS (gS (gJ hm (fun aL => [(0, (.string ⟨(s_).b.toArray⟩)), (4, (.slice aB aA.1.length aC)), (5, (nV aA.2)), (7, (nV aF)), (54, (.bool (aL)))]) (fun aL => [ow [(.slice aB aA.1.length aC)] aA.1]) (fun aL => ?_) ?_)))
      ·
       refine gR (gM rfl (gB rfl (gM rfl (gsd 46 rfl (fun ak => ?_) fun ak => ?_))))
       ·
        exact gO rfl (gO rfl (gO rfl (gO rfl (gO rfl (gO rfl (gO rfl (gKt rfl (gE (gz hm [0] rfl)))))))))
       refine gM rfl (gM rfl (gM rfl (gb fun al am => ?_)))
       obtain ⟨an, ao⟩ := subS_some.1 am
       refine gY (yG rfl (y_subs (s := s_) underlying9 rfl rfl rfl rfl an _)) ?_
       rw [ao]
       exact gC hm rfl call101 (spec_l1Word_ok _ al) fun ap bU w hm => gC hm rfl call100 (spec_WordValid_ok _ ap) fun bV bW w hm => gN rfl (gKf rfl (gE (gz hm [0] rfl)))
      repeat clear hm
      intro aL w hm
      refine gs 54 rfl (fun aq => ?_) fun aq => ?_
      ·
       refine gct rfl (gS (gR (gf rfl (fun a hf => e_build0 (α := Word_) et_41 hm rfl) ?_)))
       rintro ar w hm
       exact gA rfl (gA rfl (gE (gRt (gEr ai (gLp aQ aP (gl (gEr aV (gr2 results44 rfl ⟨ar, rfl, hm.pk [0] rfl rfl⟩))))))))
      refine gcf rfl (gSk (gR (gM rfl (gM rfl (gM rfl (gM rfl (gb fun au av => ?_)))))))
      obtain ⟨aw, ax⟩ := subS_some.1 av
      refine gY (yG rfl (y_subs (s := s_) underlying9 rfl rfl rfl rfl aw _)) ?_
      rw [ax]
      refine gC hm rfl call101 (spec_l1Word_ok _ au) fun aG bX w hm => gf rfl (fun a hf => e_build (vs := #[(0, (.agg #[(nV aG.kind), (.string ⟨(aG.text).b.toArray⟩)]))]) (cs := [(nV aG.kind), (.string ⟨(aG.text).b.toArray⟩)]) et_41 hf hm rfl rfl (by kernel_rfl) rfl rfl) ?_
      rintro _ w ⟨bY, rfl, hm⟩
      replace hm := hm.lit (xs := ([aG] : List Word_)) 0 rfl rfl rfl rfl
      refine gb fun bZ ay => ?_
      obtain ⟨az, bA⟩ := appM_some.1 ay
      refine gf rfl (fun a hf => e_append 1 et_41 hf hm rfl (hm.ow_rep 0 rfl) rfl rfl rfl az) ?_
      rintro bB w hm
      rw [bA] at hm
      exact gA rfl (gE (gZe fun a hf => ⟨bB, hf.sb rfl, hm.pk [1] rfl rfl⟩))
     exact gcf rfl (gSk (gZe fun a hf => ⟨(.slice aB aA.1.length aC), hf.sb rfl, hm.pk [0] rfl rfl⟩))
    repeat clear hm
    rintro aR a w ⟨aK, hf, hm⟩
    exact gv hf (gR (gM rfl (gA rfl (gE (gZe fun a hf => ⟨aK, hf.sb rfl, hm.pk [0] rfl rfl⟩)))))
   exact gcf rfl (gXt (gHh (gLp aQ aP (gr (gZe fun a hf => ⟨aE, hf.sb rfl, hm.pk [0] rfl rfl⟩)))))
  repeat clear hm
  rintro aN a w ⟨aD, hf, hm⟩
  refine gv hf (gS (gS (gJ hm (fun aM => [(4, aD), (72, (.bool (aM)))]) (fun aM => [ow [aD] aN]) (fun aM => ?_) ?_)))
  ·
   refine gR (gM rfl (gY (yG rfl (y_len_str (p := s_) underlying9 rfl rfl)) ?_))
   have b4 := (s_).h
   refine gB rfl (gM rfl (gsd 68 rfl (fun bC => ?_) fun bC => ?_))
   ·
    exact gO rfl (gO rfl (gO rfl (gKt rfl (gE (gz hm [0] rfl)))))
   refine gM rfl ?_
   obtain ⟨b5, b6, rfl, b7⟩ := ro_slice (hm.ow_rep 0 rfl)
   exact gY (yV st_41 rfl) (gB rfl (gKf rfl (gE (gz hm [0] rfl))))
  repeat clear hm
  intro aM w hm
  refine gs 72 rfl (fun bD => ?_) fun bD => ?_
  ·
   refine gct rfl (gS (gR (gf rfl (fun a hf => e_build0 (α := Word_) et_41 hm rfl) ?_)))
   rintro bE w hm
   exact gA rfl (gA rfl (gE (gRt (gr2 results44 rfl ⟨bE, rfl, hm.pk [0] rfl rfl⟩))))
  exact gcf rfl (gSk (gS (gR (gM rfl (gA rfl (gA rfl (gE (gRt (gr2 results44 rfl ⟨aD, rfl, hm.pk [0] rfl rfl⟩)))))))))
theorem spec_l2Is_ok (w0 : World) (list : List Word_) (v1 : Value) (h1 : GT.rep (hp w0) [v1] list) (at_ : Int) (text : Str) :
    ConM Tryz.prog 156 [v1, (nV at_), (.string ⟨(text).b.toArray⟩)] w0 (spec_l2Is list at_ text) fun r v w' => v = (.bool (r)) ∧ Below w0.heap.size w0 w' := by
  unfold spec_l2Is
  refine gcon func156 rfl fun r => ?_
  have hm := Mem.start w0
  refine gS (gR (gA rfl (gE (gS (gJ hm (fun aA => [(6, (.bool (aA)))]) (fun aA => []) (fun aA => ?_) ?_)))))
  ·
   refine gR (gM rfl (gM rfl ?_))
   obtain ⟨aF, aG, rfl, aH⟩ := ro_slice h1
   refine gY (yV st_41 rfl) (gB rfl (gM rfl (gsd 11 rfl (fun aD => ?_) fun aD => ?_)))
   ·
    refine gM rfl (gM rfl (gg fun aB aE aC => ?_))
    obtain ⟨aI, aJ, aK, he⟩ := idx_form h1 aC
    obtain ⟨rfl, _, rfl⟩ := sl3 he
    exact gI st_41 aE (idx_lt aC) rfl (gF fo_56_1 rfl (gY (yl isAgg9 ((flat_cells (cs := [(nV aB.kind), (.string ⟨(aB.text).b.toArray⟩)]) (hm.now h1) aC rfl).cell (j := 1) rfl) rfl) (gM rfl (gY (yG rfl (y_eqls (p := aB.text) (q := text) rfl rfl rfl)) (gKt rfl (gA rfl (gE (gz hm [] rfl))))))))
   exact gO rfl (gO rfl (gO rfl (gO rfl (gO rfl (gO rfl (gO rfl (gKf rfl (gA rfl (gE (gz hm [] rfl))))))))))
  repeat clear hm
  intro aA w hm
  exact gRt (gr1 results156 rfl ⟨rfl, hm.below⟩)
theorem pspec_l3Reader__is_ok (w0 : World) (r_ : l3Reader) (bp0 : Nat) (v1p : Value) (h1p : GT.rep (hp w0) [v1p] r_.list) (hbbp0 : (hp w0) bp0 = some (.cells ([v1p, (nV r_.at_)] : List Value).toArray 91 (0, 0))) (text : Str) :
    ConM Tryz.prog 125 [(pV bp0), (.string ⟨(text).b.toArray⟩)] w0 (pspec_l3Reader__is r_ text) fun r v w' => v = (.bool (r)) ∧ Below w0.heap.size w0 w' := by
  unfold pspec_l3Reader__is
  refine gcon func125 rfl fun r => ?_
  have hm := Mem.start w0
  refine gS (gR (gA rfl (gE (gS (gJ hm (fun aA => [(4, (.bool (aA)))]) (fun aA => []) (fun aA => ?_) ?_)))))
  ·
   refine gW (.p 0 (.p 1 (.p 2 (.e 3 (.p 4 (.p 5 (.p 6 (.p 7 (.p 8 (.p 10 (.p 11 (.p 12 (.p 14 (.q 9 (.e 13 (.e 15 (.p 16 (.p 17 .fin)) .nil) .nil))))))))))) .nil)))) [13] [0, 1, 2, 4, 5, 6, 7, 8, 10, 11, 12, 14, 16, 17] hm [] [] rfl mxo (by kernel_rfl) (fun _ _ _ h => h.2) fun w hm hS => tP rfl (fun w => yM rfl) (tP rfl (fun w => yG rfl (y_nilptr rfl rfl)) (tP rfl (fun w => yF fo_91_1 rfl) (tO (tY rfl (yl isAgg3 (hm.hz_cell hbbp0 rfl) rfl) (tAn rfl (tP rfl (fun w => yB rfl) (tP rfl (fun w => yM rfl) (gsd 10 rfl (fun aB => ?_) fun aB => ?_))))))))
   ·
    refine tP rfl (fun w => yM rfl) (tP rfl (fun w => yG rfl (y_nilptr rfl rfl)) (tP rfl (fun w => yF fo_91_0 rfl) (tP rfl (fun w => yM rfl) (tP rfl (fun w => yG rfl (y_nilptr rfl rfl)) (tP rfl (fun w => yF fo_91_1 rfl) (tP rfl (fun w => yM rfl) (tQ rfl hS (fun w hm => yl isAgg41 (hm.hz_cell hbbp0 rfl) rfl) (tO (tY rfl (yl isAgg3 (hm.hz_cell hbbp0 rfl) rfl) (tAs hS (tO (gb fun aD aC => tf rfl rfl (fun a hf => e_call hf rfl call156 rfl (spec_l2Is_ok _ r_.list v1p (hm.now h1p) r_.at_ text _ aC)) ?_))))))))))))
    rintro aE w ⟨rfl, hB⟩
    replace hm := hm.below' hB; clear hB
    exact tAn rfl (tP rfl (fun w => yKt rfl) (tP rfl (fun w => yA rfl) (tE (gz hm [] rfl))))
   exact tPo rfl rfl (tPo rfl rfl (tPo rfl rfl (tPo rfl rfl (tPo rfl rfl (tPo rfl rfl (tPo rfl rfl (tQo rfl hS rfl (tO (tEo rfl rfl (tAs hS (tO (tEo rfl rfl (tAn rfl (tP rfl (fun w => yKf rfl) (tP rfl (fun w => yA rfl) (tE (gz hm [] rfl)))))))))))))))))
  repeat clear hm
  intro aA w hm
  exact gRt (gr1 results125 rfl ⟨rfl, hm.below⟩)
theorem pspec_l3Reader__want_ok (w0 : World) (hz : Heap) (r_ : l3Reader) (bp0 : Nat) (v1p : Value) (h1p : GT.rep hz [v1p] r_.list) (text : Str) (hm0 : Mem w0 hz w0 [blk bp0 [v1p, (nV r_.at_)] 91]) :
    ConM Tryz.prog 123 [(pV bp0), (.string ⟨(text).b.toArray⟩)] w0 (pspec_l3Reader__want r_ text) fun r v w' => v = (.tuple #[]) ∧ Mem w0 hz w' [blk bp0 [v1p, (nV r.at_)] 91] := by
  unfold pspec_l3Reader__want
  refine gcon func123 rfl fun r => ?_
  have hm := hm0
  refine gS (gS (gR (gM rfl (gM rfl (gC hm rfl call125 (pspec_l3Reader__is_ok _ r_ bp0 v1p (hm.now h1p) (hm.blk_cells 0 rfl).1 text) fun aB aC w hm => gN rfl (gE (gsn 7 rfl (fun aA => ?_) fun aA => ?_)))))))
  ·
   exact gct rfl (gS (gR (gM rfl (gY (yG rfl (y_nilptr rfl rfl)) (gF fo_91_1 rfl (gS1 hm 0 sizeOf3 rfl rfl fun w hm => gE (gRt (gr0 results123 ⟨rfl, hm.pk [0] rfl rfl⟩))))))))
  exact gcf rfl (gSk (gR (gM rfl (gM rfl (gY (yG rfl (y_nilptr rfl rfl)) (gF fo_91_1 rfl (gL hm 0 isAgg3 rfl (gB rfl (gY (yG rfl (y_nilptr rfl rfl)) (gF fo_91_1 rfl (gS1 hm 0 sizeOf3 rfl rfl fun w hm => gE (gre results123 ⟨rfl, hm.pk [0] rfl rfl⟩))))))))))))
theorem pspec_l3Reader__name_ok (w0 : World) (hz : Heap) (r_ : l3Reader) (bp0 : Nat) (v1p : Value) (h1p : GT.rep hz [v1p] r_.list) (hm0 : Mem w0 hz w0 [blk bp0 [v1p, (nV r_.at_)] 91]) :
    ConM Tryz.prog 124 [(pV bp0)] w0 (pspec_l3Reader__name r_) fun r v w' => v = (.string ⟨(r.1).b.toArray⟩) ∧ Mem w0 hz w' [blk bp0 [v1p, (nV r.2.at_)] 91] := by
  unfold pspec_l3Reader__name
  refine gcon func124 rfl fun r => ?_
  have hm := hm0
  refine gS (gR (gA rfl (gE (gS (gS (gJ hm (fun aA => [(0, (pV bp0)), (33, (.bool (aA)))]) (fun aA => [blk bp0 [v1p, (nV r_.at_)] 91]) (fun aA => ?_) ?_))))))
  ·
   refine gW (.p 0 (.p 1 (.p 2 (.e 3 (.p 4 (.p 5 (.p 6 (.p 7 (.p 8 (.p 10 (.p 11 (.p 12 (.q 9 (.e 13 (.p 14 (.p 15 (.p 16 (.p 17 (.p 18 (.p 19 (.p 20 (.p 22 (.p 23 (.p 24 (.q 21 (.e 25 (.p 26 (.p 27 (.e 28 (.p 29 (.p 30 .fin)) .nil))) .nil)))))))))))) .nil)))))))))) .nil)))) [13, 25] [0, 1, 2, 4, 5, 6, 7, 8, 10, 11, 12, 14, 15, 16, 17, 18, 19, 20, 22, 23, 24, 26, 27, 29, 30] hm [0] [blk bp0 [v1p, (nV r_.at_)] 91] rfl mxo (by kernel_rfl) (fun _ _ _ h => h.2) fun w hm hS => tP rfl (fun w => yM rfl) (tP rfl (fun w => yG rfl (y_nilptr rfl rfl)) (tP rfl (fun w => yF fo_91_1 rfl) (tO (tY rfl (yL hm 0 isAgg3 rfl) (tAn rfl (tP rfl (fun w => yB rfl) (tP rfl (fun w => yM rfl) (gsd 8 rfl (fun aF => ?_) fun aF => ?_))))))))
   ·
    refine tPo rfl rfl (tPo rfl rfl (tPo rfl rfl (tPo rfl rfl (tPo rfl rfl (tPo rfl rfl (tQo rfl hS rfl (tO (tEo rfl rfl (tAs hS (tPo rfl rfl (tPo rfl rfl (tP rfl (fun w => yKt rfl) (tP rfl (fun w => yM rfl) (tPo rfl rfl (tPo rfl rfl (tPo rfl rfl (tPo rfl rfl (tPo rfl rfl (tPo rfl rfl (tQo rfl hS rfl (tO (tEo rfl rfl (tAs hS (tPo rfl rfl (tPo rfl rfl (tO (tEo rfl rfl (tAn rfl (tPo rfl rfl (tP rfl (fun w => yKt rfl) ?_))))))))))))))))))))))))))))))
    exact tE (gz hm [0] rfl)
   refine tP rfl (fun w => yM rfl) (tP rfl (fun w => yG rfl (y_nilptr rfl rfl)) (tP rfl (fun w => yF fo_91_1 rfl) (tP rfl (fun w => yM rfl) (tP rfl (fun w => yG rfl (y_nilptr rfl rfl)) (tP rfl (fun w => yF fo_91_0 rfl) (tQ rfl hS (fun w hm => yL hm 0 isAgg3 rfl) (tO (tY rfl (yL hm 0 isAgg41 rfl) (tAs hS ?_)))))))))
   obtain ⟨aK, aL, rfl, aM⟩ := ro_slice h1p
   refine tP rfl (fun w => yV st_41 rfl) (tP rfl (fun w => yB rfl) (tP rfl (fun w => yKf rfl) (tP rfl (fun w => yM rfl) (gsd 20 rfl (fun aG => ?_) fun aG => ?_))))
   ·
    exact tPo rfl rfl (tPo rfl rfl (tPo rfl rfl (tPo rfl rfl (tPo rfl rfl (tPo rfl rfl (tQo rfl hS rfl (tO (tEo rfl rfl (tAs hS (tPo rfl rfl (tPo rfl rfl (tO (tEo rfl rfl (tAn rfl (tPo rfl rfl (tP rfl (fun w => yKt rfl) (tE (gz hm [0] rfl))))))))))))))))))
   refine tP rfl (fun w => yM rfl) (tP rfl (fun w => yG rfl (y_nilptr rfl rfl)) (tP rfl (fun w => yF fo_91_0 rfl) (tP rfl (fun w => yM rfl) (tP rfl (fun w => yG rfl (y_nilptr rfl rfl)) (tP rfl (fun w => yF fo_91_1 rfl) (tQ rfl hS (fun w hm => yL hm 0 isAgg41 rfl) (tO (tY rfl (yL hm 0 isAgg3 rfl) (tAs hS (gg fun aD aH aB => ?_))))))))))
   obtain ⟨aN, aO, aP, he⟩ := idx_form h1p aB
   obtain ⟨rfl, _, rfl⟩ := sl3 he
   exact tP rfl (fun w => yI st_41 aH (idx_lt aB) rfl) (tP rfl (fun w => yF fo_56_0 rfl) (tO (tY rfl (yl isAgg3 ((flat_cells (cs := [(nV aD.kind), (.string ⟨(aD.text).b.toArray⟩)]) (hm.now h1p) aB rfl).cell (j := 0) rfl) rfl) (tAn rfl (tP rfl (fun w => yB rfl) (tP rfl (fun w => yKf rfl) (tE (gz hm [0] rfl))))))))
  repeat clear hm
  intro aA w hm
  refine gs 33 rfl (fun aI => ?_) fun aI => ?_
  ·
   exact gct rfl (gS (gR (gM rfl (gY (yG rfl (y_nilptr rfl rfl)) (gF fo_91_1 rfl (gS1 hm 0 sizeOf3 rfl rfl fun w hm => gE (gS (gR (gA rfl (gE (gRt (gr1 results124 rfl ⟨rfl, hm.pk [0] rfl rfl⟩))))))))))))
  refine gcf rfl (gSk (gS (gR (gM rfl (gM rfl (gY (yG rfl (y_nilptr rfl rfl)) (gF fo_91_1 rfl (gL hm 0 isAgg3 rfl (gB rfl (gY (yG rfl (y_nilptr rfl rfl)) (gF fo_91_1 rfl (gS1 hm 0 sizeOf3 rfl rfl fun w hm => gE (gS (gW (.p 0 (.p 1 (.p 2 (.p 4 (.p 5 (.p 6 (.q 3 (.e 7 (.p 8 (.p 9 (.p 10 (.e 11 (.p 12 .fin) .nil)))) .nil)))))))) [7] [0, 1, 2, 4, 5, 6, 8, 9, 10, 12] hm [0] [blk bp0 [v1p, (nV (w64 (r_.at_ + 1)))] 91] rfl mxo (by kernel_rfl) (fun _ _ _ h => h.2) fun w hm hS => tP rfl (fun w => yM rfl) (tP rfl (fun w => yG rfl (y_nilptr rfl rfl)) (tP rfl (fun w => yF fo_91_0 rfl) (tP rfl (fun w => yM rfl) (tP rfl (fun w => yG rfl (y_nilptr rfl rfl)) (tP rfl (fun w => yF fo_91_1 rfl) (tQ rfl hS (fun w hm => yL hm 0 isAgg41 rfl) (tO (tY rfl (yL hm 0 isAgg3 rfl) (tAs hS (tP rfl (fun w => yB rfl) (gg fun aE aJ aC => ?_)))))))))))))))))))))))))
  obtain ⟨aQ, aR, aT, he⟩ := idx_form h1p aC
  subst he
  exact tP rfl (fun w => yI st_41 aJ (idx_lt aC) rfl) (tP rfl (fun w => yF fo_56_1 rfl) (tO (tY rfl (yl isAgg9 ((flat_cells (cs := [(nV aE.kind), (.string ⟨(aE.text).b.toArray⟩)]) (hm.now h1p) aC rfl).cell (j := 1) rfl) rfl) (tAn rfl (tP rfl (fun w => yA rfl) (tE (gRt (gr1 results124 rfl ⟨rfl, hm.pk [0] rfl rfl⟩))))))))
theorem spec_l3Op_ok (w0 : World) (text : Str) :
    ConM Tryz.prog 185 [(.string ⟨(text).b.toArray⟩)] w0 (spec_l3Op text) fun r v w' => v = (nV r) ∧ Below w0.heap.size w0 w' := by
  unfold spec_l3Op
  refine gcon func185 rfl fun r => ?_
  have hm := Mem.start w0
  refine gS (gR (gA rfl (gE (gS (gR (gf rfl (fun a hf => e_build (vs := #[(0, (.string ⟨((mkS [])).b.toArray⟩)), (1, (.string ⟨((mkS [108, 101, 116])).b.toArray⟩)), (2, (.string ⟨((mkS [])).b.toArray⟩)), (3, (.string ⟨((mkS [115, 97, 121])).b.toArray⟩)), (4, (.string ⟨((mkS [112, 117, 116])).b.toArray⟩)), (5, (.string ⟨((mkS [105, 102])).b.toArray⟩)), (6, (.string ⟨((mkS [108, 111, 111, 112])).b.toArray⟩)), (7, (.string ⟨((mkS [98, 97, 99, 107])).b.toArray⟩)), (8, (.string ⟨((mkS [100, 111])).b.toArray⟩))]) (cs := [(.string ⟨((mkS [])).b.toArray⟩), (.string ⟨((mkS [108, 101, 116])).b.toArray⟩), (.string ⟨((mkS [])).b.toArray⟩), (.string ⟨((mkS [115, 97, 121])).b.toArray⟩), (.string ⟨((mkS [112, 117, 116])).b.toArray⟩), (.string ⟨((mkS [105, 102])).b.toArray⟩), (.string ⟨((mkS [108, 111, 111, 112])).b.toArray⟩), (.string ⟨((mkS [98, 97, 99, 107])).b.toArray⟩), (.string ⟨((mkS [100, 111])).b.toArray⟩)]) et_74 hf hm rfl rfl (by kernel_rfl) rfl rfl) ?_))))))
  rintro _ w ⟨aA, rfl, hm⟩
  replace hm := hm.lit (xs := ([(mkS []), (mkS [108, 101, 116]), (mkS []), (mkS [115, 97, 121]), (mkS [112, 117, 116]), (mkS [105, 102]), (mkS [108, 111, 111, 112]), (mkS [98, 97, 99, 107]), (mkS [100, 111])] : List Str)) 0 rfl rfl rfl rfl
  refine gA rfl (gE (gS (gS (gR (gA rfl (gE (gBk (gNf hm (fun aB aD => [(0, (.string ⟨(text).b.toArray⟩)), (3, (sV aA 0 9 9)), (4, (nV aB))]) (fun aB aD => [ow [(sV aA 0 9 9)] ([(mkS []), (mkS [108, 101, 116]), (mkS []), (mkS [115, 97, 121]), (mkS [112, 117, 116]), (mkS [105, 102]), (mkS [108, 111, 111, 112]), (mkS [98, 97, 99, 107]), (mkS [100, 111])] : List Str)]) [0] rfl ?_ ?_))))))))
  ·
   repeat clear hm
   intro aL aG aB aD w hm aM aN aO aH
   refine gS (gS (gR (gM rfl (gM rfl ?_))))
   have aP := rep_len (hm.ow_rep 0 rfl)
   refine gY (yV st_74 rfl) (gB rfl (gE (go _ 9 rfl (decide_eq_true (by omega)) (gct rfl (gSk (gS (gBk (gS (gJ hm (fun aC => [(0, (.string ⟨(text).b.toArray⟩)), (3, (sV aA 0 9 9)), (4, (nV aB)), (21, (.bool (aC)))]) (fun aC => [ow [(sV aA 0 9 9)] ([(mkS []), (mkS [108, 101, 116]), (mkS []), (mkS [115, 97, 121]), (mkS [112, 117, 116]), (mkS [105, 102]), (mkS [108, 111, 111, 112]), (mkS [98, 97, 99, 107]), (mkS [100, 111])] : List Str)]) (fun aC => ?_) ?_)))))))))
   ·
    refine gR (gM rfl (gM rfl (gg fun aE aI aF => ?_)))
    have hL2_1 := rep_slice_len (hm.ow_rep 0 rfl)
    refine gI st_74 aI (idx_lt2 aF hL2_1) rfl (gY (yl isAgg9 ((flat_cells (cs := [(.string ⟨(aE).b.toArray⟩)]) (hm.ow_rep 0 rfl) aF rfl).cell (j := 0) rfl) rfl) (gM rfl (gY (yG rfl (y_eqls (p := aE) (q := text) rfl rfl rfl)) (gM rfl (gsd 18 rfl (fun aJ => ?_) fun aJ => ?_)))))
    ·
     exact gM rfl (gY (yG rfl (y_neqs (p := text) (q := (mkS [])) rfl rfl rfl)) (gKt rfl (gE (gz hm [0] rfl))))
    exact gO rfl (gO rfl (gKf rfl (gE (gz hm [0] rfl))))
   repeat clear hm
   intro aC w hm
   refine gs 21 rfl (fun aK => ?_) fun aK => ?_
   ·
    exact gct rfl (gS (gR (gM rfl (gA rfl (gE (gRt (gLr aH aG (gr1 results185 rfl ⟨rfl, hm.below⟩))))))))
   exact gcf rfl (gSk (gR (gM rfl (gP (by omega) (by omega) rfl (gA rfl (gE (gze hm [0] rfl)))))))
  repeat clear hm
  intro aQ aR w hm aT aU
  refine gS (gS (gR (gM rfl (gM rfl ?_))))
  have aV := rep_len (hm.ow_rep 0 rfl)
  exact gY (yV st_74 rfl) (gB rfl (gE (go _ 9 rfl (decide_eq_false (by omega)) (gcf rfl (gXt (gHh (gS (gR (gA rfl (gE (gRt (gr1 results185 rfl ⟨rfl, hm.below⟩))))))))))))
theorem spec_l2Level_ok (w0 : World) (op : Int) :
    ConM Tryz.prog 115 [(nV op)] w0 (spec_l2Level op) fun r v w' => v = (nV r) ∧ Below w0.heap.size w0 w' := by
  unfold spec_l2Level
  refine gcon func115 rfl fun r => ?_
  have hm := Mem.start w0
  refine gS (gR (gA rfl (gE (gS (gS (gR (gM rfl (gE (gBk (gS (gR (gB rfl (gA rfl (gE (gsd 4 rfl (fun aF => ?_) fun aF => ?_)))))))))))))))
  ·
   exact gct rfl (gS (gR (gA rfl (gE (gRt (gr1 results115 rfl ⟨rfl, hm.below⟩))))))
  refine gcf rfl (gS (gS (gR (gB rfl (gA rfl (gE (gJ hm (fun aA => [(3, (nV op)), (6, (.bool (aA)))]) (fun aA => []) (fun aA => ?_) ?_)))))))
  ·
   refine gsd 6 rfl (fun aG => ?_) fun aG => ?_
   ·
    exact gct rfl (gSk (gz hm [] rfl))
   exact gcf rfl (gR (gB rfl (gA rfl (gE (gz hm [] rfl)))))
  repeat clear hm
  intro aA w hm
  refine gs 6 rfl (fun aH => ?_) fun aH => ?_
  ·
   exact gct rfl (gS (gR (gA rfl (gE (gRt (gr1 results115 rfl ⟨rfl, hm.below⟩))))))
  refine gcf rfl (gS (gS (gR (gB rfl (gA rfl (gE (gJ hm (fun aB => [(3, (nV op)), (9, (.bool (aB)))]) (fun aB => []) (fun aB => ?_) ?_)))))))
  ·
   refine gsd 9 rfl (fun aI => ?_) fun aI => ?_
   ·
    exact gct rfl (gSk (gz hm [] rfl))
   exact gcf rfl (gR (gB rfl (gA rfl (gE (gz hm [] rfl)))))
  repeat clear hm
  intro aB w hm
  refine gs 9 rfl (fun aJ => ?_) fun aJ => ?_
  ·
   exact gct rfl (gS (gR (gA rfl (gE (gRt (gr1 results115 rfl ⟨rfl, hm.below⟩))))))
  refine gcf rfl (gS (gS (gR (gB rfl (gA rfl (gE (gJ hm (fun aC => [(3, (nV op)), (12, (.bool (aC)))]) (fun aC => []) (fun aC => ?_) ?_)))))))
  ·
   refine gsd 12 rfl (fun aK => ?_) fun aK => ?_
   ·
    exact gct rfl (gSk (gz hm [] rfl))
   refine gcf rfl (gS (gR (gB rfl (gA rfl (gE (gJ hm (fun aD => [(3, (nV op)), (12, (.bool (aD)))]) (fun aD => []) (fun aD => ?_) ?_))))))
   ·
    refine gsd 12 rfl (fun aL => ?_) fun aL => ?_
    ·
     exact gct rfl (gSk (gz hm [] rfl))
    exact gcf rfl (gR (gB rfl (gA rfl (gE (gz hm [] rfl)))))
   repeat clear hm
   intro aD w hm
   exact gz hm [] rfl
  repeat clear hm
  intro aC w hm
  refine gs 12 rfl (fun aM => ?_) fun aM => ?_
  ·
   exact gct rfl (gS (gR (gA rfl (gE (gRt (gr1 results115 rfl ⟨rfl, hm.below⟩))))))
  refine gcf rfl (gS (gS (gR (gB rfl (gA rfl (gE (gJ hm (fun aE => [(16, (.bool (aE)))]) (fun aE => []) (fun aE => ?_) ?_)))))))
  ·
   refine gsd 16 rfl (fun aN => ?_) fun aN => ?_
   ·
    exact gct rfl (gSk (gz hm [] rfl))
   exact gcf rfl (gR (gB rfl (gA rfl (gE (gz hm [] rfl)))))
  repeat clear hm
  intro aE w hm
  refine gs 16 rfl (fun aO => ?_) fun aO => ?_
  ·
   exact gct rfl (gS (gR (gA rfl (gE (gRt (gr1 results115 rfl ⟨rfl, hm.below⟩))))))
  exact gcf rfl (gSk (gS (gR (gA rfl (gE (gRt (gr1 results115 rfl ⟨rfl, hm.below⟩)))))))
theorem spec_l2Sign_ok (w0 : World) (op : Int) :
    ConM Tryz.prog 117 [(nV op)] w0 (spec_l2Sign op) fun r v w' => v = (.string ⟨(r).b.toArray⟩) ∧ Below w0.heap.size w0 w' := by
  unfold spec_l2Sign
  refine gcon func117 rfl fun r => ?_
  have hm := Mem.start w0
  refine gS (gR (gA rfl (gE (gS (gS (gR (gM rfl (gC hm rfl call112 (spec_l1In_ok _ op 3 12) fun aE aF w hm => gN rfl (gE (gsn 6 rfl (fun aA => ?_) fun aA => ?_))))))))))
  ·
   exact gct rfl (gS (gR (gA rfl (gE (gRt (gr1 results117 rfl ⟨rfl, hm.below⟩))))))
  refine gcf rfl (gSk (gS (gR (gM rfl (gB rfl (gA rfl (gE (gS (gR (gM rfl (gM rfl (gB rfl (gb fun aG aB => ?_)))))))))))))
  obtain ⟨aC, aD⟩ := subS_some.1 aB
  refine gY (yG rfl (y_subs (s := (mkS [43, 45, 42, 47, 37, 60, 61, 38, 33, 64])) underlying9 rfl rfl rfl rfl aC _)) ?_
  rw [aD]
  exact gA rfl (gE (gRt (gr1 results117 rfl ⟨rfl, hm.below⟩)))
theorem spec_l2Op_ok (w0 : World) (list : List Word_) (v1 : Value) (h1 : GT.rep (hp w0) [v1] list) (at_ : Int) (level : Int) :
    ConM Tryz.prog 103 [v1, (nV at_), (nV level)] w0 (spec_l2Op list at_ level) fun r v w' => v = (nV r) ∧ Below w0.heap.size w0 w' := by
  unfold spec_l2Op
  refine gcon func103 rfl fun r => ?_
  have hm := Mem.start w0
  refine gS (gR (gA rfl (gE (gS (gS (gR (gA rfl (gE (gBk (gNf hm (fun aA aC => [(0, v1), (1, (nV at_)), (2, (nV level)), (7, (nV aA))]) (fun aA aC => []) [] rfl ?_ ?_))))))))))
  ·
   repeat clear hm
   intro aI aD aA aC w hm aJ aK aL aE
   refine gS (gS (gR (gM rfl (gB rfl (gE (go _ 9 rfl (decide_eq_true (by omega)) (gct rfl (gSk (gS (gBk (gS (gJ hm (fun aB => [(0, v1), (1, (nV at_)), (2, (nV level)), (7, (nV aA)), (22, (.bool (aB)))]) (fun aB => []) (fun aB => ?_) ?_))))))))))))
   ·
    refine gR (gM rfl (gC hm rfl call115 (spec_l2Level_ok _ aA) fun aM aN w hm => gM rfl (gB rfl (gM rfl (gsd 16 rfl (fun aF => ?_) fun aF => ?_)))))
    ·
     exact gM rfl (gM rfl (gM rfl (gC hm rfl call117 (spec_l2Sign_ok _ aA) fun aG aO w hm => gC hm rfl call156 (spec_l2Is_ok _ list v1 (hm.now h1) at_ aG) fun aP aQ w hm => gKt rfl (gE (gz hm [] rfl)))))
    exact gO rfl (gO rfl (gO rfl (gO rfl (gO rfl (gKf rfl (gE (gz hm [] rfl)))))))
   repeat clear hm
   intro aB w hm
   refine gs 22 rfl (fun aH => ?_) fun aH => ?_
   ·
    exact gct rfl (gS (gR (gM rfl (gA rfl (gE (gRt (gLr aE aD (gr1 results103 rfl ⟨rfl, hm.below⟩))))))))
   exact gcf rfl (gSk (gR (gM rfl (gP (by omega) (by omega) rfl (gA rfl (gE (gze hm [] rfl)))))))
  repeat clear hm
  intro aR aT w hm aU aV
  exact gS (gS (gR (gM rfl (gB rfl (gE (go _ 9 rfl (decide_eq_false (by omega)) (gcf rfl (gXt (gHh (gS (gR (gA rfl (gE (gRt (gr1 results103 rfl ⟨rfl, hm.below⟩)))))))))))))))
theorem spec_NumberOf_ok (w0 : World) (w_ : Word_) :
    ConM Tryz.prog 157 [(.agg #[(nV w_.kind), (.string ⟨(w_.text).b.toArray⟩)])] w0 (spec_NumberOf w_) fun r v w' => v = (nV r) ∧ Below w0.heap.size w0 w' := by
  unfold spec_NumberOf
  refine gcon func157 rfl fun r => ?_
  have hm := Mem.start w0
  refine gS (gR (gBx hm rfl fun aB w hm => gA rfl (gE (gS (gS (gJ hm (fun aA => [(1, (pV aB)), (12, (.bool (aA)))]) (fun aA => [blk aB [(nV w_.kind), (.string ⟨(w_.text).b.toArray⟩)] 56]) (fun aA => ?_) ?_))))))
  ·
   refine gR (gF fo_56_0 rfl (gL hm 0 isAgg3 rfl (gB rfl (gM rfl (gsd 8 rfl (fun aC => ?_) fun aC => ?_)))))
   ·
    exact gO rfl (gO rfl (gO rfl (gKt rfl (gE (gz hm [0] rfl)))))
   exact gY (yn (hm.blk_at 0 rfl) isAgg56 sizeOf56 rfl) (gC hm rfl call100 (spec_WordValid_ok _ w_) fun aE aF w hm => gN rfl (gKf rfl (gE (gz hm [0] rfl))))
  repeat clear hm
  intro aA w hm
  refine gs 12 rfl (fun aD => ?_) fun aD => ?_
  ·
   exact gct rfl (gS (gR (gA rfl (gE (gRt (gr1 results157 rfl ⟨rfl, hm.below⟩))))))
  exact gcf rfl (gSk (gS (gR (gF fo_56_1 rfl (gL hm 0 isAgg9 rfl (gC hm rfl call154 (spec_l30Num_ok _ w_.text) fun aG aH w hm => gM rfl (gX rfl (gX rfl (gA rfl (gA rfl (gE (gS (gR (gM rfl (gA rfl (gE (gRt (gr1 results157 rfl ⟨rfl, hm.below⟩))))))))))))))))))
theorem spec_l1Step_ok (w0 : World) (at_ : Int) :
    ConM Tryz.prog 180 [(nV at_)] w0 (spec_l1Step at_) fun r v w' => v = (nV r) ∧ Below w0.heap.size w0 w' := by
  unfold spec_l1Step
  refine gcon func180 rfl fun r => ?_
  have hm := Mem.start w0
  refine gS (gR (gA rfl (gE (gS (gS (gR (gM rfl (gB rfl (gE (gsd 4 rfl (fun aA => ?_) fun aA => ?_))))))))))
  ·
   exact gct rfl (gS (gR (gA rfl (gE (gRt (gr1 results180 rfl ⟨rfl, hm.below⟩))))))
  exact gcf rfl (gSk (gS (gR (gA rfl (gE (gRt (gr1 results180 rfl ⟨rfl, hm.below⟩)))))))
theorem spec_l2Read_all (list : List Word_) : (∀ (at_ : Int) (level : Int) (r : Expr_ × Int), spec_l2Read list at_ level = some r → ∀ (w0 : World) (v1 : Value) (h1 : GT.rep (hp w0) [v1] list), Con Tryz.prog 45 [v1, (nV at_), (nV level)] w0 (fun v w' => ∃ (x1 : Value), v = (.tuple #[(.agg #[(nV r.1.op), (nV r.1.n_), (.string ⟨(r.1.name).b.toArray⟩), x1]), (nV r.2)]) ∧ Mem w0 (hp w0) w' [ow [x1] r.1.kids])) ∧
    (∀ (at_ : Int) (r : Expr_ × Int), spec_l2Tight list at_ = some r → ∀ (w0 : World) (v1 : Value) (h1 : GT.rep (hp w0) [v1] list), Con Tryz.prog 102 [v1, (nV at_)] w0 (fun v w' => ∃ (x1 : Value), v = (.tuple #[(.agg #[(nV r.1.op), (nV r.1.n_), (.string ⟨(r.1.name).b.toArray⟩), x1]), (nV r.2)]) ∧ Mem w0 (hp w0) w' [ow [x1] r.1.kids])) ∧
    (∀ (at_ : Int) (r : (List Expr_) × Int), spec_l2List list at_ = some r → ∀ (w0 : World) (v1 : Value) (h1 : GT.rep (hp w0) [v1] list), Con Tryz.prog 158 [v1, (nV at_)] w0 (fun v w' => ∃ (x1 : Value), v = (.tuple #[x1, (nV r.2)]) ∧ Mem w0 (hp w0) w' [ow [x1] r.1])) := by
  refine spec_l2Read.mutual_partial_correctness list (motive_1 := fun at_ level r => ∀ (w0 : World) (v1 : Value) (h1 : GT.rep (hp w0) [v1] list), Con Tryz.prog 45 [v1, (nV at_), (nV level)] w0 (fun v w' => ∃ (x1 : Value), v = (.tuple #[(.agg #[(nV r.1.op), (nV r.1.n_), (.string ⟨(r.1.name).b.toArray⟩), x1]), (nV r.2)]) ∧ Mem w0 (hp w0) w' [ow [x1] r.1.kids])) (motive_2 := fun at_ r => ∀ (w0 : World) (v1 : Value) (h1 : GT.rep (hp w0) [v1] list), Con Tryz.prog 102 [v1, (nV at_)] w0 (fun v w' => ∃ (x1 : Value), v = (.tuple #[(.agg #[(nV r.1.op), (nV r.1.n_), (.string ⟨(r.1.name).b.toArray⟩), x1]), (nV r.2)]) ∧ Mem w0 (hp w0) w' [ow [x1] r.1.kids])) (motive_3 := fun at_ r => ∀ (w0 : World) (v1 : Value) (h1 : GT.rep (hp w0) [v1] list), Con Tryz.prog 158 [v1, (nV at_)] w0 (fun v w' => ∃ (x1 : Value), v = (.tuple #[x1, (nV r.2)]) ∧ Mem w0 (hp w0) w' [ow [x1] r.1])) ?_ ?_ ?_
  · intro rec_1 rec_2 ih_1 ih_2 at_ level r hq w0 v1 h1
    have spec_l2Read_rec : ∀ (w0 : World) (_ : List Word_) (v1 : Value) (h1 : GT.rep (hp w0) [v1] list) (at_ : Int) (level : Int) (r : Expr_ × Int) (hq : rec_1 at_ level = some r), Con Tryz.prog 45 [v1, (nV at_), (nV level)] w0 (fun v w' => ∃ (x1 : Value), v = (.tuple #[(.agg #[(nV r.1.op), (nV r.1.n_), (.string ⟨(r.1.name).b.toArray⟩), x1]), (nV r.2)]) ∧ Mem w0 (hp w0) w' [ow [x1] r.1.kids]) := fun w0 _ v1 h1 at_ level r hq => ih_1 at_ level r hq w0 v1 h1
    have spec_l2Tight_rec : ∀ (w0 : World) (_ : List Word_) (v1 : Value) (h1 : GT.rep (hp w0) [v1] list) (at_ : Int) (r : Expr_ × Int) (hq : rec_2 at_ = some r), Con Tryz.prog 102 [v1, (nV at_)] w0 (fun v w' => ∃ (x1 : Value), v = (.tuple #[(.agg #[(nV r.1.op), (nV r.1.n_), (.string ⟨(r.1.name).b.toArray⟩), x1]), (nV r.2)]) ∧ Mem w0 (hp w0) w' [ow [x1] r.1.kids]) := fun w0 _ v1 h1 at_ r hq => ih_2 at_ r hq w0 v1 h1
    refine gconr (ρ := Expr_ × Int) (R := fun r v w' => ∃ (x1 : Value), v = (.tuple #[(.agg #[(nV r.1.op), (nV r.1.n_), (.string ⟨(r.1.name).b.toArray⟩), x1]), (nV r.2)]) ∧ Mem w0 (hp w0) w' [ow [x1] r.1.kids]) func45 rfl hq ?_
    have hm := Mem.start w0
    refine gS (gR (gAl hm zeroValue24 rfl fun aE w hm => gA rfl (gE (gS (gS (gR (gM rfl (gB rfl (gE (gsd 14 rfl (fun aU => ?_) fun aU => ?_))))))))))
    ·
     refine gct rfl (gS (gR (gM rfl (gM rfl (gCg rfl call102 (spec_l2Tight_rec _ list v1 (hm.now h1) at_) ?_)))))
     rintro av aw ax w ⟨ay, rfl, hB⟩
     replace hm := hm.give hB; clear hB
     exact gX rfl (gX rfl (gSN hm 1 sizeOf24 (one_cons rfl (one_cons rfl (one_cons rfl (one_cons (rep_one (hm.ow_rep 0 rfl)) one_nil)))) rfl fun w hm => gA rfl (gE (gRt (grct 1 results45 hm rfl isAgg24 sizeOf24 ⟨ay, rfl, hm.pk [0] rfl rfl⟩)))))
    refine gcf rfl (gSk (gS (gR (gM rfl (gM rfl (gM rfl (gB rfl (gCg rfl call45 (spec_l2Read_rec _ list v1 (hm.now h1) at_ (w64 (level + 1))) ?_))))))))
    rintro af bF aV w ⟨b7, rfl, hB⟩
    replace hm := hm.give hB; clear hB
    refine gM rfl (gX rfl (gX rfl (gAl hm zeroValue24 rfl fun aI w hm => gSN hm 0 sizeOf24 (one_cons rfl (one_cons rfl (one_cons rfl (one_cons (rep_one (hm.ow_rep 1 rfl)) one_nil)))) rfl fun w hm => gA rfl (gE (gS ?_)))))
    obtain ⟨aP, aX, rfl, az⟩ := ro_slice (hm.ow_rep 1 rfl)
    refine gJg (fun aJ a w => ∃ (aY : Value), St 58 [(6, (pV aE)), (8, (pV aI)), (9, (nV aJ.2.2.2.2))] w0 (hp w0) [blk aE [(nV 0), (nV 0), (.string ⟨((mkS [])).b.toArray⟩), (.slice none 0 0)] 24, blk aI [(nV aJ.1), (nV aJ.2.1), (.string ⟨(aJ.2.2.1).b.toArray⟩), aY] 24, ow [aY] aJ.2.2.2.1] a w) (fun aJ => ?_) ?_
    ·
     refine gBk (gMg (fun aA a w => ∃ (aF : Value), St 58 [(0, v1), (2, (nV level)), (6, (pV aE)), (8, (pV aI)), (9, (nV aA.2.2.2.2))] w0 (hp w0) [blk aE [(nV 0), (nV 0), (.string ⟨((mkS [])).b.toArray⟩), (.slice none 0 0)] 24, blk aI [(nV aA.1), (nV aA.2.1), (.string ⟨(aA.2.2.1).b.toArray⟩), aF] 24, ow [aF] aA.2.2.2.1] a w) (fun a hf => ⟨(.slice aP af.1.kids.length aX), hf.sb rfl, hm.pk [2, 0, 1] rfl rfl⟩) ?_)
     repeat clear hm
     rintro aC bG aA a w ⟨aF, hf, hm⟩ b8 bH
     refine gv hf (gS (gS (gJ hm (fun aZ => [(0, v1), (2, (nV level)), (6, (pV aE)), (8, (pV aI)), (9, (nV aA.2.2.2.2)), (36, (.bool (aZ)))]) (fun aZ => [blk aE [(nV 0), (nV 0), (.string ⟨((mkS [])).b.toArray⟩), (.slice none 0 0)] 24, blk aI [(nV aA.1), (nV aA.2.1), (.string ⟨(aA.2.2.1).b.toArray⟩), aF] 24, ow [aF] aA.2.2.2.1]) (fun aZ => ?_) ?_)))
     ·
      refine gR (gM rfl (gB rfl (gM rfl (gsd 30 rfl (fun bJ => ?_) fun bJ => ?_))))
      ·
       exact gM rfl (gM rfl (gM rfl (gC hm rfl call103 (spec_l2Op_ok _ list v1 (hm.now h1) aA.2.2.2.2 level) fun b9 ba w hm => gB rfl (gKt rfl (gE (gz hm [0, 1, 2] rfl))))))
      exact gO rfl (gO rfl (gO rfl (gO rfl (gO rfl (gKf rfl (gE (gz hm [0, 1, 2] rfl)))))))
     repeat clear hm
     intro aZ w hm
     refine gs 36 rfl (fun ag => ?_) fun ag => ?_
     ·
      refine gct rfl (gSk (gBk (gS (gR (gM rfl (gM rfl (gM rfl (gC hm rfl call103 (spec_l2Op_ok _ list v1 (hm.now h1) aA.2.2.2.2 level) fun ah bK w hm => gA rfl (gE (gS (gR (gM rfl (gM rfl (gB rfl (gM rfl (gB rfl (gCg rfl call45 (spec_l2Read_rec _ list v1 (hm.now h1) (w64 (aA.2.2.2.2 + 1)) (w64 (level + 1))) ?_)))))))))))))))))
      rintro aB bb bc w ⟨aG, rfl, hB⟩
      replace hm := hm.give hB; clear hB
      refine gM rfl (gX rfl (gX rfl (gAl hm zeroValue24 rfl fun aW w hm => gSN hm 0 sizeOf24 (one_cons rfl (one_cons rfl (one_cons rfl (one_cons (rep_one (hm.ow_rep 1 rfl)) one_nil)))) rfl fun w hm => gA rfl (gE (gS (gR (gM rfl (gY (yn (hm.blk_at 3 rfl) isAgg24 sizeOf24 rfl) (gY (yn (hm.blk_at 0 rfl) isAgg24 sizeOf24 rfl) (gf rfl (fun a hf => e_build (vs := #[(0, (.agg #[(nV aA.1), (nV aA.2.1), (.string ⟨(aA.2.2.1).b.toArray⟩), aF])), (1, (.agg #[(nV aB.1.op), (nV aB.1.n_), (.string ⟨(aB.1.name).b.toArray⟩), aG]))]) (cs := [(nV aA.1), (nV aA.2.1), (.string ⟨(aA.2.2.1).b.toArray⟩), aF, (nV aB.1.op), (nV aB.1.n_), (.string ⟨(aB.1.name).b.toArray⟩), aG]) et_22 hf hm rfl rfl (by kernel_rfl) rfl rfl) ?_))))))))))
      rintro _ w ⟨aN, rfl, hm⟩
      replace hm := hm.els_nil (α := Expr_)
      replace hm : Mem w0 (hp w0) _ [els [] ([] : List Expr_), blk aN [(nV aA.1), (nV aA.2.1), (.string ⟨(aA.2.2.1).b.toArray⟩), aF, (nV aB.1.op), (nV aB.1.n_), (.string ⟨(aB.1.name).b.toArray⟩), aG] 24, blk aW [(nV aB.1.op), (nV aB.1.n_), (.string ⟨(aB.1.name).b.toArray⟩), aG] 24, ow [(nV aB.1.op), (nV aB.1.n_), (.string ⟨(aB.1.name).b.toArray⟩), aG] (aB.1 : Expr_), blk aE [(nV 0), (nV 0), (.string ⟨((mkS [])).b.toArray⟩), (.slice none 0 0)] 24, blk aI [(nV aA.1), (nV aA.2.1), (.string ⟨(aA.2.2.1).b.toArray⟩), aF] 24, ow [aF] aA.2.2.2.1] := mkx_Expr_ aB.1 hm 3 rfl
      replace hm := (hm.els_cons 0 3 (by decide) rfl rfl).pk (L' := [els [(nV aB.1.op), (nV aB.1.n_), (.string ⟨(aB.1.name).b.toArray⟩), aG] ([aB.1] : List Expr_), blk aN [(nV aA.1), (nV aA.2.1), (.string ⟨(aA.2.2.1).b.toArray⟩), aF, (nV aB.1.op), (nV aB.1.n_), (.string ⟨(aB.1.name).b.toArray⟩), aG] 24, blk aW [(nV aB.1.op), (nV aB.1.n_), (.string ⟨(aB.1.name).b.toArray⟩), aG] 24, blk aE [(nV 0), (nV 0), (.string ⟨((mkS [])).b.toArray⟩), (.slice none 0 0)] 24, blk aI [(nV aA.1), (nV aA.2.1), (.string ⟨(aA.2.2.1).b.toArray⟩), aF] 24, ow [aF] aA.2.2.2.1]) [0, 1, 2, 4, 5, 6] rfl rfl
      replace hm : Mem w0 (hp w0) _ [els [(nV aB.1.op), (nV aB.1.n_), (.string ⟨(aB.1.name).b.toArray⟩), aG] ([aB.1] : List Expr_), blk aN [(nV aA.1), (nV aA.2.1), (.string ⟨(aA.2.2.1).b.toArray⟩), aF, (nV aB.1.op), (nV aB.1.n_), (.string ⟨(aB.1.name).b.toArray⟩), aG] 24, blk aW [(nV aB.1.op), (nV aB.1.n_), (.string ⟨(aB.1.name).b.toArray⟩), aG] 24, blk aE [(nV 0), (nV 0), (.string ⟨((mkS [])).b.toArray⟩), (.slice none 0 0)] 24, blk aI [(nV aA.1), (nV aA.2.1), (.string ⟨(aA.2.2.1).b.toArray⟩), aF] 24, ow [(nV aA.1), (nV aA.2.1), (.string ⟨(aA.2.2.1).b.toArray⟩), aF] ((⟨aA.1, aA.2.1, aA.2.2.1, aA.2.2.2.1⟩ : Expr_) : Expr_)] := mk_Expr_ aA.1 aA.2.1 aA.2.2.1 hm 5 rfl
      replace hm := (hm.els_cons 0 5 (by decide) rfl rfl).pk (L' := [els [(nV aA.1), (nV aA.2.1), (.string ⟨(aA.2.2.1).b.toArray⟩), aF, (nV aB.1.op), (nV aB.1.n_), (.string ⟨(aB.1.name).b.toArray⟩), aG] ([(⟨aA.1, aA.2.1, aA.2.2.1, aA.2.2.2.1⟩ : Expr_), aB.1] : List Expr_), blk aN [(nV aA.1), (nV aA.2.1), (.string ⟨(aA.2.2.1).b.toArray⟩), aF, (nV aB.1.op), (nV aB.1.n_), (.string ⟨(aB.1.name).b.toArray⟩), aG] 24, blk aW [(nV aB.1.op), (nV aB.1.n_), (.string ⟨(aB.1.name).b.toArray⟩), aG] 24, blk aE [(nV 0), (nV 0), (.string ⟨((mkS [])).b.toArray⟩), (.slice none 0 0)] 24, blk aI [(nV aA.1), (nV aA.2.1), (.string ⟨(aA.2.2.1).b.toArray⟩), aF] 24]) [0, 1, 2, 3, 4] rfl rfl
      replace hm := (hm.lit_els 1 0 (by decide) rfl rfl rfl rfl).pk (L' := [ow [(sV aN 0 2 2)] ([(⟨aA.1, aA.2.1, aA.2.2.1, aA.2.2.2.1⟩ : Expr_), aB.1] : List Expr_), blk aW [(nV aB.1.op), (nV aB.1.n_), (.string ⟨(aB.1.name).b.toArray⟩), aG] 24, blk aE [(nV 0), (nV 0), (.string ⟨((mkS [])).b.toArray⟩), (.slice none 0 0)] 24, blk aI [(nV aA.1), (nV aA.2.1), (.string ⟨(aA.2.2.1).b.toArray⟩), aF] 24]) [1, 2, 3, 4] rfl rfl
      exact gY (yG rfl (y_build (vs := [(0, (nV ah)), (3, (sV aN 0 2 2))]) (cs := #[(nV ah), (nV 0), (.string ⟨((mkS [])).b.toArray⟩), (sV aN 0 2 2)]) rfl rfl (by kernel_rfl))) (gSN hm 3 sizeOf24 (one_cons rfl (one_cons rfl (one_cons rfl (one_cons rfl one_nil)))) rfl fun w hm => gE (gR (gM rfl (gA rfl (gE (gZe fun a hf => ⟨(sV aN 0 2 2), hf.sb rfl, hm.pk [2, 3, 0] rfl rfl⟩))))))
     exact gcf rfl (gXt (gHh (gLp bH bG (gZ fun a hf => ⟨aF, hf.sb rfl, hm.pk [0, 1, 2] rfl rfl⟩))))
    repeat clear hm
    rintro aJ a w ⟨aY, hf, hm⟩
    exact gv hf (gS (gR (gY (yn (hm.blk_at 1 rfl) isAgg24 sizeOf24 rfl) (gM rfl (gSN hm 0 sizeOf24 (one_cons rfl (one_cons rfl (one_cons rfl (one_cons (rep_one (hm.ow_rep 2 rfl)) one_nil)))) rfl fun w hm => gA rfl (gE (gRt (grct 0 results45 hm rfl isAgg24 sizeOf24 ⟨aY, rfl, hm.pk [2] rfl rfl⟩))))))))
  · intro rec_1 rec_2 rec_3 ih_1 ih_2 ih_3 at_ r hq w0 v1 h1
    have spec_l2Read_rec : ∀ (w0 : World) (_ : List Word_) (v1 : Value) (h1 : GT.rep (hp w0) [v1] list) (at_ : Int) (level : Int) (r : Expr_ × Int) (hq : rec_1 at_ level = some r), Con Tryz.prog 45 [v1, (nV at_), (nV level)] w0 (fun v w' => ∃ (x1 : Value), v = (.tuple #[(.agg #[(nV r.1.op), (nV r.1.n_), (.string ⟨(r.1.name).b.toArray⟩), x1]), (nV r.2)]) ∧ Mem w0 (hp w0) w' [ow [x1] r.1.kids]) := fun w0 _ v1 h1 at_ level r hq => ih_1 at_ level r hq w0 v1 h1
    have spec_l2Tight_rec : ∀ (w0 : World) (_ : List Word_) (v1 : Value) (h1 : GT.rep (hp w0) [v1] list) (at_ : Int) (r : Expr_ × Int) (hq : rec_2 at_ = some r), Con Tryz.prog 102 [v1, (nV at_)] w0 (fun v w' => ∃ (x1 : Value), v = (.tuple #[(.agg #[(nV r.1.op), (nV r.1.n_), (.string ⟨(r.1.name).b.toArray⟩), x1]), (nV r.2)]) ∧ Mem w0 (hp w0) w' [ow [x1] r.1.kids]) := fun w0 _ v1 h1 at_ r hq => ih_2 at_ r hq w0 v1 h1
    have spec_l2List_rec : ∀ (w0 : World) (_ : List Word_) (v1 : Value) (h1 : GT.rep (hp w0) [v1] list) (at_ : Int) (r : (List Expr_) × Int) (hq : rec_3 at_ = some r), Con Tryz.prog 158 [v1, (nV at_)] w0 (fun v w' => ∃ (x1 : Value), v = (.tuple #[x1, (nV r.2)]) ∧ Mem w0 (hp w0) w' [ow [x1] r.1]) := fun w0 _ v1 h1 at_ r hq => ih_3 at_ r hq w0 v1 h1
    refine gconr (ρ := Expr_ × Int) (R := fun r v w' => ∃ (x1 : Value), v = (.tuple #[(.agg #[(nV r.1.op), (nV r.1.n_), (.string ⟨(r.1.name).b.toArray⟩), x1]), (nV r.2)]) ∧ Mem w0 (hp w0) w' [ow [x1] r.1.kids]) func102 rfl hq ?_
    have hm := Mem.start w0
    refine gS (gR (gAl hm zeroValue24 rfl fun aE w hm => gA rfl (gE (gS (gS (gR (gA rfl (gE (gBk (gNf hm (fun aR aK => [(0, v1), (1, (nV at_)), (4, (pV aE)), (6, (nV aR))]) (fun aR aK => [blk aE [(nV 0), (nV 0), (.string ⟨((mkS [])).b.toArray⟩), (.slice none 0 0)] 24]) [0] rfl ?_ ?_))))))))))
    ·
     repeat clear hm
     intro av a7 aR aK w hm bd be bL bM
     refine gS (gS (gR (gM rfl (gB rfl (gE (go _ 14 rfl (decide_eq_true (by omega)) (gct rfl (gSk (gS (gBk (gS (gR (gM rfl (gM rfl (gM rfl (gC hm rfl call117 (spec_l2Sign_ok _ aR) fun aC bN w hm => gC hm rfl call156 (spec_l2Is_ok _ list v1 (hm.now h1) at_ aC) fun bO bA w hm => gE (gs 21 rfl (fun ai => ?_) fun ai => ?_)))))))))))))))))
     ·
      refine gct rfl (gS (gR (gM rfl (gM rfl (gB rfl (gCg rfl call102 (spec_l2Tight_rec _ list v1 (hm.now h1) (w64 (at_ + 1))) ?_))))))
      rintro aD bP aL w ⟨aH, rfl, hB⟩
      replace hm := hm.give hB; clear hB
      refine gM rfl (gX rfl (gX rfl (gAl hm zeroValue24 rfl fun aO w hm => gSN hm 0 sizeOf24 (one_cons rfl (one_cons rfl (one_cons rfl (one_cons (rep_one (hm.ow_rep 1 rfl)) one_nil)))) rfl fun w hm => gA rfl (gE (gS (gR (gM rfl (gY (yn (hm.blk_at 0 rfl) isAgg24 sizeOf24 rfl) (gf rfl (fun a hf => e_build (vs := #[(0, (.agg #[(nV aD.1.op), (nV aD.1.n_), (.string ⟨(aD.1.name).b.toArray⟩), aH]))]) (cs := [(nV aD.1.op), (nV aD.1.n_), (.string ⟨(aD.1.name).b.toArray⟩), aH]) et_22 hf hm rfl rfl (by kernel_rfl) rfl rfl) ?_)))))))))
      rintro _ w ⟨aM, rfl, hm⟩
      replace hm := hm.els_nil (α := Expr_)
      replace hm : Mem w0 (hp w0) _ [els [] ([] : List Expr_), blk aM [(nV aD.1.op), (nV aD.1.n_), (.string ⟨(aD.1.name).b.toArray⟩), aH] 24, blk aO [(nV aD.1.op), (nV aD.1.n_), (.string ⟨(aD.1.name).b.toArray⟩), aH] 24, ow [(nV aD.1.op), (nV aD.1.n_), (.string ⟨(aD.1.name).b.toArray⟩), aH] (aD.1 : Expr_), blk aE [(nV 0), (nV 0), (.string ⟨((mkS [])).b.toArray⟩), (.slice none 0 0)] 24] := mkx_Expr_ aD.1 hm 3 rfl
      replace hm := (hm.els_cons 0 3 (by decide) rfl rfl).pk (L' := [els [(nV aD.1.op), (nV aD.1.n_), (.string ⟨(aD.1.name).b.toArray⟩), aH] ([aD.1] : List Expr_), blk aM [(nV aD.1.op), (nV aD.1.n_), (.string ⟨(aD.1.name).b.toArray⟩), aH] 24, blk aO [(nV aD.1.op), (nV aD.1.n_), (.string ⟨(aD.1.name).b.toArray⟩), aH] 24, blk aE [(nV 0), (nV 0), (.string ⟨((mkS [])).b.toArray⟩), (.slice none 0 0)] 24]) [0, 1, 2, 4] rfl rfl
      replace hm := (hm.lit_els 1 0 (by decide) rfl rfl rfl rfl).pk (L' := [ow [(sV aM 0 1 1)] ([aD.1] : List Expr_), blk aO [(nV aD.1.op), (nV aD.1.n_), (.string ⟨(aD.1.name).b.toArray⟩), aH] 24, blk aE [(nV 0), (nV 0), (.string ⟨((mkS [])).b.toArray⟩), (.slice none 0 0)] 24]) [1, 2, 3] rfl rfl
      exact gY (yG rfl (y_build (vs := [(0, (nV aR)), (3, (sV aM 0 1 1))]) (cs := #[(nV aR), (nV 0), (.string ⟨((mkS [])).b.toArray⟩), (sV aM 0 1 1)]) rfl rfl (by kernel_rfl))) (gM rfl (gSN hm 2 sizeOf24 (one_cons rfl (one_cons rfl (one_cons rfl (one_cons rfl one_nil)))) rfl fun w hm => gA rfl (gE (gRt (gLr bM a7 (grct 2 results102 hm rfl isAgg24 sizeOf24 ⟨(sV aM 0 1 1), rfl, hm.pk [0] rfl rfl⟩))))))
     exact gcf rfl (gSk (gR (gM rfl (gP (by omega) (by omega) rfl (gA rfl (gE (gze hm [0] rfl)))))))
    repeat clear hm
    intro bf bg w hm bh bi
    refine gS (gS (gR (gM rfl (gB rfl (gE (go _ 14 rfl (decide_eq_false (by omega)) (gcf rfl (gXt (gHh (gS (gS (gR (gM rfl (gM rfl (gC hm rfl call156 (spec_l2Is_ok _ list v1 (hm.now h1) at_ (mkS [40])) fun af aw w hm => gE (gs 36 rfl (fun aU => ?_) fun aU => ?_))))))))))))))))
    ·
     refine gct rfl (gS (gR (gM rfl (gM rfl (gB rfl (gCg rfl call45 (spec_l2Read_rec _ list v1 (hm.now h1) (w64 (at_ + 1)) 1) ?_))))))
     rintro aT bF ay w ⟨aV, rfl, hB⟩
     replace hm := hm.give hB; clear hB
     refine gM rfl (gX rfl (gX rfl (gAl hm zeroValue24 rfl fun aI w hm => gSN hm 0 sizeOf24 (one_cons rfl (one_cons rfl (one_cons rfl (one_cons (rep_one (hm.ow_rep 1 rfl)) one_nil)))) rfl fun w hm => gA rfl (gE (gS (gS (gJ hm (fun aJ => [(4, (pV aE)), (9, (pV aI)), (10, (nV aT.2)), (51, (.bool (aJ)))]) (fun aJ => [blk aE [(nV 0), (nV 0), (.string ⟨((mkS [])).b.toArray⟩), (.slice none 0 0)] 24, blk aI [(nV aT.1.op), (nV aT.1.n_), (.string ⟨(aT.1.name).b.toArray⟩), aV] 24, ow [aV] aT.1.kids]) (fun aJ => ?_) ?_)))))))
     ·
      refine gR (gM rfl (gB rfl (gM rfl (gsd 46 rfl (fun aj => ?_) fun aj => ?_))))
      ·
       exact gO rfl (gO rfl (gO rfl (gO rfl (gKt rfl (gE (gz hm [2, 0, 1] rfl))))))
      exact gM rfl (gM rfl (gC hm rfl call156 (spec_l2Is_ok _ list v1 (hm.now h1) aT.2 (mkS [41])) fun bj bQ w hm => gN rfl (gKf rfl (gE (gz hm [2, 0, 1] rfl)))))
     repeat clear hm
     intro aJ w hm
     refine gs 51 rfl (fun bR => ?_) fun bR => ?_
     ·
      exact gct rfl (gS (gR (gY (yn (hm.blk_at 1 rfl) isAgg24 sizeOf24 rfl) (gSN hm 0 sizeOf24 (one_cons rfl (one_cons rfl (one_cons rfl (one_cons (rep_one (hm.ow_rep 2 rfl)) one_nil)))) rfl fun w hm => gA rfl (gE (gRt (grct 0 results102 hm rfl isAgg24 sizeOf24 ⟨aV, rfl, hm.pk [2] rfl rfl⟩)))))))
     exact gcf rfl (gSk (gS (gR (gY (yn (hm.blk_at 1 rfl) isAgg24 sizeOf24 rfl) (gM rfl (gB rfl (gSN hm 0 sizeOf24 (one_cons rfl (one_cons rfl (one_cons rfl (one_cons (rep_one (hm.ow_rep 2 rfl)) one_nil)))) rfl fun w hm => gA rfl (gE (gRt (grct 0 results102 hm rfl isAgg24 sizeOf24 ⟨aV, rfl, hm.pk [2] rfl rfl⟩))))))))))
    refine gcf rfl (gSk (gS (gS (gJ hm (fun a8 => [(0, v1), (1, (nV at_)), (4, (pV aE)), (67, (.bool (a8)))]) (fun a8 => [blk aE [(nV 0), (nV 0), (.string ⟨((mkS [])).b.toArray⟩), (.slice none 0 0)] 24]) (fun a8 => ?_) ?_))))
    ·
     refine gR (gM rfl (gM rfl ?_))
     obtain ⟨bk, bl, rfl, bm⟩ := ro_slice h1
     refine gY (yV st_41 rfl) (gB rfl (gM rfl (gsd 60 rfl (fun ak => ?_) fun ak => ?_)))
     ·
      refine gM rfl (gM rfl (gg fun bB bS al => ?_))
      obtain ⟨bo, bp, bq, he⟩ := idx_form h1 al
      obtain ⟨rfl, _, rfl⟩ := sl3 he
      exact gI st_41 bS (idx_lt al) rfl (gF fo_56_0 rfl (gY (yl isAgg3 ((flat_cells (cs := [(nV bB.kind), (.string ⟨(bB.text).b.toArray⟩)]) (hm.now h1) al rfl).cell (j := 0) rfl) rfl) (gB rfl (gKt rfl (gE (gz hm [0] rfl))))))
     exact gO rfl (gO rfl (gO rfl (gO rfl (gO rfl (gO rfl (gKf rfl (gE (gz hm [0] rfl))))))))
    repeat clear hm
    intro a8 w hm
    refine gs 67 rfl (fun bT => ?_) fun bT => ?_
    ·
     refine gct rfl (gS (gR (gM rfl (gM rfl (gg fun am bU an => ?_)))))
     obtain ⟨br, bs, aX, he⟩ := idx_form h1 an
     subst he
     refine gI st_41 bU (idx_lt an) rfl (gY (yn (flat_cells (cs := [(nV am.kind), (.string ⟨(am.text).b.toArray⟩)]) (hm.now h1) an rfl) isAgg56 sizeOf56 rfl) (gC hm rfl call157 (spec_NumberOf_ok _ am) fun bC bt w hm => gY (yG rfl (y_build (vs := [(0, (nV 1)), (1, (nV bC))]) (cs := #[(nV 1), (nV bC), (.string ⟨((mkS [])).b.toArray⟩), (.slice none 0 0)]) rfl rfl (by kernel_rfl))) (gM rfl (gB rfl (gSN hm 0 sizeOf24 (one_cons rfl (one_cons rfl (one_cons rfl (one_cons rfl one_nil)))) rfl fun w hm => gA rfl (gE (gRt ?_)))))))
     replace hm := hm.nilow (α := Expr_)
     exact grct 1 results102 hm rfl isAgg24 sizeOf24 ⟨(.slice none 0 0), rfl, hm.pk [0] rfl rfl⟩
    refine gcf rfl (gSk (gS (gS (gJ hm (fun aa => [(0, v1), (1, (nV at_)), (4, (pV aE)), (87, (.bool (aa)))]) (fun aa => [blk aE [(nV 0), (nV 0), (.string ⟨((mkS [])).b.toArray⟩), (.slice none 0 0)] 24]) (fun aa => ?_) ?_))))
    ·
     refine gR (gM rfl (gM rfl ?_))
     obtain ⟨bu, bv, rfl, bw⟩ := ro_slice h1
     refine gY (yV st_41 rfl) (gB rfl (gM rfl (gsd 80 rfl (fun bV => ?_) fun bV => ?_)))
     ·
      exact gO rfl (gO rfl (gO rfl (gO rfl (gO rfl (gO rfl (gKt rfl (gE (gz hm [0] rfl))))))))
     refine gM rfl (gM rfl (gg fun bD bW ao => ?_))
     obtain ⟨bx, bz, cA, he⟩ := idx_form h1 ao
     obtain ⟨rfl, _, rfl⟩ := sl3 he
     exact gI st_41 bW (idx_lt ao) rfl (gF fo_56_0 rfl (gY (yl isAgg3 ((flat_cells (cs := [(nV bD.kind), (.string ⟨(bD.text).b.toArray⟩)]) (hm.now h1) ao rfl).cell (j := 0) rfl) rfl) (gB rfl (gKf rfl (gE (gz hm [0] rfl))))))
    repeat clear hm
    intro aa w hm
    refine gs 87 rfl (fun bX => ?_) fun bX => ?_
    ·
     refine gct rfl (gS (gR (gY (yG rfl (y_build (vs := []) (cs := #[(nV 0), (nV 0), (.string ⟨((mkS [])).b.toArray⟩), (.slice none 0 0)]) rfl rfl (by kernel_rfl))) (gSN hm 0 sizeOf24 (one_cons rfl (one_cons rfl (one_cons rfl (one_cons rfl one_nil)))) rfl fun w hm => gA rfl (gE (gRt ?_))))))
     replace hm := hm.nilow (α := Expr_)
     exact grct 1 results102 hm rfl isAgg24 sizeOf24 ⟨(.slice none 0 0), rfl, hm.pk [0] rfl rfl⟩
    refine gcf rfl (gSk (gS (gS (gR (gM rfl (gM rfl (gB rfl (gC hm rfl call156 (spec_l2Is_ok _ list v1 (hm.now h1) (w64 (at_ + 1)) (mkS [40])) fun cB cC w hm => gN rfl (gE (gsn 93 rfl (fun bY => ?_) fun bY => ?_))))))))))
    ·
     refine gct rfl (gS (gR (gM rfl (gM rfl (gg fun ab bZ ap => ?_)))))
     obtain ⟨cD, cE, cF, he⟩ := idx_form h1 ap
     subst he
     refine gI st_41 bZ (idx_lt ap) rfl (gF fo_56_1 rfl (gY (yl isAgg9 ((flat_cells (cs := [(nV ab.kind), (.string ⟨(ab.text).b.toArray⟩)]) (hm.now h1) ap rfl).cell (j := 1) rfl) rfl) (gY (yG rfl (y_build (vs := [(0, (nV 2)), (2, (.string ⟨(ab.text).b.toArray⟩))]) (cs := #[(nV 2), (nV 0), (.string ⟨(ab.text).b.toArray⟩), (.slice none 0 0)]) rfl rfl (by kernel_rfl))) (gM rfl (gB rfl (gSN hm 0 sizeOf24 (one_cons rfl (one_cons rfl (one_cons rfl (one_cons rfl one_nil)))) rfl fun w hm => gA rfl (gE (gRt ?_))))))))
     replace hm := hm.nilow (α := Expr_)
     exact grct 1 results102 hm rfl isAgg24 sizeOf24 ⟨(.slice none 0 0), rfl, hm.pk [0] rfl rfl⟩
    refine gcf rfl (gSk (gS (gR (gM rfl (gM rfl (gB rfl (gCg rfl call158 (spec_l2List_rec _ list v1 (hm.now h1) (w64 (at_ + 2))) ?_)))))))
    rintro aq cG cH w ⟨cI, rfl, hB⟩
    replace hm := hm.give hB; clear hB
    refine gM rfl (gX rfl (gX rfl (gA rfl (gA rfl (gE (gS (gR (gM rfl (gM rfl (gg fun ac b4 ar => ?_))))))))))
    obtain ⟨cJ, cK, cL, he⟩ := idx_form h1 ar
    subst he
    refine gI st_41 b4 (idx_lt ar) rfl (gF fo_56_1 rfl (gY (yl isAgg9 ((flat_cells (cs := [(nV ac.kind), (.string ⟨(ac.text).b.toArray⟩)]) (hm.now h1) ar rfl).cell (j := 1) rfl) rfl) (gM rfl ?_)))
    obtain ⟨aP, au, rfl, az⟩ := ro_slice (hm.ow_rep 0 rfl)
    exact gY (yG rfl (y_build (vs := [(0, (nV 13)), (2, (.string ⟨(ac.text).b.toArray⟩)), (3, (.slice aP aq.1.length au))]) (cs := #[(nV 13), (nV 0), (.string ⟨(ac.text).b.toArray⟩), (.slice aP aq.1.length au)]) rfl rfl (by kernel_rfl))) (gM rfl (gSN hm 1 sizeOf24 (one_cons rfl (one_cons rfl (one_cons rfl (one_cons rfl one_nil)))) rfl fun w hm => gA rfl (gE (gRt (grct 1 results102 hm rfl isAgg24 sizeOf24 ⟨(.slice aP aq.1.length au), rfl, hm.pk [0] rfl rfl⟩)))))
  · intro rec_ ih_ at_ r hq w0 v1 h1
    have spec_l2Read_rec : ∀ (w0 : World) (_ : List Word_) (v1 : Value) (h1 : GT.rep (hp w0) [v1] list) (at_ : Int) (level : Int) (r : Expr_ × Int) (hq : rec_ at_ level = some r), Con Tryz.prog 45 [v1, (nV at_), (nV level)] w0 (fun v w' => ∃ (x1 : Value), v = (.tuple #[(.agg #[(nV r.1.op), (nV r.1.n_), (.string ⟨(r.1.name).b.toArray⟩), x1]), (nV r.2)]) ∧ Mem w0 (hp w0) w' [ow [x1] r.1.kids]) := fun w0 _ v1 h1 at_ level r hq => ih_ at_ level r hq w0 v1 h1
    refine gconr (ρ := (List Expr_) × Int) (R := fun r v w' => ∃ (x1 : Value), v = (.tuple #[x1, (nV r.2)]) ∧ Mem w0 (hp w0) w' [ow [x1] r.1]) func158 rfl hq ?_
    have hm := Mem.start w0
    refine gS (gR (gA rfl (gA rfl (gE (gS (gR (gf rfl (fun a hf => e_build0 (α := Expr_) et_22 hm rfl) ?_)))))))
    rintro ax w hm
    refine gA rfl (gE (gS (gS (gR (gM rfl (gM rfl (gC hm rfl call156 (spec_l2Is_ok _ list v1 (hm.now h1) at_ (mkS [41])) fun av aw w hm => gE (gs 12 rfl (fun aU => ?_) fun aU => ?_))))))))
    ·
     exact gct rfl (gS (gR (gM rfl (gM rfl (gB rfl (gA rfl (gA rfl (gE (gRt (gr2 results158 rfl ⟨ax, rfl, hm.pk [0] rfl rfl⟩))))))))))
    refine gcf rfl (gSk ?_)
    obtain ⟨aP, aX, rfl, az⟩ := ro_slice (hm.ow_rep 0 rfl)
    refine gBk (gMg (fun aK a w => ∃ (aQ : Value), St 45 [(0, v1), (1, (nV aK.1)), (6, aQ)] w0 (hp w0) [ow [aQ] aK.2] a w) (fun a hf => ⟨(.slice aP ([] : List Expr_).length aX), hf.sb rfl, hm.pk [0] rfl rfl⟩) ?_)
    repeat clear hm
    rintro af a7 aK a w ⟨aQ, hf, hm⟩ bL bE
    refine gv hf (gBk (gS (gR (gM rfl (gM rfl (gCg rfl call45 (spec_l2Read_rec _ list v1 (hm.now h1) aK.1 1) ?_))))))
    rintro aC bN cM w ⟨aL, rfl, hB⟩
    replace hm := hm.give hB; clear hB
    refine gM rfl (gX rfl (gX rfl (gAl hm zeroValue24 rfl fun aO w hm => gSN hm 0 sizeOf24 (one_cons rfl (one_cons rfl (one_cons rfl (one_cons (rep_one (hm.ow_rep 1 rfl)) one_nil)))) rfl fun w hm => gA rfl (gE (gS (gR (gM rfl (gY (yn (hm.blk_at 0 rfl) isAgg24 sizeOf24 rfl) (gf rfl (fun a hf => e_build (vs := #[(0, (.agg #[(nV aC.1.op), (nV aC.1.n_), (.string ⟨(aC.1.name).b.toArray⟩), aL]))]) (cs := [(nV aC.1.op), (nV aC.1.n_), (.string ⟨(aC.1.name).b.toArray⟩), aL]) et_22 hf hm rfl rfl (by kernel_rfl) rfl rfl) ?_)))))))))
    rintro _ w ⟨aM, rfl, hm⟩
    replace hm := hm.els_nil (α := Expr_)
    replace hm : Mem w0 (hp w0) _ [els [] ([] : List Expr_), blk aM [(nV aC.1.op), (nV aC.1.n_), (.string ⟨(aC.1.name).b.toArray⟩), aL] 24, blk aO [(nV aC.1.op), (nV aC.1.n_), (.string ⟨(aC.1.name).b.toArray⟩), aL] 24, ow [(nV aC.1.op), (nV aC.1.n_), (.string ⟨(aC.1.name).b.toArray⟩), aL] (aC.1 : Expr_), ow [aQ] aK.2] := mkx_Expr_ aC.1 hm 3 rfl
    replace hm := (hm.els_cons 0 3 (by decide) rfl rfl).pk (L' := [els [(nV aC.1.op), (nV aC.1.n_), (.string ⟨(aC.1.name).b.toArray⟩), aL] ([aC.1] : List Expr_), blk aM [(nV aC.1.op), (nV aC.1.n_), (.string ⟨(aC.1.name).b.toArray⟩), aL] 24, blk aO [(nV aC.1.op), (nV aC.1.n_), (.string ⟨(aC.1.name).b.toArray⟩), aL] 24, ow [aQ] aK.2]) [0, 1, 2, 4] rfl rfl
    replace hm := (hm.lit_els 1 0 (by decide) rfl rfl rfl rfl).pk (L' := [ow [(sV aM 0 1 1)] ([aC.1] : List Expr_), blk aO [(nV aC.1.op), (nV aC.1.n_), (.string ⟨(aC.1.name).b.toArray⟩), aL] 24, ow [aQ] aK.2]) [1, 2, 3] rfl rfl
    refine gb fun b5 bA => ?_
    obtain ⟨ai, b6⟩ := appM_some.1 bA
    replace hm := (hm.both 2 0 (by decide) rfl rfl).pk (L' := [blk aO [(nV aC.1.op), (nV aC.1.n_), (.string ⟨(aC.1.name).b.toArray⟩), aL] 24, both (ow [aQ] aK.2) (ow [(sV aM 0 1 1)] ([aC.1] : List Expr_))]) [1, 2] rfl rfl
    refine gf rfl (fun a hf => e_appendD (xs := aK.2) (ys := ([aC.1] : List Expr_)) 1 et_22 hf hm rfl rfl rfl rfl ai) ?_
    rintro aH w hm
    rw [b6] at hm
    refine gA rfl (gE (gS (gS (gJ hm (fun ae => [(0, v1), (6, aH), (8, (nV aC.2)), (32, (.bool (ae)))]) (fun ae => [ow [aH] b5]) (fun ae => ?_) ?_))))
    ·
     refine gR (gM rfl (gB rfl (gM rfl (gsd 28 rfl (fun ag => ?_) fun ag => ?_))))
     ·
      exact gO rfl (gO rfl (gO rfl (gKt rfl (gE (gz hm [1] rfl)))))
     exact gM rfl (gM rfl (gC hm rfl call156 (spec_l2Is_ok _ list v1 (hm.now h1) aC.2 (mkS [41])) fun ah bK w hm => gKf rfl (gE (gz hm [1] rfl))))
    repeat clear hm
    intro ae w hm
    refine gs 32 rfl (fun aj => ?_) fun aj => ?_
    ·
     exact gct rfl (gS (gR (gM rfl (gM rfl (gM rfl (gC hm rfl call180 (spec_l1Step_ok _ aC.2) fun bO bP w hm => gB rfl (gA rfl (gA rfl (gE (gRt (gLp bE a7 (gr2 results158 rfl ⟨aH, rfl, hm.pk [0] rfl rfl⟩))))))))))))
    refine gcf rfl (gSk (gS (gS (gR (gM rfl (gM rfl (gC hm rfl call156 (spec_l2Is_ok _ list v1 (hm.now h1) aC.2 (mkS [44])) fun aD bQ w hm => gN rfl (gE (gsn 41 rfl (fun ak => ?_) fun ak => ?_)))))))))
    ·
     exact gct rfl (gS (gR (gM rfl (gA rfl (gA rfl (gE (gRt (gLp bE a7 (gr2 results158 rfl ⟨aH, rfl, hm.pk [0] rfl rfl⟩)))))))))
    exact gcf rfl (gSk (gR (gM rfl (gB rfl (gA rfl (gE (gZe fun a hf => ⟨aH, hf.sb rfl, hm.pk [0] rfl rfl⟩)))))))
theorem spec_l2Read_ok (w0 : World) (list : List Word_) (v1 : Value) (h1 : GT.rep (hp w0) [v1] list) (at_ : Int) (level : Int) (r : Expr_ × Int) (hq : spec_l2Read list at_ level = some r) : Con Tryz.prog 45 [v1, (nV at_), (nV level)] w0 (fun v w' => ∃ (x1 : Value), v = (.tuple #[(.agg #[(nV r.1.op), (nV r.1.n_), (.string ⟨(r.1.name).b.toArray⟩), x1]), (nV r.2)]) ∧ Mem w0 (hp w0) w' [ow [x1] r.1.kids]) := (spec_l2Read_all list).1 at_ level r hq w0 v1 h1
theorem pspec_l3Reader__expr_ok (w0 : World) (hz : Heap) (r_ : l3Reader) (bp0 : Nat) (v1p : Value) (h1p : GT.rep hz [v1p] r_.list) (hm0 : Mem w0 hz w0 [blk bp0 [v1p, (nV r_.at_)] 91]) :
    ConM Tryz.prog 186 [(pV bp0)] w0 (pspec_l3Reader__expr r_) fun r v w' => ∃ (x1 : Value), v = (.agg #[(nV r.1.op), (nV r.1.n_), (.string ⟨(r.1.name).b.toArray⟩), x1]) ∧ Mem w0 hz w' [blk bp0 [v1p, (nV r.2.at_)] 91, ow [x1] r.1.kids] := by
  unfold pspec_l3Reader__expr
  refine gcon func186 rfl fun r => ?_
  have hm := hm0
  refine gS (gR (gAl hm zeroValue24 rfl fun aC w hm => gE (gS (gS (gR (gM rfl (gY (yG rfl (y_nilptr rfl rfl)) (gF fo_91_1 rfl (gL hm 1 isAgg3 rfl (gB rfl (gE (gsd 9 rfl (fun aF => ?_) fun aF => ?_))))))))))))
  ·
   refine gct rfl (gS (gR (gY (yG rfl (y_build (vs := []) (cs := #[(nV 0), (nV 0), (.string ⟨((mkS [])).b.toArray⟩), (.slice none 0 0)]) rfl rfl (by kernel_rfl))) (gSN hm 0 sizeOf24 (one_cons rfl (one_cons rfl (one_cons rfl (one_cons rfl one_nil)))) rfl fun w hm => gE (gRt ?_)))))
   replace hm := hm.nilow (α := Expr_)
   exact grc 1 results186 hm rfl isAgg24 sizeOf24 ⟨(.slice none 0 0), rfl, hm.pk [2, 0] rfl rfl⟩
  refine gcf rfl (gSk (gS (gJg (fun aA a w => ∃ (aD : Nat) (aB : Value), St 28 [(0, (pV bp0)), (2, (pV aC)), (3, (pV aD)), (4, (nV aA.2.2.2.2))] w0 hz [blk bp0 [v1p, (nV r_.at_)] 91, blk aC [(nV 0), (nV 0), (.string ⟨((mkS [])).b.toArray⟩), (.slice none 0 0)] 24, blk aD [(nV aA.1), (nV aA.2.1), (.string ⟨(aA.2.2.1).b.toArray⟩), aB] 24, ow [aB] aA.2.2.2.1] a w) (fun aA => ?_) ?_)))
  ·
   refine gW (.p 0 (.p 1 (.p 2 (.p 4 (.p 5 (.p 6 (.q 3 (.q 7 (.e 8 (.p 9 (.p 10 (.p 11 (.e 12 (.e 13 (.p 14 .fin) .nil) .nil)))) (.e 12 (.e 8 (.p 9 (.p 10 (.p 11 (.e 13 (.p 14 .fin) .nil)))) .nil) .nil)))))))))) [3, 7, 12] [0, 1, 2, 4, 5, 6, 9, 10, 11, 14] hm [0, 1] [blk aC [(nV 0), (nV 0), (.string ⟨((mkS [])).b.toArray⟩), (.slice none 0 0)] 24, blk bp0 [v1p, (nV r_.at_)] 91] rfl mxo (by kernel_rfl) (fun _ _ _ h => h.2) fun w hm hS => tP rfl (fun w => yM rfl) (tP rfl (fun w => yG rfl (y_nilptr rfl rfl)) (tP rfl (fun w => yF fo_91_0 rfl) (tP rfl (fun w => yM rfl) (tP rfl (fun w => yG rfl (y_nilptr rfl rfl)) (tP rfl (fun w => yF fo_91_1 rfl) (tQ rfl hS (fun w hm => yL hm 1 isAgg41 rfl) (tQ rfl hS (fun w hm => yL hm 1 isAgg3 rfl) (gb fun aK aE => tMo ?_ ?_))))))))
   ·
    refine tf rfl rfl (fun a hf => e_call hf rfl call45 rfl (spec_l2Read_ok _ r_.list v1p (hm.now h1p) r_.at_ 1 _ aE)) ?_
    rintro aL w ⟨aG, rfl, hB⟩
    replace hm := hm.give hB; clear hB
    refine tAn rfl (tP rfl (fun w => yM rfl) (tP rfl (fun w => yX rfl) (tP rfl (fun w => yX rfl) (tO (tf rfl rfl (fun a hf => e_alloc hm zeroValue24 rfl rfl) ?_)))))
    rintro _ w ⟨aH, rfl, hm⟩
    refine tAk hm [2, 3] rfl fun hS => tO (tf0 rfl rfl (fun a hf => e_storeN 0 hf hm rfl sizeOf24 rfl rfl rfl (one_cons rfl (one_cons rfl (one_cons rfl (one_cons (rep_one (hm.ow_rep 1 rfl)) one_nil)))) rfl rfl) ?_)
    rintro _ w hm
    exact tAn rfl (tP rfl (fun w => yA rfl) (tE (gZ fun a hf => ⟨aH, aG, hf.sb rfl, hm.pk [3, 2, 0, 1] rfl rfl⟩)))
   refine tO (tf rfl rfl (fun a hf => e_alloc hm zeroValue24 rfl rfl) ?_)
   rintro _ w ⟨aI, rfl, hm⟩
   refine tAk hm [1, 2] rfl fun hS => tO (tf rfl rfl (fun a hf => e_call hf rfl call45 rfl (spec_l2Read_ok _ r_.list v1p (hm.now h1p) r_.at_ 1 _ aE)) ?_)
   rintro aM w ⟨aJ, rfl, hB⟩
   replace hm := hm.give hB; clear hB
   refine tAn rfl (tP rfl (fun w => yM rfl) (tP rfl (fun w => yX rfl) (tP rfl (fun w => yX rfl) (tO (tf0 rfl rfl (fun a hf => e_storeN 1 hf hm rfl sizeOf24 rfl rfl rfl (one_cons rfl (one_cons rfl (one_cons rfl (one_cons (rep_one (hm.ow_rep 0 rfl)) one_nil)))) rfl rfl) ?_)))))
   rintro _ w hm
   exact tAn rfl (tP rfl (fun w => yA rfl) (tE (gZ fun a hf => ⟨aI, aJ, hf.sb rfl, hm.pk [3, 2, 1, 0] rfl rfl⟩)))
  repeat clear hm
  rintro aA a w ⟨aD, aB, hf, hm⟩
  exact gv hf (gS (gR (gM rfl (gM rfl (gY (yG rfl (y_nilptr rfl rfl)) (gF fo_91_1 rfl (gS1 hm 0 sizeOf3 rfl rfl fun w hm => gE (gS (gR (gY (yn (hm.blk_at 2 rfl) isAgg24 sizeOf24 rfl) (gSN hm 1 sizeOf24 (one_cons rfl (one_cons rfl (one_cons rfl (one_cons (rep_one (hm.ow_rep 3 rfl)) one_nil)))) rfl fun w hm => gE (gRt (grc 1 results186 hm rfl isAgg24 sizeOf24 ⟨aB, rfl, hm.pk [0, 3] rfl rfl⟩)))))))))))))
theorem pspec_l3Reader__block_all  : (∀ (r_ : l3Reader) (r : (List Stmt_) × l3Reader), pspec_l3Reader__block r_ = some r → ∀ (w0 : World) (hz : Heap) (bp0 : Nat) (v1p : Value) (h1p : GT.rep hz [v1p] r_.list) (hm0 : Mem w0 hz w0 [blk bp0 [v1p, (nV r_.at_)] 91]), Con Tryz.prog 126 [(pV bp0)] w0 (fun v w' => ∃ (x1 : Value), v = x1 ∧ Mem w0 hz w' [blk bp0 [v1p, (nV r.2.at_)] 91, ow [x1] r.1])) ∧
    (∀ (r_ : l3Reader) (r : Stmt_ × l3Reader), pspec_l3Reader__stmt r_ = some r → ∀ (w0 : World) (hz : Heap) (bp0 : Nat) (v1p : Value) (h1p : GT.rep hz [v1p] r_.list) (hm0 : Mem w0 hz w0 [blk bp0 [v1p, (nV r_.at_)] 91]), Con Tryz.prog 166 [(pV bp0)] w0 (fun v w' => ∃ (x1 : Value) (x2 : Value) (x3 : Value), v = (.agg #[(nV r.1.op), (.string ⟨(r.1.name).b.toArray⟩), x1, x2, x3]) ∧ Mem w0 hz w' [blk bp0 [v1p, (nV r.2.at_)] 91, ow [x1] r.1.args, ow [x2] r.1.body, ow [x3] r.1.else_])) := by
  refine pspec_l3Reader__block.mutual_partial_correctness  (motive_1 := fun r_ r => ∀ (w0 : World) (hz : Heap) (bp0 : Nat) (v1p : Value) (h1p : GT.rep hz [v1p] r_.list) (hm0 : Mem w0 hz w0 [blk bp0 [v1p, (nV r_.at_)] 91]), Con Tryz.prog 126 [(pV bp0)] w0 (fun v w' => ∃ (x1 : Value), v = x1 ∧ Mem w0 hz w' [blk bp0 [v1p, (nV r.2.at_)] 91, ow [x1] r.1])) (motive_2 := fun r_ r => ∀ (w0 : World) (hz : Heap) (bp0 : Nat) (v1p : Value) (h1p : GT.rep hz [v1p] r_.list) (hm0 : Mem w0 hz w0 [blk bp0 [v1p, (nV r_.at_)] 91]), Con Tryz.prog 166 [(pV bp0)] w0 (fun v w' => ∃ (x1 : Value) (x2 : Value) (x3 : Value), v = (.agg #[(nV r.1.op), (.string ⟨(r.1.name).b.toArray⟩), x1, x2, x3]) ∧ Mem w0 hz w' [blk bp0 [v1p, (nV r.2.at_)] 91, ow [x1] r.1.args, ow [x2] r.1.body, ow [x3] r.1.else_])) ?_ ?_
  · intro rec_ ih_ r_ r hq w0 hz bp0 v1p h1p hm0
    have pspec_l3Reader__stmt_rec : ∀ (w0 : World) (hz : Heap) (r_ : l3Reader) (bp0 : Nat) (v1p : Value) (h1p : GT.rep hz [v1p] r_.list) (hm0 : Mem w0 hz w0 [blk bp0 [v1p, (nV r_.at_)] 91]) (r : Stmt_ × l3Reader) (hq : rec_ r_ = some r), Con Tryz.prog 166 [(pV bp0)] w0 (fun v w' => ∃ (x1 : Value) (x2 : Value) (x3 : Value), v = (.agg #[(nV r.1.op), (.string ⟨(r.1.name).b.toArray⟩), x1, x2, x3]) ∧ Mem w0 hz w' [blk bp0 [v1p, (nV r.2.at_)] 91, ow [x1] r.1.args, ow [x2] r.1.body, ow [x3] r.1.else_]) := fun w0 hz r_ bp0 v1p h1p hm0 r hq => ih_ r_ r hq w0 hz bp0 v1p h1p hm0
    refine gconr (ρ := (List Stmt_) × l3Reader) (R := fun r v w' => ∃ (x1 : Value), v = x1 ∧ Mem w0 hz w' [blk bp0 [v1p, (nV r.2.at_)] 91, ow [x1] r.1]) func126 rfl hq ?_
    have hm := hm0
    refine gS (gR (gA rfl (gE (gS (gR (gf rfl (fun a hf => e_build0 (α := Stmt_) et_92 hm rfl) ?_))))))
    rintro ap w hm
    refine gA rfl (gE (gS (gR (gM rfl ?_))))
    obtain ⟨ag, hle, hm1, hsub, ah⟩ := hm.take2 (L1 := [blk bp0 [v1p, (nV r_.at_)] 91]) (L2 := [ow [ap] ([] : List Stmt_)]) [1] [0] (by decide) rfl rfl
    refine gCg rfl call123 (pspec_l3Reader__want_ok _ ag r_ bp0 v1p (GT.mono hle h1p) (mkS [123]) hm1 ) ?_
    rintro aA ax aP w ⟨rfl, hB⟩
    replace hm := ah _ _ hB; clear hB
    refine gE (gS ?_)
    obtain ⟨aB, aC, rfl, ay⟩ := ro_slice (hm.ow_rep 1 rfl)
    refine gJg (fun aD a w => ∃ (aL : Value), St 25 [(0, (pV bp0)), (3, aL)] w0 hz [blk bp0 [v1p, (nV aD.1)] 91, ow [aL] aD.2] a w) (fun aD => ?_) ?_
    ·
     refine gBk (gMg (fun aK a w => ∃ (aM : Value), St 25 [(0, (pV bp0)), (3, aM)] w0 hz [blk bp0 [v1p, (nV aK.1)] 91, ow [aM] aK.2] a w) (fun a hf => ⟨(.slice aB ([] : List Stmt_).length aC), hf.sb rfl, hm.pk [0, 1] rfl rfl⟩) ?_)
     repeat clear hm
     rintro aY az aK a w ⟨aM, hf, hm⟩ bg bA
     refine gv hf (gS (gS (gJ hm (fun aZ => [(0, (pV bp0)), (3, aM), (16, (.bool (aZ)))]) (fun aZ => [blk bp0 [v1p, (nV aK.1)] 91, ow [aM] aK.2]) (fun aZ => ?_) ?_)))
     ·
      refine gR (gM rfl (gY (yG rfl (y_nilptr rfl rfl)) (gF fo_91_1 rfl (gL hm 0 isAgg3 rfl (gB rfl (gM rfl (gsd 12 rfl (fun bB => ?_) fun bB => ?_)))))))
      ·
       exact gM rfl (gC hm rfl call125 (pspec_l3Reader__is_ok _ (⟨r_.list, aK.1⟩ : l3Reader) bp0 v1p (hm.now h1p) (hm.blk_cells 0 rfl).1 (mkS [125])) fun bh bi w hm => gN rfl (gKt rfl (gE (gz hm [0, 1] rfl))))
      exact gO rfl (gO rfl (gO rfl (gKf rfl (gE (gz hm [0, 1] rfl)))))
     repeat clear hm
     intro aZ w hm
     refine gs 16 rfl (fun ai => ?_) fun ai => ?_
     ·
      refine gct rfl (gSk (gBk (gR (gM rfl (gM rfl ?_)))))
      obtain ⟨aj, hle, hm1, hsub, ak⟩ := hm.take2 (L1 := [blk bp0 [v1p, (nV aK.1)] 91]) (L2 := [ow [aM] aK.2]) [0] [1] (by decide) rfl rfl
      refine gCg rfl call166 (pspec_l3Reader__stmt_rec _ aj (⟨r_.list, aK.1⟩ : l3Reader) bp0 v1p (GT.mono hle h1p) hm1 ) ?_
      rintro aJ bC aq w ⟨aV, aQ, aR, rfl, hB⟩
      replace hm := ak _ _ hB; clear hB
      refine gf rfl (fun a hf => e_build (vs := #[(0, (.agg #[(nV aJ.1.op), (.string ⟨(aJ.1.name).b.toArray⟩), aV, aQ, aR]))]) (cs := [(nV aJ.1.op), (.string ⟨(aJ.1.name).b.toArray⟩), aV, aQ, aR]) et_92 hf hm rfl rfl (by kernel_rfl) rfl rfl) ?_
      rintro _ w ⟨aN, rfl, hm⟩
      replace hm := hm.els_nil (α := Stmt_)
      replace hm := (mkx_Stmt_ aJ.1 hm 3 4 5 rfl).pk (L' := [els [] ([] : List Stmt_), blk aN [(nV aJ.1.op), (.string ⟨(aJ.1.name).b.toArray⟩), aV, aQ, aR] 105, blk bp0 [v1p, (nV aJ.2.at_)] 91, ow [(nV aJ.1.op), (.string ⟨(aJ.1.name).b.toArray⟩), aV, aQ, aR] (aJ.1 : Stmt_), ow [aM] aK.2]) [0, 1, 2, 3, 6] rfl rfl
      replace hm := (hm.els_cons 0 3 (by decide) rfl rfl).pk (L' := [els [(nV aJ.1.op), (.string ⟨(aJ.1.name).b.toArray⟩), aV, aQ, aR] ([aJ.1] : List Stmt_), blk aN [(nV aJ.1.op), (.string ⟨(aJ.1.name).b.toArray⟩), aV, aQ, aR] 105, blk bp0 [v1p, (nV aJ.2.at_)] 91, ow [aM] aK.2]) [0, 1, 2, 4] rfl rfl
      replace hm := (hm.lit_els 1 0 (by decide) rfl rfl rfl rfl).pk (L' := [ow [(sV aN 0 1 1)] ([aJ.1] : List Stmt_), blk bp0 [v1p, (nV aJ.2.at_)] 91, ow [aM] aK.2]) [1, 2, 3] rfl rfl
      refine gb fun bD ar => ?_
      obtain ⟨al, bE⟩ := appM_some.1 ar
      replace hm := (hm.both 2 0 (by decide) rfl rfl).pk (L' := [blk bp0 [v1p, (nV aJ.2.at_)] 91, both (ow [aM] aK.2) (ow [(sV aN 0 1 1)] ([aJ.1] : List Stmt_))]) [1, 2] rfl rfl
      refine gf rfl (fun a hf => e_appendD (xs := aK.2) (ys := ([aJ.1] : List Stmt_)) 1 et_92 hf hm rfl rfl rfl rfl al) ?_
      rintro aO w hm
      rw [bE] at hm
      exact gA rfl (gE (gZe fun a hf => ⟨aO, hf.sb rfl, hm.pk [0, 1] rfl rfl⟩))
     exact gcf rfl (gXt (gHh (gLp bA az (gZ fun a hf => ⟨aM, hf.sb rfl, hm.pk [0, 1] rfl rfl⟩))))
    repeat clear hm
    rintro aD a w ⟨aL, hf, hm⟩
    refine gv hf (gS (gR (gM rfl ?_)))
    obtain ⟨am, hle, hm1, hsub, an⟩ := hm.take2 (L1 := [blk bp0 [v1p, (nV aD.1)] 91]) (L2 := [ow [aL] aD.2]) [0] [1] (by decide) rfl rfl
    refine gCg rfl call123 (pspec_l3Reader__want_ok _ am (⟨r_.list, aD.1⟩ : l3Reader) bp0 v1p (GT.mono hle h1p) (mkS [125]) hm1 ) ?_
    rintro bF bG bH w ⟨rfl, hB⟩
    replace hm := an _ _ hB; clear hB
    exact gE (gS (gR (gM rfl (gA rfl (gE (gRt (gr1 results126 rfl ⟨aL, rfl, hm.pk [0, 1] rfl rfl⟩)))))))
  · intro rec_ ih_ r_ r hq w0 hz bp0 v1p h1p hm0
    have pspec_l3Reader__block_rec : ∀ (w0 : World) (hz : Heap) (r_ : l3Reader) (bp0 : Nat) (v1p : Value) (h1p : GT.rep hz [v1p] r_.list) (hm0 : Mem w0 hz w0 [blk bp0 [v1p, (nV r_.at_)] 91]) (r : (List Stmt_) × l3Reader) (hq : rec_ r_ = some r), Con Tryz.prog 126 [(pV bp0)] w0 (fun v w' => ∃ (x1 : Value), v = x1 ∧ Mem w0 hz w' [blk bp0 [v1p, (nV r.2.at_)] 91, ow [x1] r.1]) := fun w0 hz r_ bp0 v1p h1p hm0 r hq => ih_ r_ r hq w0 hz bp0 v1p h1p hm0
    refine gconr (ρ := Stmt_ × l3Reader) (R := fun r v w' => ∃ (x1 : Value) (x2 : Value) (x3 : Value), v = (.agg #[(nV r.1.op), (.string ⟨(r.1.name).b.toArray⟩), x1, x2, x3]) ∧ Mem w0 hz w' [blk bp0 [v1p, (nV r.2.at_)] 91, ow [x1] r.1.args, ow [x2] r.1.body, ow [x3] r.1.else_]) func166 rfl hq ?_
    have hm := hm0
    refine gS (gR (gAl hm zeroValue105 rfl fun aE w hm => gE (gS (gS (gW (.p 0 (.p 1 (.p 2 (.p 4 (.p 5 (.p 6 (.q 3 (.e 7 (.p 8 (.p 9 .fin)) .nil)))))))) [7] [0, 1, 2, 4, 5, 6, 8, 9] hm [0, 1] [blk aE [(nV 0), (.string ⟨((mkS [])).b.toArray⟩), (.slice none 0 0), (.slice none 0 0), (.slice none 0 0)] 105, blk bp0 [v1p, (nV r_.at_)] 91] rfl mxo (by kernel_rfl) (fun _ _ _ h => h.2) fun w hm hS => tP rfl (fun w => yM rfl) (tP rfl (fun w => yG rfl (y_nilptr rfl rfl)) (tP rfl (fun w => yF fo_91_1 rfl) (tP rfl (fun w => yM rfl) (tP rfl (fun w => yG rfl (y_nilptr rfl rfl)) (tP rfl (fun w => yF fo_91_0 rfl) (tQ rfl hS (fun w hm => yL hm 1 isAgg3 rfl) (tO (tY rfl (yL hm 1 isAgg41 rfl) (tAs hS ?_))))))))))))))
    obtain ⟨aB, aC, rfl, ay⟩ := ro_slice h1p
    refine tP rfl (fun w => yV st_41 rfl) (tP rfl (fun w => yB rfl) (tE (gsd 13 rfl (fun bJ => ?_) fun bJ => ?_)))
    ·
     refine gct rfl (gS (gR (gM rfl (gY (yG rfl (y_nilptr rfl rfl)) (gF fo_91_1 rfl (gS1 hm 1 sizeOf3 rfl rfl fun w hm => gE (gS (gR (gY (yG rfl (y_build (vs := []) (cs := #[(nV 0), (.string ⟨((mkS [])).b.toArray⟩), (.slice none 0 0), (.slice none 0 0), (.slice none 0 0)]) rfl rfl (by kernel_rfl))) (gSN hm 0 sizeOf105 (one_cons rfl (one_cons rfl (one_cons rfl (one_cons rfl (one_cons rfl one_nil))))) rfl fun w hm => gE (gRt ?_)))))))))))
     replace hm := hm.nilow (α := Expr_)
     replace hm := hm.nilow (α := Stmt_)
     replace hm := hm.nilow (α := Stmt_)
     exact grc 3 results166 hm rfl isAgg105 sizeOf105 ⟨(.slice none 0 0), (.slice none 0 0), (.slice none 0 0), rfl, hm.pk [4, 2, 1, 0] rfl rfl⟩
    refine gcf rfl (gSk (gS (gJg (fun aD a w => ∃ (aF : Nat), St 94 [(0, (pV bp0)), (2, (pV aE)), (3, (pV aF))] w0 hz [blk bp0 [(.slice aB r_.list.length aC), (nV r_.at_)] 91, blk aE [(nV 0), (.string ⟨((mkS [])).b.toArray⟩), (.slice none 0 0), (.slice none 0 0), (.slice none 0 0)] 105, blk aF [(nV aD), (.string ⟨((mkS [])).b.toArray⟩), (.slice none 0 0), (.slice none 0 0), (.slice none 0 0)] 105] a w) (fun aD => ?_) ?_)))
    ·
     refine gW (.p 0 (.p 1 (.p 2 (.p 4 (.p 5 (.p 6 (.q 3 (.q 7 (.p 8 (.p 9 (.q 10 (.e 11 (.p 12 (.e 13 (.e 14 .fin .nil) .nil)) (.e 13 (.e 11 (.p 12 (.e 14 .fin .nil)) .nil) .nil))))))))))))) [3, 7, 13] [0, 1, 2, 4, 5, 6, 8, 9, 12] hm [0, 1] [blk aE [(nV 0), (.string ⟨((mkS [])).b.toArray⟩), (.slice none 0 0), (.slice none 0 0), (.slice none 0 0)] 105, blk bp0 [(.slice aB r_.list.length aC), (nV r_.at_)] 91] rfl mxo (by kernel_rfl) (fun _ _ _ h => h.2) fun w hm hS => tP rfl (fun w => yM rfl) (tP rfl (fun w => yG rfl (y_nilptr rfl rfl)) (tP rfl (fun w => yF fo_91_0 rfl) (tP rfl (fun w => yM rfl) (tP rfl (fun w => yG rfl (y_nilptr rfl rfl)) (tP rfl (fun w => yF fo_91_1 rfl) (tQ rfl hS (fun w hm => yL hm 1 isAgg41 rfl) (tQ rfl hS (fun w hm => yL hm 1 isAgg3 rfl) (gg fun a7 bK ao => ?_))))))))
     obtain ⟨bj, bk, bl, he⟩ := idx_form h1p ao
     obtain ⟨rfl, _, rfl⟩ := sl3 he
     refine tP rfl (fun w => yI st_41 bK (idx_lt ao) rfl) (tP rfl (fun w => yF fo_56_1 rfl) (tQ rfl hS (fun w hm => yl isAgg9 ((flat_cells (cs := [(nV a7.kind), (.string ⟨(a7.text).b.toArray⟩)]) (hm.now h1p) ao rfl).cell (j := 1) rfl) rfl) (gb fun a8 au => tMo ?_ ?_)))
     ·
      refine tf rfl rfl (fun a hf => e_call hf rfl call185 rfl (spec_l3Op_ok _ a7.text _ au)) ?_
      rintro bm w ⟨rfl, hB⟩
      replace hm := hm.below' hB; clear hB
      refine tAn rfl (tP rfl (fun w => yG rfl (y_build (vs := [(0, (nV a8))]) (cs := #[(nV a8), (.string ⟨((mkS [])).b.toArray⟩), (.slice none 0 0), (.slice none 0 0), (.slice none 0 0)]) rfl rfl (by kernel_rfl))) (tO (tf rfl rfl (fun a hf => e_alloc hm zeroValue105 rfl rfl) ?_)))
      rintro _ w ⟨bL, rfl, hm⟩
      refine tAk hm [1, 2] rfl fun hS => tO (tf0 rfl rfl (fun a hf => e_storeN 0 hf hm rfl sizeOf105 rfl rfl rfl (one_cons rfl (one_cons rfl (one_cons rfl (one_cons rfl (one_cons rfl one_nil))))) rfl rfl) ?_)
      rintro _ w hm
      exact tAn rfl (tE (gZ fun a hf => ⟨bL, hf.sb rfl, hm.pk [2, 1, 0] rfl rfl⟩))
     refine tO (tf rfl rfl (fun a hf => e_alloc hm zeroValue105 rfl rfl) ?_)
     rintro _ w ⟨bM, rfl, hm⟩
     refine tAk hm [1, 2] rfl fun hS => tO (tf rfl rfl (fun a hf => e_call hf rfl call185 rfl (spec_l3Op_ok _ a7.text _ au)) ?_)
     rintro bo w ⟨rfl, hB⟩
     replace hm := hm.below' hB; clear hB
     refine tAn rfl (tP rfl (fun w => yG rfl (y_build (vs := [(0, (nV a8))]) (cs := #[(nV a8), (.string ⟨((mkS [])).b.toArray⟩), (.slice none 0 0), (.slice none 0 0), (.slice none 0 0)]) rfl rfl (by kernel_rfl))) (tO (tf0 rfl rfl (fun a hf => e_storeN 0 hf hm rfl sizeOf105 rfl rfl rfl (one_cons rfl (one_cons rfl (one_cons rfl (one_cons rfl (one_cons rfl one_nil))))) rfl rfl) ?_)))
     rintro _ w hm
     exact tAn rfl (tE (gZ fun a hf => ⟨bM, hf.sb rfl, hm.pk [2, 1, 0] rfl rfl⟩))
    repeat clear hm
    rintro aD a w ⟨aF, hf, hm⟩
    refine gv hf (gS (gS (gR (gF fo_105_0 rfl (gL hm 2 isAgg3 rfl (gB rfl (gE (gJ hm (fun aT => [(0, (pV bp0)), (2, (pV aE)), (3, (pV aF))]) (fun aT => [blk bp0 [(.slice aB r_.list.length aC), (nV aT)] 91, blk aE [(nV 0), (.string ⟨((mkS [])).b.toArray⟩), (.slice none 0 0), (.slice none 0 0), (.slice none 0 0)] 105, blk aF [(nV aD), (.string ⟨((mkS [])).b.toArray⟩), (.slice none 0 0), (.slice none 0 0), (.slice none 0 0)] 105]) (fun aT => ?_) ?_))))))))
    ·
     refine gsd 33 rfl (fun bN => ?_) fun bN => ?_
     ·
      exact gct rfl (gR (gM rfl (gM rfl (gY (yG rfl (y_nilptr rfl rfl)) (gF fo_91_1 rfl (gL hm 0 isAgg3 rfl (gB rfl (gY (yG rfl (y_nilptr rfl rfl)) (gF fo_91_1 rfl (gS1 hm 0 sizeOf3 rfl rfl fun w hm => gE (gz hm [0, 1, 2] rfl)))))))))))
     exact gcf rfl (gSk (gz hm [0, 1, 2] rfl))
    repeat clear hm
    intro aT w hm
    refine gS (gS (gJ hm (fun aa => [(0, (pV bp0)), (2, (pV aE)), (3, (pV aF)), (49, (.bool (aa)))]) (fun aa => [blk bp0 [(.slice aB r_.list.length aC), (nV aT)] 91, blk aE [(nV 0), (.string ⟨((mkS [])).b.toArray⟩), (.slice none 0 0), (.slice none 0 0), (.slice none 0 0)] 105, blk aF [(nV aD), (.string ⟨((mkS [])).b.toArray⟩), (.slice none 0 0), (.slice none 0 0), (.slice none 0 0)] 105]) (fun aa => ?_) ?_))
    ·
     refine gR (gF fo_105_0 rfl (gL hm 2 isAgg3 rfl (gB rfl (gM rfl (gsd 45 rfl (fun bO => ?_) fun bO => ?_)))))
     ·
      exact gO rfl (gO rfl (gO rfl (gKt rfl (gE (gz hm [0, 1, 2] rfl)))))
     exact gF fo_105_0 rfl (gL hm 2 isAgg3 rfl (gB rfl (gKf rfl (gE (gz hm [0, 1, 2] rfl)))))
    repeat clear hm
    intro aa w hm
    refine gJ hm (fun aI => [(0, (pV bp0)), (2, (pV aE)), (3, (pV aF))]) (fun aI => [blk bp0 [(.slice aB r_.list.length aC), (nV aI.1)] 91, blk aE [(nV 0), (.string ⟨((mkS [])).b.toArray⟩), (.slice none 0 0), (.slice none 0 0), (.slice none 0 0)] 105, blk aF [(nV aD), (.string ⟨(aI.2).b.toArray⟩), (.slice none 0 0), (.slice none 0 0), (.slice none 0 0)] 105]) (fun aI => ?_) ?_
    ·
     refine gs 49 rfl (fun bP => ?_) fun bP => ?_
     ·
      refine gct rfl (gS (gR (gM rfl ?_)))
      obtain ⟨bQ, hle, hm1, hsub, bR⟩ := hm.take2 (L1 := [blk bp0 [(.slice aB r_.list.length aC), (nV aT)] 91]) (L2 := [blk aE [(nV 0), (.string ⟨((mkS [])).b.toArray⟩), (.slice none 0 0), (.slice none 0 0), (.slice none 0 0)] 105, blk aF [(nV aD), (.string ⟨((mkS [])).b.toArray⟩), (.slice none 0 0), (.slice none 0 0), (.slice none 0 0)] 105]) [0] [1, 2] (by decide) rfl rfl
      refine gCg rfl call124 (pspec_l3Reader__name_ok _ bQ (⟨r_.list, aT⟩ : l3Reader) bp0 (.slice aB r_.list.length aC) (GT.mono hle h1p) hm1 ) ?_
      rintro aY bp bq w ⟨rfl, hB⟩
      replace hm := bR _ _ hB; clear hB
      refine gF fo_105_1 rfl (gS1 hm 2 sizeOf9 rfl rfl fun w hm => gE (gR (gM rfl ?_)))
      obtain ⟨bS, hle, hm1, hsub, bT⟩ := hm.take2 (L1 := [blk bp0 [(.slice aB r_.list.length aC), (nV aY.2.at_)] 91]) (L2 := [blk aE [(nV 0), (.string ⟨((mkS [])).b.toArray⟩), (.slice none 0 0), (.slice none 0 0), (.slice none 0 0)] 105, blk aF [(nV aD), (.string ⟨(aY.1).b.toArray⟩), (.slice none 0 0), (.slice none 0 0), (.slice none 0 0)] 105]) [0] [1, 2] (by decide) rfl rfl
      refine gCg rfl call123 (pspec_l3Reader__want_ok _ bS (⟨r_.list, aY.2.at_⟩ : l3Reader) bp0 (.slice aB r_.list.length aC) (GT.mono hle h1p) (mkS [61]) hm1 ) ?_
      rintro br bs bt w ⟨rfl, hB⟩
      replace hm := bT _ _ hB; clear hB
      exact gE (gz hm [0, 1, 2] rfl)
     exact gcf rfl (gSk (gz hm [0, 1, 2] rfl))
    repeat clear hm
    intro aI w hm
    refine gS (gR (gM rfl ?_))
    obtain ⟨ag, hle, hm1, hsub, ah⟩ := hm.take2 (L1 := [blk bp0 [(.slice aB r_.list.length aC), (nV aI.1)] 91]) (L2 := [blk aE [(nV 0), (.string ⟨((mkS [])).b.toArray⟩), (.slice none 0 0), (.slice none 0 0), (.slice none 0 0)] 105, blk aF [(nV aD), (.string ⟨(aI.2).b.toArray⟩), (.slice none 0 0), (.slice none 0 0), (.slice none 0 0)] 105]) [0] [1, 2] (by decide) rfl rfl
    refine gCg rfl call186 (pspec_l3Reader__expr_ok _ ag (⟨r_.list, aI.1⟩ : l3Reader) bp0 (.slice aB r_.list.length aC) (GT.mono hle h1p) hm1 ) ?_
    rintro aA ax ap w ⟨aP, rfl, hB⟩
    replace hm := ah _ _ hB; clear hB
    refine gf rfl (fun a hf => e_build (vs := #[(0, (.agg #[(nV aA.1.op), (nV aA.1.n_), (.string ⟨(aA.1.name).b.toArray⟩), aP]))]) (cs := [(nV aA.1.op), (nV aA.1.n_), (.string ⟨(aA.1.name).b.toArray⟩), aP]) et_22 hf hm rfl rfl (by kernel_rfl) rfl rfl) ?_
    rintro _ w ⟨aG, rfl, hm⟩
    replace hm := hm.els_nil (α := Expr_)
    replace hm : Mem w0 hz _ [els [] ([] : List Expr_), blk aG [(nV aA.1.op), (nV aA.1.n_), (.string ⟨(aA.1.name).b.toArray⟩), aP] 24, blk bp0 [(.slice aB r_.list.length aC), (nV aA.2.at_)] 91, ow [(nV aA.1.op), (nV aA.1.n_), (.string ⟨(aA.1.name).b.toArray⟩), aP] (aA.1 : Expr_), blk aE [(nV 0), (.string ⟨((mkS [])).b.toArray⟩), (.slice none 0 0), (.slice none 0 0), (.slice none 0 0)] 105, blk aF [(nV aD), (.string ⟨(aI.2).b.toArray⟩), (.slice none 0 0), (.slice none 0 0), (.slice none 0 0)] 105] := mkx_Expr_ aA.1 hm 3 rfl
    replace hm := (hm.els_cons 0 3 (by decide) rfl rfl).pk (L' := [els [(nV aA.1.op), (nV aA.1.n_), (.string ⟨(aA.1.name).b.toArray⟩), aP] ([aA.1] : List Expr_), blk aG [(nV aA.1.op), (nV aA.1.n_), (.string ⟨(aA.1.name).b.toArray⟩), aP] 24, blk bp0 [(.slice aB r_.list.length aC), (nV aA.2.at_)] 91, blk aE [(nV 0), (.string ⟨((mkS [])).b.toArray⟩), (.slice none 0 0), (.slice none 0 0), (.slice none 0 0)] 105, blk aF [(nV aD), (.string ⟨(aI.2).b.toArray⟩), (.slice none 0 0), (.slice none 0 0), (.slice none 0 0)] 105]) [0, 1, 2, 4, 5] rfl rfl
    replace hm := (hm.lit_els 1 0 (by decide) rfl rfl rfl rfl).pk (L' := [ow [(sV aG 0 1 1)] ([aA.1] : List Expr_), blk bp0 [(.slice aB r_.list.length aC), (nV aA.2.at_)] 91, blk aE [(nV 0), (.string ⟨((mkS [])).b.toArray⟩), (.slice none 0 0), (.slice none 0 0), (.slice none 0 0)] 105, blk aF [(nV aD), (.string ⟨(aI.2).b.toArray⟩), (.slice none 0 0), (.slice none 0 0), (.slice none 0 0)] 105]) [1, 2, 3, 4] rfl rfl
    refine gF fo_105_2 rfl (gS1 hm 3 sizeOf22 rfl rfl fun w hm => gE (gS (gS (gR (gF fo_105_0 rfl (gL hm 3 isAgg3 rfl (gE (gJge (fun aW a w => ∃ (aL : Value), St 94 [(0, (pV bp0)), (2, (pV aE)), (3, (pV aF))] w0 hz [blk bp0 [(.slice aB r_.list.length aC), (nV aW.1)] 91, blk aE [(nV 0), (.string ⟨((mkS [])).b.toArray⟩), (.slice none 0 0), (.slice none 0 0), (.slice none 0 0)] 105, blk aF [(nV aD), (.string ⟨(aI.2).b.toArray⟩), aL, (.slice none 0 0), (.slice none 0 0)] 105, ow [aL] aW.2] a w) (fun bu av => ?_) ?_))))))))
    ·
     refine gBk (gS (gR (gB rfl (gA rfl (gE (gsd 61 rfl (fun bU => ?_) fun bU => ?_))))))
     ·
      refine gct rfl (gS (gR (gM rfl ?_)))
      obtain ⟨bV, hle, hm1, hsub, bW⟩ := hm.take2 (L1 := [blk bp0 [(.slice aB r_.list.length aC), (nV aA.2.at_)] 91]) (L2 := [ow [(sV aG 0 1 1)] ([aA.1] : List Expr_), blk aE [(nV 0), (.string ⟨((mkS [])).b.toArray⟩), (.slice none 0 0), (.slice none 0 0), (.slice none 0 0)] 105, blk aF [(nV aD), (.string ⟨(aI.2).b.toArray⟩), (sV aG 0 1 1), (.slice none 0 0), (.slice none 0 0)] 105]) [1] [0, 2, 3] (by decide) rfl rfl
      refine gCg rfl call126 (pspec_l3Reader__block_rec _ bV (⟨r_.list, aA.2.at_⟩ : l3Reader) bp0 (.slice aB r_.list.length aC) (GT.mono hle h1p) hm1 ) ?_
      rintro aX bv aU w ⟨_, rfl, hB⟩
      replace hm := bW _ _ hB; clear hB
      refine gF fo_105_3 rfl (gS1 hm 4 sizeOf92 (rep_one (hm.ow_rep 1 rfl)) rfl fun w hm => gE (gS (gS (gR (gM rfl (gC hm rfl call125 (pspec_l3Reader__is_ok _ (⟨r_.list, aX.2.at_⟩ : l3Reader) bp0 (.slice aB r_.list.length aC) (hm.now h1p) (hm.blk_cells 0 rfl).1 (mkS [101, 108, 115, 101])) fun bw bx w hm => gE (gJg (fun ab a w => ∃ (ac : Value), St 94 [(2, (pV aE)), (3, (pV aF))] w0 hz [blk aE [(nV 0), (.string ⟨((mkS [])).b.toArray⟩), (.slice none 0 0), (.slice none 0 0), (.slice none 0 0)] 105, blk aF [(nV aD), (.string ⟨(aI.2).b.toArray⟩), (sV aG 0 1 1), aU, ac] 105, ow [(sV aG 0 1 1)] ([aA.1] : List Expr_), ow [aU] aX.1, ow [ac] ab.1, blk bp0 [(.slice aB r_.list.length aC), (nV ab.2)] 91] a w) (fun ab => ?_) ?_)))))))
      ·
       refine gs 67 rfl (fun ai => ?_) fun ai => ?_
       ·
        refine gct rfl (gS (gR (gM rfl ?_)))
        obtain ⟨aj, hle, hm1, hsub, ak⟩ := hm.take2 (L1 := [blk bp0 [(.slice aB r_.list.length aC), (nV aX.2.at_)] 91]) (L2 := [ow [aU] aX.1, ow [(sV aG 0 1 1)] ([aA.1] : List Expr_), blk aE [(nV 0), (.string ⟨((mkS [])).b.toArray⟩), (.slice none 0 0), (.slice none 0 0), (.slice none 0 0)] 105, blk aF [(nV aD), (.string ⟨(aI.2).b.toArray⟩), (sV aG 0 1 1), aU, (.slice none 0 0)] 105]) [0] [1, 2, 3, 4] (by decide) rfl rfl
        refine gCg rfl call123 (pspec_l3Reader__want_ok _ aj (⟨r_.list, aX.2.at_⟩ : l3Reader) bp0 (.slice aB r_.list.length aC) (GT.mono hle h1p) (mkS [101, 108, 115, 101]) hm1 ) ?_
        rintro aJ bC aM w ⟨rfl, hB⟩
        replace hm := ak _ _ hB; clear hB
        refine gE (gR (gM rfl ?_))
        obtain ⟨bX, hle, hm1, hsub, bY⟩ := hm.take2 (L1 := [blk bp0 [(.slice aB r_.list.length aC), (nV aJ.at_)] 91]) (L2 := [ow [aU] aX.1, ow [(sV aG 0 1 1)] ([aA.1] : List Expr_), blk aE [(nV 0), (.string ⟨((mkS [])).b.toArray⟩), (.slice none 0 0), (.slice none 0 0), (.slice none 0 0)] 105, blk aF [(nV aD), (.string ⟨(aI.2).b.toArray⟩), (sV aG 0 1 1), aU, (.slice none 0 0)] 105]) [0] [1, 2, 3, 4] (by decide) rfl rfl
        refine gCg rfl call126 (pspec_l3Reader__block_rec _ bX (⟨r_.list, aJ.at_⟩ : l3Reader) bp0 (.slice aB r_.list.length aC) (GT.mono hle h1p) hm1 ) ?_
        rintro bz ar aq w ⟨_, rfl, hB⟩
        replace hm := bY _ _ hB; clear hB
        exact gF fo_105_4 rfl (gS1 hm 5 sizeOf92 (rep_one (hm.ow_rep 1 rfl)) rfl fun w hm => gE (gZ fun a hf => ⟨aq, hf.sb rfl, hm.pk [4, 5, 3, 2, 1, 0] rfl rfl⟩))
       refine gcf rfl (gSk ?_)
       replace hm := hm.nilow (α := Stmt_)
       exact gZ fun a hf => ⟨(.slice none 0 0), hf.sb rfl, hm.pk [4, 5, 3, 2, 0, 1] rfl rfl⟩
      repeat clear hm
      rintro ab a w ⟨ac, hf, hm⟩
      exact gv hf (gS (gR (gY (yn (hm.blk_at 1 rfl) isAgg105 sizeOf105 rfl) (gSN hm 0 sizeOf105 (one_cons rfl (one_cons rfl (one_cons rfl (one_cons (rep_one (hm.ow_rep 3 rfl)) (one_cons (rep_one (hm.ow_rep 4 rfl)) one_nil))))) rfl fun w hm => gE (gRt (gEr av (grc 0 results166 hm rfl isAgg105 sizeOf105 ⟨(sV aG 0 1 1), aU, ac, rfl, hm.pk [5, 2, 3, 4] rfl rfl⟩)))))))
     refine gcf rfl (gS (gR (gB rfl (gA rfl (gE (gsd 74 rfl (fun bZ => ?_) fun bZ => ?_))))))
     ·
      refine gct rfl (gS (gR (gM rfl ?_)))
      obtain ⟨b4, hle, hm1, hsub, b5⟩ := hm.take2 (L1 := [blk bp0 [(.slice aB r_.list.length aC), (nV aA.2.at_)] 91]) (L2 := [ow [(sV aG 0 1 1)] ([aA.1] : List Expr_), blk aE [(nV 0), (.string ⟨((mkS [])).b.toArray⟩), (.slice none 0 0), (.slice none 0 0), (.slice none 0 0)] 105, blk aF [(nV aD), (.string ⟨(aI.2).b.toArray⟩), (sV aG 0 1 1), (.slice none 0 0), (.slice none 0 0)] 105]) [1] [0, 2, 3] (by decide) rfl rfl
      refine gCg rfl call126 (pspec_l3Reader__block_rec _ b4 (⟨r_.list, aA.2.at_⟩ : l3Reader) bp0 (.slice aB r_.list.length aC) (GT.mono hle h1p) hm1 ) ?_
      rintro cA cB b6 w ⟨_, rfl, hB⟩
      replace hm := b5 _ _ hB; clear hB
      refine gF fo_105_3 rfl (gS1 hm 4 sizeOf92 (rep_one (hm.ow_rep 1 rfl)) rfl fun w hm => gE (gS (gR (gY (yn (hm.blk_at 4 rfl) isAgg105 sizeOf105 rfl) (gSN hm 3 sizeOf105 (one_cons rfl (one_cons rfl (one_cons rfl (one_cons (rep_one (hm.ow_rep 1 rfl)) (one_cons rfl one_nil))))) rfl fun w hm => gE (gRt (gEr av ?_)))))))
      replace hm := hm.nilow (α := Stmt_)
      exact grc 4 results166 hm rfl isAgg105 sizeOf105 ⟨(sV aG 0 1 1), b6, (.slice none 0 0), rfl, hm.pk [1, 3, 2, 0] rfl rfl⟩
     refine gcf rfl (gS (gR (gB rfl (gA rfl (gE (gJg (fun ae a w => ∃ (af : Value), St 94 [(0, (pV bp0)), (2, (pV aE)), (3, (pV aF))] w0 hz [blk bp0 [(.slice aB r_.list.length aC), (nV ae.1)] 91, blk aE [(nV 0), (.string ⟨((mkS [])).b.toArray⟩), (.slice none 0 0), (.slice none 0 0), (.slice none 0 0)] 105, blk aF [(nV aD), (.string ⟨(aI.2).b.toArray⟩), af, (.slice none 0 0), (.slice none 0 0)] 105, ow [af] ae.2] a w) (fun ae => ?_) ?_))))))
     ·
      refine gsd 80 rfl (fun al => ?_) fun al => ?_
      ·
       refine gct rfl (gS (gR (gM rfl ?_)))
       obtain ⟨b7, hle, hm1, hsub, b8⟩ := hm.take2 (L1 := [blk bp0 [(.slice aB r_.list.length aC), (nV aA.2.at_)] 91]) (L2 := [ow [(sV aG 0 1 1)] ([aA.1] : List Expr_), blk aE [(nV 0), (.string ⟨((mkS [])).b.toArray⟩), (.slice none 0 0), (.slice none 0 0), (.slice none 0 0)] 105, blk aF [(nV aD), (.string ⟨(aI.2).b.toArray⟩), (sV aG 0 1 1), (.slice none 0 0), (.slice none 0 0)] 105]) [1] [0, 2, 3] (by decide) rfl rfl
       refine gCg rfl call123 (pspec_l3Reader__want_ok _ b7 (⟨r_.list, aA.2.at_⟩ : l3Reader) bp0 (.slice aB r_.list.length aC) (GT.mono hle h1p) (mkS [44]) hm1 ) ?_
       rintro aw cC aQ w ⟨rfl, hB⟩
       replace hm := b8 _ _ hB; clear hB
       refine gE (gW (.p 0 (.p 2 (.q 1 (.e 3 (.e 4 (.e 5 (.p 6 (.e 7 .fin .nil)) .nil) .nil) .nil)))) [3, 4] [0, 2, 6] hm [1, 2, 3] [ow [(sV aG 0 1 1)] ([aA.1] : List Expr_), blk aE [(nV 0), (.string ⟨((mkS [])).b.toArray⟩), (.slice none 0 0), (.slice none 0 0), (.slice none 0 0)] 105, blk aF [(nV aD), (.string ⟨(aI.2).b.toArray⟩), (sV aG 0 1 1), (.slice none 0 0), (.slice none 0 0)] 105] rfl mxo (by kernel_rfl) (fun _ _ _ h => h.2) fun w hm hS => tP rfl (fun w => yF fo_105_2 rfl) (tP rfl (fun w => yM rfl) (tQ rfl hS (fun w hm => yL hm 2 isAgg22 rfl) (tO (gb fun aH b9 => ?_)))))
       obtain ⟨ba, hle, hm1, hsub, bb⟩ := hm.take2 (L1 := [blk bp0 [(.slice aB r_.list.length aC), (nV aw.at_)] 91]) (L2 := [ow [(sV aG 0 1 1)] ([aA.1] : List Expr_), blk aE [(nV 0), (.string ⟨((mkS [])).b.toArray⟩), (.slice none 0 0), (.slice none 0 0), (.slice none 0 0)] 105, blk aF [(nV aD), (.string ⟨(aI.2).b.toArray⟩), (sV aG 0 1 1), (.slice none 0 0), (.slice none 0 0)] 105]) [0] [1, 2, 3] (by decide) rfl rfl
       refine tf rfl rfl (fun a hf => e_call hf rfl call186 rfl (pspec_l3Reader__expr_ok _ ba (⟨r_.list, aw.at_⟩ : l3Reader) bp0 (.slice aB r_.list.length aC) (GT.mono hle h1p) hm1  _ b9)) ?_
       rintro aR w ⟨aO, rfl, hB⟩
       replace hm := bb _ _ hB; clear hB
       refine tAk hm [2, 3, 4] rfl fun hS => tO (tf rfl rfl (fun a hf => e_build (vs := #[(0, (.agg #[(nV aH.1.op), (nV aH.1.n_), (.string ⟨(aH.1.name).b.toArray⟩), aO]))]) (cs := [(nV aH.1.op), (nV aH.1.n_), (.string ⟨(aH.1.name).b.toArray⟩), aO]) et_22 hf hm rfl rfl (by kernel_rfl) rfl rfl) ?_)
       rintro _ w ⟨aN, rfl, hm⟩
       replace hm := hm.els_nil (α := Expr_)
       replace hm : Mem w0 hz _ [els [] ([] : List Expr_), blk aN [(nV aH.1.op), (nV aH.1.n_), (.string ⟨(aH.1.name).b.toArray⟩), aO] 24, blk bp0 [(.slice aB r_.list.length aC), (nV aH.2.at_)] 91, ow [(nV aH.1.op), (nV aH.1.n_), (.string ⟨(aH.1.name).b.toArray⟩), aO] (aH.1 : Expr_), ow [(sV aG 0 1 1)] ([aA.1] : List Expr_), blk aE [(nV 0), (.string ⟨((mkS [])).b.toArray⟩), (.slice none 0 0), (.slice none 0 0), (.slice none 0 0)] 105, blk aF [(nV aD), (.string ⟨(aI.2).b.toArray⟩), (sV aG 0 1 1), (.slice none 0 0), (.slice none 0 0)] 105] := mkx_Expr_ aH.1 hm 3 rfl
       replace hm := (hm.els_cons 0 3 (by decide) rfl rfl).pk (L' := [els [(nV aH.1.op), (nV aH.1.n_), (.string ⟨(aH.1.name).b.toArray⟩), aO] ([aH.1] : List Expr_), blk aN [(nV aH.1.op), (nV aH.1.n_), (.string ⟨(aH.1.name).b.toArray⟩), aO] 24, blk bp0 [(.slice aB r_.list.length aC), (nV aH.2.at_)] 91, ow [(sV aG 0 1 1)] ([aA.1] : List Expr_), blk aE [(nV 0), (.string ⟨((mkS [])).b.toArray⟩), (.slice none 0 0), (.slice none 0 0), (.slice none 0 0)] 105, blk aF [(nV aD), (.string ⟨(aI.2).b.toArray⟩), (sV aG 0 1 1), (.slice none 0 0), (.slice none 0 0)] 105]) [0, 1, 2, 4, 5, 6] rfl rfl
       replace hm := (hm.lit_els 1 0 (by decide) rfl rfl rfl rfl).pk (L' := [ow [(sV aN 0 1 1)] ([aH.1] : List Expr_), blk bp0 [(.slice aB r_.list.length aC), (nV aH.2.at_)] 91, ow [(sV aG 0 1 1)] ([aA.1] : List Expr_), blk aE [(nV 0), (.string ⟨((mkS [])).b.toArray⟩), (.slice none 0 0), (.slice none 0 0), (.slice none 0 0)] 105, blk aF [(nV aD), (.string ⟨(aI.2).b.toArray⟩), (sV aG 0 1 1), (.slice none 0 0), (.slice none 0 0)] 105]) [1, 2, 3, 4, 5] rfl rfl
       refine tAk hm [2, 3, 4] rfl fun hS => tO (gb fun bD bc => ?_)
       obtain ⟨bd, be⟩ := appM_some.1 bc
       replace hm := (hm.both 2 0 (by decide) rfl rfl).pk (L' := [blk bp0 [(.slice aB r_.list.length aC), (nV aH.2.at_)] 91, both (ow [(sV aG 0 1 1)] ([aA.1] : List Expr_)) (ow [(sV aN 0 1 1)] ([aH.1] : List Expr_)), blk aE [(nV 0), (.string ⟨((mkS [])).b.toArray⟩), (.slice none 0 0), (.slice none 0 0), (.slice none 0 0)] 105, blk aF [(nV aD), (.string ⟨(aI.2).b.toArray⟩), (sV aG 0 1 1), (.slice none 0 0), (.slice none 0 0)] 105]) [1, 2, 3, 4] rfl rfl
       refine tf rfl rfl (fun a hf => e_appendD (xs := ([aA.1] : List Expr_)) (ys := ([aH.1] : List Expr_)) 1 et_22 hf hm rfl rfl rfl rfl bd) ?_
       rintro bf w hm
       rw [be] at hm
       refine tAn rfl (tP rfl (fun w => yF fo_105_2 rfl) (tO (tf0 rfl rfl (fun a hf => e_store1 3 hf hm rfl sizeOf22 rfl rfl rfl (rep_one (hm.ow_rep 1 rfl)) rfl) ?_)))
       rintro _ w hm
       exact tAn rfl (tE (gZ fun a hf => ⟨bf, hf.sb rfl, hm.pk [0, 2, 3, 1] rfl rfl⟩))
      exact gcf rfl (gSk (gZ fun a hf => ⟨(sV aG 0 1 1), hf.sb rfl, hm.pk [1, 2, 3, 0] rfl rfl⟩))
     repeat clear hm
     rintro ae a w ⟨af, hf, hm⟩
     exact gv hf (gZe fun a hf => ⟨af, hf.sb rfl, hm.pk [0, 1, 2, 3] rfl rfl⟩)
    repeat clear hm
    rintro aW a w ⟨aL, hf, hm⟩
    refine gv hf (gS (gR (gM rfl ?_)))
    obtain ⟨am, hle, hm1, hsub, an⟩ := hm.take2 (L1 := [blk bp0 [(.slice aB r_.list.length aC), (nV aW.1)] 91]) (L2 := [blk aE [(nV 0), (.string ⟨((mkS [])).b.toArray⟩), (.slice none 0 0), (.slice none 0 0), (.slice none 0 0)] 105, blk aF [(nV aD), (.string ⟨(aI.2).b.toArray⟩), aL, (.slice none 0 0), (.slice none 0 0)] 105, ow [aL] aW.2]) [0] [1, 2, 3] (by decide) rfl rfl
    refine gCg rfl call123 (pspec_l3Reader__want_ok _ am (⟨r_.list, aW.1⟩ : l3Reader) bp0 (.slice aB r_.list.length aC) (GT.mono hle h1p) (mkS [59]) hm1 ) ?_
    rintro bF bG bH w ⟨rfl, hB⟩
    replace hm := an _ _ hB; clear hB
    refine gE (gS (gR (gY (yn (hm.blk_at 2 rfl) isAgg105 sizeOf105 rfl) (gSN hm 1 sizeOf105 (one_cons rfl (one_cons rfl (one_cons (rep_one (hm.ow_rep 3 rfl)) (one_cons rfl (one_cons rfl one_nil))))) rfl fun w hm => gE (gRt ?_)))))
    replace hm := hm.nilow (α := Stmt_)
    replace hm := hm.nilow (α := Stmt_)
    exact grc 3 results166 hm rfl isAgg105 sizeOf105 ⟨aL, (.slice none 0 0), (.slice none 0 0), rfl, hm.pk [2, 5, 1, 0] rfl rfl⟩
theorem pspec_l3Reader__block_ok (w0 : World) (hz : Heap) (r_ : l3Reader) (bp0 : Nat) (v1p : Value) (h1p : GT.rep hz [v1p] r_.list) (hm0 : Mem w0 hz w0 [blk bp0 [v1p, (nV r_.at_)] 91]) (r : (List Stmt_) × l3Reader) (hq : pspec_l3Reader__block r_ = some r) : Con Tryz.prog 126 [(pV bp0)] w0 (fun v w' => ∃ (x1 : Value), v = x1 ∧ Mem w0 hz w' [blk bp0 [v1p, (nV r.2.at_)] 91, ow [x1] r.1]) := (pspec_l3Reader__block_all ).1 r_ r hq w0 hz bp0 v1p h1p hm0
theorem pspec_l3Reader__fn_ok (w0 : World) (hz : Heap) (r_ : l3Reader) (bp0 : Nat) (v1p : Value) (h1p : GT.rep hz [v1p] r_.list) (hm0 : Mem w0 hz w0 [blk bp0 [v1p, (nV r_.at_)] 91]) :
    ConM Tryz.prog 71 [(pV bp0)] w0 (pspec_l3Reader__fn r_) fun r v w' => ∃ (x1 : Value) (x2 : Value), v = (.agg #[(.string ⟨(r.1.name).b.toArray⟩), x1, x2]) ∧ Mem w0 hz w' [blk bp0 [v1p, (nV r.2.at_)] 91, ow [x1] r.1.params, ow [x2] r.1.body] := by
  unfold pspec_l3Reader__fn
  refine gcon func71 rfl fun r => ?_
  have hm := hm0
  refine gS (gR (gAl hm zeroValue94 rfl fun aB w hm => gE (gS (gR (gM rfl ?_)))))
  obtain ⟨aO, hle, hm1, hsub, aP⟩ := hm.take2 (L1 := [blk bp0 [v1p, (nV r_.at_)] 91]) (L2 := [blk aB [(.string ⟨((mkS [])).b.toArray⟩), (.slice none 0 0), (.slice none 0 0)] 94]) [1] [0] (by decide) rfl rfl
  refine gCg rfl call123 (pspec_l3Reader__want_ok _ aO r_ bp0 v1p (GT.mono hle h1p) (mkS [102, 110]) hm1 ) ?_
  rintro aM an ao w ⟨rfl, hB⟩
  replace hm := aP _ _ hB; clear hB
  refine gE (gS (gR (gM rfl ?_)))
  obtain ⟨aQ, hle, hm1, hsub, aR⟩ := hm.take2 (L1 := [blk bp0 [v1p, (nV aM.at_)] 91]) (L2 := [blk aB [(.string ⟨((mkS [])).b.toArray⟩), (.slice none 0 0), (.slice none 0 0)] 94]) [0] [1] (by decide) rfl rfl
  refine gCg rfl call124 (pspec_l3Reader__name_ok _ aQ (⟨r_.list, aM.at_⟩ : l3Reader) bp0 v1p (GT.mono hle h1p) hm1 ) ?_
  rintro aC ap aq w ⟨rfl, hB⟩
  replace hm := aR _ _ hB; clear hB
  refine gY (yG rfl (y_build (vs := [(0, (.string ⟨(aC.1).b.toArray⟩))]) (cs := #[(.string ⟨(aC.1).b.toArray⟩), (.slice none 0 0), (.slice none 0 0)]) rfl rfl (by kernel_rfl))) (gAl hm zeroValue94 rfl fun aD w hm => gSN hm 0 sizeOf94 (one_cons rfl (one_cons rfl (one_cons rfl one_nil))) rfl fun w hm => gE (gS (gR (gM rfl ?_))))
  obtain ⟨aT, hle, hm1, hsub, aU⟩ := hm.take2 (L1 := [blk bp0 [v1p, (nV aC.2.at_)] 91]) (L2 := [blk aD [(.string ⟨(aC.1).b.toArray⟩), (.slice none 0 0), (.slice none 0 0)] 94, blk aB [(.string ⟨((mkS [])).b.toArray⟩), (.slice none 0 0), (.slice none 0 0)] 94]) [1] [0, 2] (by decide) rfl rfl
  refine gCg rfl call123 (pspec_l3Reader__want_ok _ aT (⟨r_.list, aC.2.at_⟩ : l3Reader) bp0 v1p (GT.mono hle h1p) (mkS [40]) hm1 ) ?_
  rintro ar au av w ⟨rfl, hB⟩
  replace hm := aU _ _ hB; clear hB
  refine gE (gS (gJg (fun aE a w => ∃ (aF : Value), St 40 [(0, (pV bp0)), (2, (pV aB)), (3, (pV aD))] w0 hz [blk bp0 [v1p, (nV aE.1)] 91, blk aB [(.string ⟨((mkS [])).b.toArray⟩), (.slice none 0 0), (.slice none 0 0)] 94, blk aD [(.string ⟨(aC.1).b.toArray⟩), aF, (.slice none 0 0)] 94, ow [aF] aE.2] a w) (fun aE => ?_) ?_))
  ·
   refine gBk ?_
   replace hm := hm.nilow (α := Str)
   refine gMg (fun aA a w => ∃ (aI : Value), St 40 [(0, (pV bp0)), (2, (pV aB)), (3, (pV aD))] w0 hz [blk bp0 [v1p, (nV aA.1)] 91, blk aB [(.string ⟨((mkS [])).b.toArray⟩), (.slice none 0 0), (.slice none 0 0)] 94, blk aD [(.string ⟨(aC.1).b.toArray⟩), aI, (.slice none 0 0)] 94, ow [aI] aA.2] a w) (fun a hf => ⟨(.slice none 0 0), hf.sb rfl, hm.pk [1, 3, 2, 0] rfl rfl⟩) ?_
   repeat clear hm
   rintro aw aV aA a w ⟨aI, hf, hm⟩ ax aW
   refine gv hf (gS (gS (gJ hm (fun aK => [(0, (pV bp0)), (2, (pV aB)), (3, (pV aD)), (20, (.bool (aK)))]) (fun aK => [blk bp0 [v1p, (nV aA.1)] 91, blk aB [(.string ⟨((mkS [])).b.toArray⟩), (.slice none 0 0), (.slice none 0 0)] 94, blk aD [(.string ⟨(aC.1).b.toArray⟩), aI, (.slice none 0 0)] 94, ow [aI] aA.2]) (fun aK => ?_) ?_)))
   ·
    refine gR (gM rfl (gY (yG rfl (y_nilptr rfl rfl)) (gF fo_91_1 rfl (gL hm 0 isAgg3 rfl (gB rfl (gM rfl (gsd 16 rfl (fun aX => ?_) fun aX => ?_)))))))
    ·
     exact gM rfl (gC hm rfl call125 (pspec_l3Reader__is_ok _ (⟨r_.list, aA.1⟩ : l3Reader) bp0 v1p (hm.now h1p) (hm.blk_cells 0 rfl).1 (mkS [41])) fun ay az w hm => gN rfl (gKt rfl (gE (gz hm [0, 1, 2, 3] rfl))))
    exact gO rfl (gO rfl (gO rfl (gKf rfl (gE (gz hm [0, 1, 2, 3] rfl)))))
   repeat clear hm
   intro aK w hm
   refine gs 20 rfl (fun aY => ?_) fun aY => ?_
   ·
    refine gct rfl (gSk (gBk (gS (gS (gR (gF fo_94_1 rfl (gL hm 2 isAgg74 rfl ?_)))))))
    obtain ⟨aG, aH, rfl, bA⟩ := ro_slice (hm.ow_rep 3 rfl)
    refine gY (yV st_74 rfl) (gB rfl (gE (gJ hm (fun aJ => [(0, (pV bp0)), (2, (pV aB)), (3, (pV aD))]) (fun aJ => [blk bp0 [v1p, (nV aJ)] 91, blk aB [(.string ⟨((mkS [])).b.toArray⟩), (.slice none 0 0), (.slice none 0 0)] 94, blk aD [(.string ⟨(aC.1).b.toArray⟩), (.slice aG aA.2.length aH), (.slice none 0 0)] 94, ow [(.slice aG aA.2.length aH)] aA.2]) (fun aJ => ?_) ?_)))
    ·
     refine gsd 24 rfl (fun aZ => ?_) fun aZ => ?_
     ·
      refine gct rfl (gR (gM rfl ?_))
      obtain ⟨a7, hle, hm1, hsub, a8⟩ := hm.take2 (L1 := [blk bp0 [v1p, (nV aA.1)] 91]) (L2 := [blk aB [(.string ⟨((mkS [])).b.toArray⟩), (.slice none 0 0), (.slice none 0 0)] 94, blk aD [(.string ⟨(aC.1).b.toArray⟩), (.slice aG aA.2.length aH), (.slice none 0 0)] 94, ow [(.slice aG aA.2.length aH)] aA.2]) [0] [1, 2, 3] (by decide) rfl rfl
      refine gCg rfl call123 (pspec_l3Reader__want_ok _ a7 (⟨r_.list, aA.1⟩ : l3Reader) bp0 v1p (GT.mono hle h1p) (mkS [44]) hm1 ) ?_
      rintro bB bC bD w ⟨rfl, hB⟩
      replace hm := a8 _ _ hB; clear hB
      exact gE (gz hm [0, 1, 2, 3] rfl)
     exact gcf rfl (gSk (gz hm [0, 1, 2, 3] rfl))
    repeat clear hm
    intro aJ w hm
    refine gW (.p 0 (.p 2 (.q 1 (.e 3 (.e 4 (.e 5 (.p 6 (.e 7 .fin .nil)) .nil) .nil) .nil)))) [3, 4] [0, 2, 6] hm [1, 2, 3] [blk aB [(.string ⟨((mkS [])).b.toArray⟩), (.slice none 0 0), (.slice none 0 0)] 94, blk aD [(.string ⟨(aC.1).b.toArray⟩), (.slice aG aA.2.length aH), (.slice none 0 0)] 94, ow [(.slice aG aA.2.length aH)] aA.2] rfl mxo (by kernel_rfl) (fun _ _ _ h => h.2) fun w hm hS => tP rfl (fun w => yF fo_94_1 rfl) (tP rfl (fun w => yM rfl) (tQ rfl hS (fun w hm => yL hm 1 isAgg74 rfl) (tO (gb fun aL aa => ?_))))
    obtain ⟨ab, hle, hm1, hsub, ac⟩ := hm.take2 (L1 := [blk bp0 [v1p, (nV aJ)] 91]) (L2 := [blk aB [(.string ⟨((mkS [])).b.toArray⟩), (.slice none 0 0), (.slice none 0 0)] 94, blk aD [(.string ⟨(aC.1).b.toArray⟩), (.slice aG aA.2.length aH), (.slice none 0 0)] 94, ow [(.slice aG aA.2.length aH)] aA.2]) [0] [1, 2, 3] (by decide) rfl rfl
    refine tf rfl rfl (fun a hf => e_call hf rfl call124 rfl (pspec_l3Reader__name_ok _ ab (⟨r_.list, aJ⟩ : l3Reader) bp0 v1p (GT.mono hle h1p) hm1  _ aa)) ?_
    rintro bE w ⟨rfl, hB⟩
    replace hm := ac _ _ hB; clear hB
    refine tAk hm [1, 2, 3] rfl fun hS => tO (tf rfl rfl (fun a hf => e_build (vs := #[(0, (.string ⟨(aL.1).b.toArray⟩))]) (cs := [(.string ⟨(aL.1).b.toArray⟩)]) et_74 hf hm rfl rfl (by kernel_rfl) rfl rfl) ?_)
    rintro _ w ⟨bF, rfl, hm⟩
    replace hm := hm.lit (xs := ([aL.1] : List Str)) 0 rfl rfl rfl rfl
    refine tAk hm [2, 3, 4] rfl fun hS => tO (gb fun bG ae => ?_)
    obtain ⟨af, ag⟩ := appM_some.1 ae
    refine tf rfl rfl (fun a hf => e_append 4 et_74 hf hm rfl (hm.ow_rep 0 rfl) rfl rfl rfl af) ?_
    rintro ah w hm
    rw [ag] at hm
    refine tAn rfl (tP rfl (fun w => yF fo_94_1 rfl) (tO (tf0 rfl rfl (fun a hf => e_store1 3 hf hm rfl sizeOf74 rfl rfl rfl (rep_one (hm.ow_rep 4 rfl)) rfl) ?_)))
    rintro _ w hm
    exact tAn rfl (tE (gZe fun a hf => ⟨ah, hf.sb rfl, hm.pk [1, 2, 3, 4] rfl rfl⟩))
   exact gcf rfl (gXt (gHh (gLp aW aV (gZ fun a hf => ⟨aI, hf.sb rfl, hm.pk [0, 1, 2, 3] rfl rfl⟩))))
  repeat clear hm
  rintro aE a w ⟨aF, hf, hm⟩
  refine gv hf (gS (gR (gM rfl ?_)))
  obtain ⟨ai, hle, hm1, hsub, aj⟩ := hm.take2 (L1 := [blk bp0 [v1p, (nV aE.1)] 91]) (L2 := [blk aB [(.string ⟨((mkS [])).b.toArray⟩), (.slice none 0 0), (.slice none 0 0)] 94, blk aD [(.string ⟨(aC.1).b.toArray⟩), aF, (.slice none 0 0)] 94, ow [aF] aE.2]) [0] [1, 2, 3] (by decide) rfl rfl
  refine gCg rfl call123 (pspec_l3Reader__want_ok _ ai (⟨r_.list, aE.1⟩ : l3Reader) bp0 v1p (GT.mono hle h1p) (mkS [41]) hm1 ) ?_
  rintro aN bH bJ w ⟨rfl, hB⟩
  replace hm := aj _ _ hB; clear hB
  refine gE (gS (gR (gM rfl ?_)))
  obtain ⟨ak, hle, hm1, hsub, al⟩ := hm.take2 (L1 := [blk bp0 [v1p, (nV aN.at_)] 91]) (L2 := [blk aB [(.string ⟨((mkS [])).b.toArray⟩), (.slice none 0 0), (.slice none 0 0)] 94, blk aD [(.string ⟨(aC.1).b.toArray⟩), aF, (.slice none 0 0)] 94, ow [aF] aE.2]) [0] [1, 2, 3] (by decide) rfl rfl
  refine gCg rfl call126 (pspec_l3Reader__block_ok _ ak (⟨r_.list, aN.at_⟩ : l3Reader) bp0 v1p (GT.mono hle h1p) hm1 ) ?_
  rintro bK bL am w ⟨_, rfl, hB⟩
  replace hm := al _ _ hB; clear hB
  exact gF fo_94_2 rfl (gS1 hm 3 sizeOf92 (rep_one (hm.ow_rep 1 rfl)) rfl fun w hm => gE (gS (gR (gY (yn (hm.blk_at 3 rfl) isAgg94 sizeOf94 rfl) (gSN hm 2 sizeOf94 (one_cons rfl (one_cons (rep_one (hm.ow_rep 4 rfl)) (one_cons (rep_one (hm.ow_rep 1 rfl)) one_nil))) rfl fun w hm => gE (gRt (grc 2 results71 hm rfl isAgg94 sizeOf94 ⟨aF, am, rfl, hm.pk [0, 4, 1] rfl rfl⟩)))))))
theorem spec_l3Args_ok (w0 : World) (op : Int) :
    ConM Tryz.prog 205 [(nV op)] w0 (spec_l3Args op) fun r v w' => v = (nV r) ∧ Below w0.heap.size w0 w' := by
  unfold spec_l3Args
  refine gcon func205 rfl fun r => ?_
  have hm := Mem.start w0
  refine gS (gR (gA rfl (gE (gS (gS (gR (gM rfl (gB rfl (gE (gsd 4 rfl (fun aA => ?_) fun aA => ?_))))))))))
  ·
   exact gct rfl (gS (gR (gA rfl (gE (gRt (gr1 results205 rfl ⟨rfl, hm.below⟩))))))
  exact gcf rfl (gSk (gS (gR (gA rfl (gE (gRt (gr1 results205 rfl ⟨rfl, hm.below⟩)))))))
theorem spec_l2Kids_ok (w0 : World) (op : Int) :
    ConM Tryz.prog 111 [(nV op)] w0 (spec_l2Kids op) fun r v w' => v = (.tuple #[(nV r.1), (nV r.2)]) ∧ Below w0.heap.size w0 w' := by
  unfold spec_l2Kids
  refine gcon func111 rfl fun r => ?_
  have hm := Mem.start w0
  refine gS (gR (gA rfl (gA rfl (gE (gS (gS (gR (gM rfl (gE (gBk (gS (gS (gR (gB rfl (gA rfl (gE (gJ hm (fun aA => [(4, (nV op)), (5, (.bool (aA)))]) (fun aA => []) (fun aA => ?_) ?_)))))))))))))))))
  ·
   refine gsd 5 rfl (fun aC => ?_) fun aC => ?_
   ·
    exact gct rfl (gSk (gz hm [] rfl))
   exact gcf rfl (gR (gB rfl (gA rfl (gE (gz hm [] rfl)))))
  repeat clear hm
  intro aA w hm
  refine gs 5 rfl (fun aD => ?_) fun aD => ?_
  ·
   exact gct rfl (gS (gR (gA rfl (gA rfl (gE (gRt (gr2 results111 rfl ⟨rfl, hm.below⟩)))))))
  refine gcf rfl (gS (gS (gR (gB rfl (gA rfl (gE (gJ hm (fun aB => [(4, (nV op)), (8, (.bool (aB)))]) (fun aB => []) (fun aB => ?_) ?_)))))))
  ·
   refine gsd 8 rfl (fun aE => ?_) fun aE => ?_
   ·
    exact gct rfl (gSk (gz hm [] rfl))
   exact gcf rfl (gR (gB rfl (gA rfl (gE (gz hm [] rfl)))))
  repeat clear hm
  intro aB w hm
  refine gs 8 rfl (fun aF => ?_) fun aF => ?_
  ·
   exact gct rfl (gS (gR (gA rfl (gA rfl (gE (gRt (gr2 results111 rfl ⟨rfl, hm.below⟩)))))))
  refine gcf rfl (gS (gR (gB rfl (gA rfl (gE (gsd 11 rfl (fun aG => ?_) fun aG => ?_))))))
  ·
   exact gct rfl (gS (gR (gA rfl (gA rfl (gE (gRt (gr2 results111 rfl ⟨rfl, hm.below⟩)))))))
  exact gcf rfl (gSk (gS (gR (gA rfl (gA rfl (gE (gRt (gr2 results111 rfl ⟨rfl, hm.below⟩))))))))
theorem spec_l2Form_all  : ∀ (e : Expr_) (deep : Int) (r : Bool), spec_l2Form e deep = some r → ∀ (w0 : World) (v1 : Value) (h1 : GT.rep (hp w0) [v1] e.kids), Con Tryz.prog 58 [(.agg #[(nV e.op), (nV e.n_), (.string ⟨(e.name).b.toArray⟩), v1]), (nV deep)] w0 (fun v w' => v = (.bool (r)) ∧ Below w0.heap.size w0 w') := by
  refine spec_l2Form.partial_correctness  (motive := fun e deep r => ∀ (w0 : World) (v1 : Value) (h1 : GT.rep (hp w0) [v1] e.kids), Con Tryz.prog 58 [(.agg #[(nV e.op), (nV e.n_), (.string ⟨(e.name).b.toArray⟩), v1]), (nV deep)] w0 (fun v w' => v = (.bool (r)) ∧ Below w0.heap.size w0 w')) ?_
  intro rec_ ih_ e deep r hq w0 v1 h1
  have spec_l2Form_rec : ∀ (w0 : World) (e : Expr_) (v1 : Value) (h1 : GT.rep (hp w0) [v1] e.kids) (deep : Int) (r : Bool) (hq : rec_ e deep = some r), Con Tryz.prog 58 [(.agg #[(nV e.op), (nV e.n_), (.string ⟨(e.name).b.toArray⟩), v1]), (nV deep)] w0 (fun v w' => v = (.bool (r)) ∧ Below w0.heap.size w0 w') := fun w0 e v1 h1 deep r hq => ih_ e deep r hq w0 v1 h1
  refine gconr (ρ := Bool) (R := fun r v w' => v = (.bool (r)) ∧ Below w0.heap.size w0 w') func58 rfl hq ?_
  have hm := Mem.start w0
  refine gS (gR (gBx hm rfl fun aA w hm => gA rfl (gE (gS (gR (gF fo_24_0 rfl (gL hm 0 isAgg3 rfl (gC hm rfl call111 (spec_l2Kids_ok _ e.op) fun aG ab w hm => gM rfl (gX rfl (gX rfl (gA rfl (gA rfl (gE (gS (gS (gJ hm (fun aB => [(1, (nV deep)), (2, (pV aA)), (31, (.bool (aB)))]) (fun aB => [blk aA [(nV e.op), (nV e.n_), (.string ⟨(e.name).b.toArray⟩), v1] 24]) (fun aB => ?_) ?_))))))))))))))))
  ·
   refine gR (gM rfl (gB rfl (gM rfl (gsd 17 rfl (fun aI => ?_) fun aI => ?_))))
   ·
    exact gO rfl (gO rfl (gO rfl (gO rfl (gKt rfl (gM rfl (gO rfl (gO rfl (gO rfl (gO rfl (gO rfl (gO rfl (gO rfl (gKt rfl (gE (gz hm [0] rfl)))))))))))))))
   refine gF fo_24_0 rfl (gL hm 0 isAgg3 rfl (gC hm rfl call112 (spec_l1In_ok _ e.op 1 13) fun ac ae w hm => gN rfl (gKf rfl (gM rfl (gsn 23 rfl (fun aJ => ?_) fun aJ => ?_)))))
   ·
    exact gO rfl (gO rfl (gO rfl (gO rfl (gO rfl (gO rfl (gO rfl (gKt rfl (gE (gz hm [0] rfl)))))))))
   refine gF fo_24_3 rfl (gL hm 0 isAgg22 rfl ?_)
   obtain ⟨af, ag, rfl, ah⟩ := ro_slice h1
   exact gY (yV st_22 rfl) (gM rfl (gM rfl (gC hm rfl call112 (spec_l1In_ok _ (e.kids.length : Int) aG.1 aG.2) fun ai aj w hm => gN rfl (gKf rfl (gE (gz hm [0] rfl))))))
  repeat clear hm
  intro aB w hm
  refine gs 31 rfl (fun aK => ?_) fun aK => ?_
  ·
   exact gct rfl (gS (gR (gA rfl (gE (gRt (gr1 results58 rfl ⟨rfl, hm.below⟩))))))
  refine gcf rfl (gSk (gS (gJ hm (fun aC => [(1, (nV deep)), (2, (pV aA)), (7, (.bool (aC)))]) (fun aC => [blk aA [(nV e.op), (nV e.n_), (.string ⟨(e.name).b.toArray⟩), v1] 24]) (fun aC => ?_) ?_)))
  ·
   refine gR (gF fo_24_0 rfl (gL hm 0 isAgg3 rfl (gB rfl (gM rfl (gsd 35 rfl (fun aL => ?_) fun aL => ?_)))))
   ·
    exact gO rfl (gO rfl (gO rfl (gKt rfl (gA rfl (gE (gz hm [0] rfl))))))
   exact gF fo_24_0 rfl (gL hm 0 isAgg3 rfl (gB rfl (gKf rfl (gA rfl (gE (gz hm [0] rfl))))))
  repeat clear hm
  intro aC w hm
  refine gS (gS (gJ hm (fun aD => [(1, (nV deep)), (2, (pV aA)), (69, (.bool (aD)))]) (fun aD => [blk aA [(nV e.op), (nV e.n_), (.string ⟨(e.name).b.toArray⟩), v1] 24]) (fun aD => ?_) ?_))
  ·
   refine gR (gM rfl (gF fo_24_2 rfl (gL hm 0 isAgg9 rfl (gC hm rfl call113 (spec_IsName_ok _ e.name) fun ak al w hm => gY (yG rfl (y_neqb underlying4 rfl rfl rfl)) (gM rfl (gsd 45 rfl (fun aM => ?_) fun aM => ?_))))))
   ·
    exact gO rfl (gO rfl (gO rfl (gO rfl (gO rfl (gO rfl (gO rfl (gKt rfl (gM rfl (gO rfl (gO rfl (gO rfl (gO rfl (gKt rfl (gM rfl (gO rfl (gO rfl (gO rfl (gO rfl (gO rfl (gO rfl (gO rfl (gO rfl (gKt rfl (gE (gz hm [0] rfl)))))))))))))))))))))))))
   refine gM rfl (gN rfl (gM rfl (gsn 48 rfl (fun aN => ?_) fun aN => ?_)))
   ·
    refine gF fo_24_2 rfl (gL hm 0 isAgg9 rfl (gY (yG rfl (y_neqs (p := e.name) (q := (mkS [])) rfl rfl rfl)) (gKt rfl (gKf rfl (gM rfl (gsd 54 rfl (fun aO => ?_) fun aO => ?_))))))
    ·
     exact gO rfl (gO rfl (gO rfl (gO rfl (gKt rfl (gM rfl (gO rfl (gO rfl (gO rfl (gO rfl (gO rfl (gO rfl (gO rfl (gO rfl (gKt rfl (gE (gz hm [0] rfl))))))))))))))))
    refine gF fo_24_1 rfl (gL hm 0 isAgg3 rfl (gC hm rfl call112 (spec_l1In_ok _ e.n_ 0 255) fun am an w hm => gN rfl (gKf rfl (gM rfl (gsn 60 rfl (fun aP => ?_) fun aP => ?_)))))
    ·
     exact gO rfl (gO rfl (gO rfl (gO rfl (gO rfl (gO rfl (gO rfl (gO rfl (gKt rfl (gE (gz hm [0] rfl))))))))))
    refine gF fo_24_0 rfl (gL hm 0 isAgg3 rfl (gB rfl (gM rfl (gsd 64 rfl (fun aQ => ?_) fun aQ => ?_))))
    ·
     exact gF fo_24_1 rfl (gL hm 0 isAgg3 rfl (gB rfl (gKt rfl (gKf rfl (gE (gz hm [0] rfl))))))
    exact gO rfl (gO rfl (gO rfl (gKf rfl (gKf rfl (gE (gz hm [0] rfl))))))
   refine gO rfl (gO rfl (gO rfl (gKf rfl (gKf rfl (gM rfl (gF fo_24_1 rfl (gL hm 0 isAgg3 rfl (gC hm rfl call112 (spec_l1In_ok _ e.n_ 0 255) fun ao ap w hm => gN rfl (gKf rfl (gM rfl (gsn 60 rfl (fun aR => ?_) fun aR => ?_)))))))))))
   ·
    exact gO rfl (gO rfl (gO rfl (gO rfl (gO rfl (gO rfl (gO rfl (gO rfl (gKt rfl (gE (gz hm [0] rfl))))))))))
   refine gF fo_24_0 rfl (gL hm 0 isAgg3 rfl (gB rfl (gM rfl (gsd 64 rfl (fun aT => ?_) fun aT => ?_))))
   ·
    exact gF fo_24_1 rfl (gL hm 0 isAgg3 rfl (gB rfl (gKt rfl (gKf rfl (gE (gz hm [0] rfl))))))
   exact gO rfl (gO rfl (gO rfl (gKf rfl (gKf rfl (gE (gz hm [0] rfl))))))
  repeat clear hm
  intro aD w hm
  refine gs 69 rfl (fun aU => ?_) fun aU => ?_
  ·
   exact gct rfl (gS (gR (gA rfl (gE (gRt (gr1 results58 rfl ⟨rfl, hm.below⟩))))))
  refine gcf rfl (gSk (gS (gS (gR (gA rfl (gE (gBk (gNf hm (fun aE aH => [(1, (nV deep)), (2, (pV aA)), (8, (nV aE))]) (fun aE aH => [blk aA [(nV e.op), (nV e.n_), (.string ⟨(e.name).b.toArray⟩), v1] 24]) [0] rfl ?_ ?_))))))))
  ·
   repeat clear hm
   intro aq aV aE aH w hm ar au av aW
   refine gS (gS (gR (gM rfl (gF fo_24_3 rfl (gL hm 0 isAgg22 rfl ?_)))))
   obtain ⟨aw, ax, rfl, ay⟩ := ro_slice h1
   refine gY (yV st_22 rfl) (gB rfl (gE (go _ 74 rfl (decide_eq_true (by omega)) (gct rfl (gSk (gS (gBk (gS (gR (gF fo_24_3 rfl (gL hm 0 isAgg22 rfl (gM rfl (gg fun aX aY aF => ?_)))))))))))))
   obtain ⟨az, bA, bB, he⟩ := idx_form' h1 aF
   obtain ⟨rfl, _, rfl⟩ := sl3 he
   obtain ⟨aZ, a7, a8⟩ := rk_Expr_ h1 aF
   refine gI st_22 aY (idx_lt aF) rfl (gY (yn (a7.mono hm.lez) isAgg24 sizeOf24 rfl) (gM rfl (gB rfl (gC hm rfl call58 (spec_l2Form_rec _ aX aZ (hm.now a8) (w64 (deep - 1))) fun bC bD w hm => gN rfl (gE (gsn 85 rfl (fun aa => ?_) fun aa => ?_))))))
   ·
    exact gct rfl (gS (gR (gA rfl (gE (gRt (gLr aW aV (gr1 results58 rfl ⟨rfl, hm.below⟩)))))))
   exact gcf rfl (gSk (gR (gM rfl (gP (by omega) (by omega) rfl (gA rfl (gE (gze hm [0] rfl)))))))
  repeat clear hm
  intro bE bF w hm bG bH
  refine gS (gS (gR (gM rfl (gF fo_24_3 rfl (gL hm 0 isAgg22 rfl ?_)))))
  obtain ⟨bJ, bK, rfl, bL⟩ := ro_slice h1
  exact gY (yV st_22 rfl) (gB rfl (gE (go _ 74 rfl (decide_eq_false (by omega)) (gcf rfl (gXt (gHh (gS (gR (gA rfl (gE (gRt (gr1 results58 rfl ⟨rfl, hm.below⟩))))))))))))
theorem spec_l2Form_ok (w0 : World) (e : Expr_) (v1 : Value) (h1 : GT.rep (hp w0) [v1] e.kids) (deep : Int) (r : Bool) (hq : spec_l2Form e deep = some r) : Con Tryz.prog 58 [(.agg #[(nV e.op), (nV e.n_), (.string ⟨(e.name).b.toArray⟩), v1]), (nV deep)] w0 (fun v w' => v = (.bool (r)) ∧ Below w0.heap.size w0 w') := spec_l2Form_all e deep r hq w0 v1 h1
theorem spec_l2Parts_all  : ∀ (e : Expr_) (r : Int), spec_l2Parts e = some r → ∀ (w0 : World) (v1 : Value) (h1 : GT.rep (hp w0) [v1] e.kids), Con Tryz.prog 59 [(.agg #[(nV e.op), (nV e.n_), (.string ⟨(e.name).b.toArray⟩), v1])] w0 (fun v w' => v = (nV r) ∧ Below w0.heap.size w0 w') := by
  refine spec_l2Parts.partial_correctness  (motive := fun e r => ∀ (w0 : World) (v1 : Value) (h1 : GT.rep (hp w0) [v1] e.kids), Con Tryz.prog 59 [(.agg #[(nV e.op), (nV e.n_), (.string ⟨(e.name).b.toArray⟩), v1])] w0 (fun v w' => v = (nV r) ∧ Below w0.heap.size w0 w')) ?_
  intro rec_ ih_ e r hq w0 v1 h1
  have spec_l2Parts_rec : ∀ (w0 : World) (e : Expr_) (v1 : Value) (h1 : GT.rep (hp w0) [v1] e.kids) (r : Int) (hq : rec_ e = some r), Con Tryz.prog 59 [(.agg #[(nV e.op), (nV e.n_), (.string ⟨(e.name).b.toArray⟩), v1])] w0 (fun v w' => v = (nV r) ∧ Below w0.heap.size w0 w') := fun w0 e v1 h1 r hq => ih_ e r hq w0 v1 h1
  refine gconr (ρ := Int) (R := fun r v w' => v = (nV r) ∧ Below w0.heap.size w0 w') func59 rfl hq ?_
  have hm := Mem.start w0
  refine gS (gR (gBx hm rfl fun aD w hm => gA rfl (gE (gS (gR (gA rfl (gE (gS (gS (gR (gA rfl (gE (gBk (gNf hm (fun aA aB => [(1, (pV aD)), (3, (nV aB)), (4, (nV aA))]) (fun aA aB => [blk aD [(nV e.op), (nV e.n_), (.string ⟨(e.name).b.toArray⟩), v1] 24]) [0] rfl ?_ ?_))))))))))))))
  ·
   repeat clear hm
   intro _ _ aA aB w hm aJ aK aL _
   refine gS (gS (gR (gM rfl (gF fo_24_3 rfl (gL hm 0 isAgg22 rfl ?_)))))
   obtain ⟨aM, aN, rfl, aO⟩ := ro_slice h1
   refine gY (yV st_22 rfl) (gB rfl (gE (go _ 9 rfl (decide_eq_true (by omega)) (gct rfl (gSk (gS (gBk (gR (gM rfl (gF fo_24_3 rfl (gL hm 0 isAgg22 rfl (gM rfl (gg fun aE aF aC => ?_)))))))))))))
   obtain ⟨aP, aQ, aR, he⟩ := idx_form' h1 aC
   obtain ⟨rfl, _, rfl⟩ := sl3 he
   obtain ⟨aG, aH, aI⟩ := rk_Expr_ h1 aC
   exact gI st_22 aF (idx_lt aC) rfl (gY (yn (aH.mono hm.lez) isAgg24 sizeOf24 rfl) (gC hm rfl call59 (spec_l2Parts_rec _ aE aG (hm.now aI)) fun aT aU w hm => gB rfl (gA rfl (gE (gR (gM rfl (gP (by omega) (by omega) rfl (gA rfl (gE (gze hm [0] rfl))))))))))
  repeat clear hm
  intro aV aW w hm aX aY
  refine gS (gS (gR (gM rfl (gF fo_24_3 rfl (gL hm 0 isAgg22 rfl ?_)))))
  obtain ⟨aZ, a7, rfl, a8⟩ := ro_slice h1
  exact gY (yV st_22 rfl) (gB rfl (gE (go _ 9 rfl (decide_eq_false (by omega)) (gcf rfl (gXt (gHh (gS (gR (gM rfl (gA rfl (gE (gRt (gr1 results59 rfl ⟨rfl, hm.below⟩)))))))))))))
theorem spec_l2Parts_ok (w0 : World) (e : Expr_) (v1 : Value) (h1 : GT.rep (hp w0) [v1] e.kids) (r : Int) (hq : spec_l2Parts e = some r) : Con Tryz.prog 59 [(.agg #[(nV e.op), (nV e.n_), (.string ⟨(e.name).b.toArray⟩), v1])] w0 (fun v w' => v = (nV r) ∧ Below w0.heap.size w0 w') := spec_l2Parts_all e r hq w0 v1 h1
theorem spec_ExprValid_ok (w0 : World) (e : Expr_) (v1 : Value) (h1 : GT.rep (hp w0) [v1] e.kids) :
    ConM Tryz.prog 22 [(.agg #[(nV e.op), (nV e.n_), (.string ⟨(e.name).b.toArray⟩), v1])] w0 (spec_ExprValid e) fun r v w' => v = (.bool (r)) ∧ Below w0.heap.size w0 w' := by
  unfold spec_ExprValid
  refine gcon func22 rfl fun r => ?_
  have hm := Mem.start w0
  refine gS (gR (gBx hm rfl fun aC w hm => gA rfl (gE (gS (gJ hm (fun aA => [(2, (.bool (aA)))]) (fun aA => []) (fun aA => ?_) ?_)))))
  ·
   refine gR (gY (yn (hm.blk_at 0 rfl) isAgg24 sizeOf24 rfl) (gC hm rfl call58 (spec_l2Form_ok _ e v1 (hm.now h1) 6) fun aD aE w hm => gM rfl (gs 5 rfl (fun aB => ?_) fun aB => ?_)))
   ·
    exact gY (yn (hm.blk_at 0 rfl) isAgg24 sizeOf24 rfl) (gC hm rfl call59 (spec_l2Parts_ok _ e v1 (hm.now h1)) fun aF aG w hm => gB rfl (gKt rfl (gA rfl (gE (gz hm [] rfl)))))
   exact gO rfl (gO rfl (gO rfl (gKf rfl (gA rfl (gE (gz hm [] rfl))))))
  repeat clear hm
  intro aA w hm
  exact gRt (gr1 results22 rfl ⟨rfl, hm.below⟩)
theorem spec_l3Stmts_all  : (∀ (list : List Stmt_) (deep : Int) (r : Bool), spec_l3Stmts list deep = some r → ∀ (w0 : World) (v1 : Value) (h1 : GT.rep (hp w0) [v1] list), Con Tryz.prog 167 [v1, (nV deep)] w0 (fun v w' => v = (.bool (r)) ∧ Below w0.heap.size w0 w')) ∧
    (∀ (s_ : Stmt_) (deep : Int) (r : Bool), spec_l3Stmt s_ deep = some r → ∀ (w0 : World) (v1 : Value) (h1 : GT.rep (hp w0) [v1] s_.args) (v2 : Value) (h2 : GT.rep (hp w0) [v2] s_.body) (v3 : Value) (h3 : GT.rep (hp w0) [v3] s_.else_), Con Tryz.prog 187 [(.agg #[(nV s_.op), (.string ⟨(s_.name).b.toArray⟩), v1, v2, v3]), (nV deep)] w0 (fun v w' => v = (.bool (r)) ∧ Below w0.heap.size w0 w')) := by
  refine spec_l3Stmts.mutual_partial_correctness  (motive_1 := fun list deep r => ∀ (w0 : World) (v1 : Value) (h1 : GT.rep (hp w0) [v1] list), Con Tryz.prog 167 [v1, (nV deep)] w0 (fun v w' => v = (.bool (r)) ∧ Below w0.heap.size w0 w')) (motive_2 := fun s_ deep r => ∀ (w0 : World) (v1 : Value) (h1 : GT.rep (hp w0) [v1] s_.args) (v2 : Value) (h2 : GT.rep (hp w0) [v2] s_.body) (v3 : Value) (h3 : GT.rep (hp w0) [v3] s_.else_), Con Tryz.prog 187 [(.agg #[(nV s_.op), (.string ⟨(s_.name).b.toArray⟩), v1, v2, v3]), (nV deep)] w0 (fun v w' => v = (.bool (r)) ∧ Below w0.heap.size w0 w')) ?_ ?_
  · intro rec_ ih_ list deep r hq w0 v1 h1
    have spec_l3Stmt_rec : ∀ (w0 : World) (s_ : Stmt_) (v1 : Value) (h1 : GT.rep (hp w0) [v1] s_.args) (v2 : Value) (h2 : GT.rep (hp w0) [v2] s_.body) (v3 : Value) (h3 : GT.rep (hp w0) [v3] s_.else_) (deep : Int) (r : Bool) (hq : rec_ s_ deep = some r), Con Tryz.prog 187 [(.agg #[(nV s_.op), (.string ⟨(s_.name).b.toArray⟩), v1, v2, v3]), (nV deep)] w0 (fun v w' => v = (.bool (r)) ∧ Below w0.heap.size w0 w') := fun w0 s_ v1 h1 v2 h2 v3 h3 deep r hq => ih_ s_ deep r hq w0 v1 h1 v2 h2 v3 h3
    refine gconr (ρ := Bool) (R := fun r v w' => v = (.bool (r)) ∧ Below w0.heap.size w0 w') func167 rfl hq ?_
    have hm := Mem.start w0
    refine gS (gR (gA rfl (gE (gS (gS (gR (gA rfl (gE (gBk (gNf hm (fun aB aC => [(0, v1), (1, (nV deep)), (5, (nV aB))]) (fun aB aC => []) [] rfl ?_ ?_))))))))))
    ·
     repeat clear hm
     intro a7 a8 aB aC w hm aa ab ac aK
     refine gS (gS (gR (gM rfl (gM rfl ?_))))
     obtain ⟨ae, af, rfl, ag⟩ := ro_slice h1
     refine gY (yV st_92 rfl) (gB rfl (gE (go _ 9 rfl (decide_eq_true (by omega)) (gct rfl (gSk (gS (gBk (gS (gR (gM rfl (gM rfl (gg fun aL aM aD => ?_))))))))))))
     obtain ⟨ah, ai, aj, he⟩ := idx_form' h1 aD
     obtain ⟨rfl, _, rfl⟩ := sl3 he
     obtain ⟨aX, aY, ak, aN, aO, aP, aQ⟩ := rk_Stmt_ h1 aD
     refine gI st_92 aM (idx_lt aD) rfl (gY (yn (aN.mono hm.lez) isAgg105 sizeOf105 rfl) (gM rfl (gC hm rfl call187 (spec_l3Stmt_rec _ aL aX (hm.now aO) aY (hm.now aP) ak (hm.now aQ) deep) fun al am w hm => gN rfl (gE (gsn 18 rfl (fun aR => ?_) fun aR => ?_)))))
     ·
      exact gct rfl (gS (gR (gA rfl (gE (gRt (gLr aK a8 (gr1 results167 rfl ⟨rfl, hm.below⟩)))))))
     exact gcf rfl (gSk (gR (gM rfl (gP (by omega) (by omega) rfl (gA rfl (gE (gze hm [] rfl)))))))
    repeat clear hm
    intro an ao w hm ap aq
    refine gS (gS (gR (gM rfl (gM rfl ?_))))
    obtain ⟨aT, aU, rfl, ar⟩ := ro_slice h1
    exact gY (yV st_92 rfl) (gB rfl (gE (go _ 9 rfl (decide_eq_false (by omega)) (gcf rfl (gXt (gHh (gS (gR (gA rfl (gE (gRt (gr1 results167 rfl ⟨rfl, hm.below⟩))))))))))))
  · intro rec_ ih_ s_ deep r hq w0 v1 h1 v2 h2 v3 h3
    have spec_l3Stmts_rec : ∀ (w0 : World) (list : List Stmt_) (v1 : Value) (h1 : GT.rep (hp w0) [v1] list) (deep : Int) (r : Bool) (hq : rec_ list deep = some r), Con Tryz.prog 167 [v1, (nV deep)] w0 (fun v w' => v = (.bool (r)) ∧ Below w0.heap.size w0 w') := fun w0 list v1 h1 deep r hq => ih_ list deep r hq w0 v1 h1
    refine gconr (ρ := Bool) (R := fun r v w' => v = (.bool (r)) ∧ Below w0.heap.size w0 w') func187 rfl hq ?_
    have hm := Mem.start w0
    refine gS (gR (gBx hm rfl fun aA w hm => gA rfl (gE (gS (gS (gJ hm (fun aE => [(1, (nV deep)), (2, (pV aA)), (23, (.bool (aE)))]) (fun aE => [blk aA [(nV s_.op), (.string ⟨(s_.name).b.toArray⟩), v1, v2, v3] 105]) (fun aE => ?_) ?_))))))
    ·
     refine gW (.p 0 (.p 1 (.p 2 (.p 3 (.e 4 (.e 5 (.p 6 (.p 7 (.p 8 (.p 9 (.p 12 (.q 10 (.p 11 (.e 13 (.e 14 (.p 15 (.p 16 .fin)) .nil) .nil)))))))) .nil) .nil))))) [13, 14] [0, 1, 2, 3, 6, 7, 8, 9, 11, 12, 15, 16] hm [0] [blk aA [(nV s_.op), (.string ⟨(s_.name).b.toArray⟩), v1, v2, v3] 105] rfl mxo (by kernel_rfl) (fun _ _ _ h => h.2) fun w hm hS => tP rfl (fun w => yM rfl) (tP rfl (fun w => yB rfl) (tP rfl (fun w => yM rfl) (gsd 9 rfl (fun aM => ?_) fun aM => ?_)))
     ·
      exact tPo rfl rfl (tO (tEo rfl rfl (tAn rfl (tO (tEo rfl rfl (tAn rfl (tPo rfl rfl (tP rfl (fun w => yKt rfl) (tP rfl (fun w => yM rfl) (tPo rfl rfl (tPo rfl rfl (tQo rfl hS rfl (tPo rfl rfl (tO (tEo rfl rfl (tAs hS (tO (tEo rfl rfl (tAs hS (tPo rfl rfl (tP rfl (fun w => yKt rfl) (tE (gz hm [0] rfl)))))))))))))))))))))))
     refine tP rfl (fun w => yF fo_105_0 rfl) (tO (tY rfl (yL hm 0 isAgg3 rfl) (tAn rfl (tO (gb fun al au => tf rfl rfl (fun a hf => e_call hf rfl call112 rfl (spec_l1In_ok _ s_.op 1 8 _ au)) ?_)))))
     rintro aX w ⟨rfl, hB⟩
     replace hm := hm.below' hB; clear hB
     refine tAk hm [0] rfl fun hS => tP rfl (fun w => yN rfl) (tP rfl (fun w => yKf rfl) (tP rfl (fun w => yM rfl) (gsn 15 rfl (fun aO => ?_) fun aO => ?_)))
     ·
      exact tPo rfl rfl (tPo rfl rfl (tQo rfl hS rfl (tPo rfl rfl (tO (tEo rfl rfl (tAs hS (tO (tEo rfl rfl (tAs hS (tPo rfl rfl (tP rfl (fun w => yKt rfl) (tE (gz hm [0] rfl)))))))))))))
     refine tP rfl (fun w => yF fo_105_2 rfl) (tP rfl (fun w => yF fo_105_0 rfl) (tQ rfl hS (fun w hm => yL hm 0 isAgg22 rfl) ?_))
     obtain ⟨ae, af, rfl, ag⟩ := ro_slice h1
     refine tP rfl (fun w => yV st_22 rfl) (tO (tY rfl (yL hm 0 isAgg3 rfl) (tAs hS (tO (gb fun bN aD => tf rfl rfl (fun a hf => e_call hf rfl call205 rfl (spec_l3Args_ok _ s_.op _ aD)) ?_)))))
     rintro aY w ⟨rfl, hB⟩
     replace hm := hm.below' hB; clear hB
     exact tAk hm [0] rfl fun hS => tP rfl (fun w => yB rfl) (tP rfl (fun w => yKf rfl) (tE (gz hm [0] rfl)))
    repeat clear hm
    intro aE w hm
    refine gs 23 rfl (fun av => ?_) fun av => ?_
    ·
     exact gct rfl (gS (gR (gA rfl (gE (gRt (gr1 results187 rfl ⟨rfl, hm.below⟩))))))
    refine gcf rfl (gSk (gS (gJ hm (fun aF => [(1, (nV deep)), (2, (pV aA)), (5, (.bool (aF)))]) (fun aF => [blk aA [(nV s_.op), (.string ⟨(s_.name).b.toArray⟩), v1, v2, v3] 105]) (fun aF => ?_) ?_)))
    ·
     refine gR (gF fo_105_0 rfl (gL hm 0 isAgg3 rfl (gB rfl (gM rfl (gsd 27 rfl (fun aP => ?_) fun aP => ?_)))))
     ·
      exact gO rfl (gO rfl (gO rfl (gKt rfl (gA rfl (gE (gz hm [0] rfl))))))
     exact gF fo_105_0 rfl (gL hm 0 isAgg3 rfl (gB rfl (gKf rfl (gA rfl (gE (gz hm [0] rfl))))))
    repeat clear hm
    intro aF w hm
    refine gS (gS (gJ hm (fun aG => [(1, (nV deep)), (2, (pV aA)), (45, (.bool (aG)))]) (fun aG => [blk aA [(nV s_.op), (.string ⟨(s_.name).b.toArray⟩), v1, v2, v3] 105]) (fun aG => ?_) ?_))
    ·
     refine gR (gM rfl (gF fo_105_1 rfl (gL hm 0 isAgg9 rfl (gC hm rfl call113 (spec_IsName_ok _ s_.name) fun bO am w hm => gY (yG rfl (y_neqb underlying4 rfl rfl rfl)) (gM rfl (gsd 37 rfl (fun aQ => ?_) fun aQ => ?_))))))
     ·
      exact gO rfl (gO rfl (gO rfl (gO rfl (gO rfl (gO rfl (gO rfl (gKt rfl (gE (gz hm [0] rfl)))))))))
     refine gM rfl (gN rfl (gM rfl (gsn 40 rfl (fun aR => ?_) fun aR => ?_)))
     ·
      exact gF fo_105_1 rfl (gL hm 0 isAgg9 rfl (gY (yG rfl (y_neqs (p := s_.name) (q := (mkS [])) rfl rfl rfl)) (gKt rfl (gKf rfl (gE (gz hm [0] rfl))))))
     exact gO rfl (gO rfl (gO rfl (gKf rfl (gKf rfl (gE (gz hm [0] rfl))))))
    repeat clear hm
    intro aG w hm
    refine gs 45 rfl (fun aw => ?_) fun aw => ?_
    ·
     exact gct rfl (gS (gR (gA rfl (gE (gRt (gr1 results187 rfl ⟨rfl, hm.below⟩))))))
    refine gcf rfl (gSk (gS (gS (gR (gA rfl (gE (gBk (gNf hm (fun aB aC => [(1, (nV deep)), (2, (pV aA)), (6, (nV aB))]) (fun aB aC => [blk aA [(nV s_.op), (.string ⟨(s_.name).b.toArray⟩), v1, v2, v3] 105]) [0] rfl ?_ ?_))))))))
    ·
     repeat clear hm
     intro a7 ax aB aC w hm aa ab ac aK
     refine gS (gS (gR (gM rfl (gF fo_105_2 rfl (gL hm 0 isAgg22 rfl ?_)))))
     obtain ⟨bP, aj, rfl, bQ⟩ := ro_slice h1
     refine gY (yV st_22 rfl) (gB rfl (gE (go _ 50 rfl (decide_eq_true (by omega)) (gct rfl (gSk (gS (gBk (gS (gR (gF fo_105_2 rfl (gL hm 0 isAgg22 rfl (gM rfl (gg fun aL ay aV => ?_)))))))))))))
     obtain ⟨ah, ai, bR, he⟩ := idx_form' h1 aV
     obtain ⟨rfl, _, rfl⟩ := sl3 he
     obtain ⟨az, aN, bA⟩ := rk_Expr_ h1 aV
     refine gI st_22 ay (idx_lt aV) rfl (gY (yn (aN.mono hm.lez) isAgg24 sizeOf24 rfl) (gC hm rfl call22 (spec_ExprValid_ok _ aL az (hm.now bA)) fun bS bT w hm => gN rfl (gE (gsn 59 rfl (fun bB => ?_) fun bB => ?_))))
     ·
      exact gct rfl (gS (gR (gA rfl (gE (gRt (gLr aK ax (gr1 results187 rfl ⟨rfl, hm.below⟩)))))))
     exact gcf rfl (gSk (gR (gM rfl (gP (by omega) (by omega) rfl (gA rfl (gE (gze hm [0] rfl)))))))
    repeat clear hm
    intro an ao w hm ap aq
    refine gS (gS (gR (gM rfl (gF fo_105_2 rfl (gL hm 0 isAgg22 rfl ?_)))))
    obtain ⟨aT, aU, rfl, ar⟩ := ro_slice h1
    refine gY (yV st_22 rfl) (gB rfl (gE (go _ 50 rfl (decide_eq_false (by omega)) (gcf rfl (gXt (gHh (gS (gS (gJ hm (fun aH => [(1, (nV deep)), (2, (pV aA)), (70, (.bool (aH)))]) (fun aH => [blk aA [(nV s_.op), (.string ⟨(s_.name).b.toArray⟩), (.slice aT s_.args.length aU), v2, v3] 105]) (fun aH => ?_) ?_)))))))))
    ·
     refine gR (gF fo_105_0 rfl (gL hm 0 isAgg3 rfl (gB rfl (gM rfl (gsd 63 rfl (fun bC => ?_) fun bC => ?_)))))
     ·
      refine gF fo_105_2 rfl (gL hm 0 isAgg22 rfl (gg fun bU bD aW => ?_))
      obtain ⟨bV, bW, bX, he⟩ := idx_form' h1 aW
      obtain ⟨rfl, _, rfl⟩ := sl3 he
      obtain ⟨bY, bE, bZ⟩ := rk_Expr_ h1 aW
      exact gI st_22 bD (idx_lt aW) rfl (gF fo_24_0 rfl (gY (yl isAgg3 ((bE.mono hm.lez).cell (j := 0) rfl) rfl) (gB rfl (gKt rfl (gE (gz hm [0] rfl))))))
     exact gO rfl (gO rfl (gO rfl (gO rfl (gO rfl (gO rfl (gKf rfl (gE (gz hm [0] rfl))))))))
    repeat clear hm
    intro aH w hm
    refine gs 70 rfl (fun bF => ?_) fun bF => ?_
    ·
     exact gct rfl (gS (gR (gA rfl (gE (gRt (gr1 results187 rfl ⟨rfl, hm.below⟩))))))
    refine gcf rfl (gSk (gS (gS (gJ hm (fun aI => [(1, (nV deep)), (2, (pV aA)), (95, (.bool (aI)))]) (fun aI => [blk aA [(nV s_.op), (.string ⟨(s_.name).b.toArray⟩), (.slice aT s_.args.length aU), v2, v3] 105]) (fun aI => ?_) ?_))))
    ·
     refine gR (gF fo_105_4 rfl (gL hm 0 isAgg92 rfl ?_))
     obtain ⟨b4, b5, rfl, b6⟩ := ro_slice h3
     refine gY (yV st_92 rfl) (gB rfl (gM rfl (gsd 75 rfl (fun bG => ?_) fun bG => ?_)))
     ·
      refine gF fo_105_0 rfl (gL hm 0 isAgg3 rfl (gB rfl (gKt rfl (gM rfl (gsd 80 rfl (fun aZ => ?_) fun aZ => ?_)))))
      ·
       exact gO rfl (gO rfl (gO rfl (gO rfl (gO rfl (gO rfl (gO rfl (gO rfl (gO rfl (gO rfl (gO rfl (gO rfl (gO rfl (gO rfl (gKt rfl (gE (gz hm [0] rfl))))))))))))))))
      refine gF fo_105_3 rfl (gL hm 0 isAgg92 rfl ?_)
      obtain ⟨b7, b8, rfl, b9⟩ := ro_slice h2
      refine gY (yV st_92 rfl) (gB rfl (gM rfl (gsd 85 rfl (fun bH => ?_) fun bH => ?_)))
      ·
       exact gF fo_105_0 rfl (gL hm 0 isAgg3 rfl (gB rfl (gKt rfl (gM rfl (go _ 90 rfl (decide_eq_false aZ) (gO rfl (gO rfl (gO rfl (gKf rfl (gKf rfl (gE (gz hm [0] rfl))))))))))))
      exact gO rfl (gO rfl (gO rfl (gKf rfl (gM rfl (gO rfl (gO rfl (gO rfl (gKf rfl (gKf rfl (gE (gz hm [0] rfl)))))))))))
     refine gO rfl (gO rfl (gO rfl (gKf rfl (gM rfl (gF fo_105_3 rfl (gL hm 0 isAgg92 rfl ?_))))))
     obtain ⟨ba, bb, rfl, bc⟩ := ro_slice h2
     refine gY (yV st_92 rfl) (gB rfl (gM rfl (gsd 85 rfl (fun bJ => ?_) fun bJ => ?_)))
     ·
      refine gF fo_105_0 rfl (gL hm 0 isAgg3 rfl (gB rfl (gKt rfl (gM rfl (gsd 90 rfl (fun bK => ?_) fun bK => ?_)))))
      ·
       exact gF fo_105_0 rfl (gL hm 0 isAgg3 rfl (gB rfl (gKt rfl (gKf rfl (gE (gz hm [0] rfl))))))
      exact gO rfl (gO rfl (gO rfl (gKf rfl (gKf rfl (gE (gz hm [0] rfl))))))
     exact gO rfl (gO rfl (gO rfl (gKf rfl (gM rfl (gO rfl (gO rfl (gO rfl (gKf rfl (gKf rfl (gE (gz hm [0] rfl)))))))))))
    repeat clear hm
    intro aI w hm
    refine gs 95 rfl (fun bL => ?_) fun bL => ?_
    ·
     exact gct rfl (gS (gR (gA rfl (gE (gRt (gr1 results187 rfl ⟨rfl, hm.below⟩))))))
    refine gcf rfl (gSk (gS (gJ hm (fun aJ => [(4, (.bool (aJ)))]) (fun aJ => []) (fun aJ => ?_) ?_)))
    ·
     refine gR (gF fo_105_3 rfl (gL hm 0 isAgg92 rfl (gM rfl (gB rfl (gC hm rfl call167 (spec_l3Stmts_rec _ s_.body v2 (hm.now h2) (w64 (deep - 1))) fun bd be w hm => gM rfl (gs 101 rfl (fun bM => ?_) fun bM => ?_))))))
     ·
      exact gF fo_105_4 rfl (gL hm 0 isAgg92 rfl (gM rfl (gB rfl (gC hm rfl call167 (spec_l3Stmts_rec _ s_.else_ v3 (hm.now h3) (w64 (deep - 1))) fun bf bg w hm => gKt rfl (gA rfl (gE (gz hm [] rfl)))))))
     exact gO rfl (gO rfl (gO rfl (gO rfl (gO rfl (gKf rfl (gA rfl (gE (gz hm [] rfl))))))))
    repeat clear hm
    intro aJ w hm
    exact gRt (gr1 results187 rfl ⟨rfl, hm.below⟩)
theorem spec_l3Stmts_ok (w0 : World) (list : List Stmt_) (v1 : Value) (h1 : GT.rep (hp w0) [v1] list) (deep : Int) (r : Bool) (hq : spec_l3Stmts list deep = some r) : Con Tryz.prog 167 [v1, (nV deep)] w0 (fun v w' => v = (.bool (r)) ∧ Below w0.heap.size w0 w') := (spec_l3Stmts_all ).1 list deep r hq w0 v1 h1
theorem spec_l3Fn_ok (w0 : World) (f : Fn_) (v1 : Value) (h1 : GT.rep (hp w0) [v1] f.params) (v2 : Value) (h2 : GT.rep (hp w0) [v2] f.body) :
    ConM Tryz.prog 127 [(.agg #[(.string ⟨(f.name).b.toArray⟩), v1, v2])] w0 (spec_l3Fn f) fun r v w' => v = (.bool (r)) ∧ Below w0.heap.size w0 w' := by
  unfold spec_l3Fn
  refine gcon func127 rfl fun r => ?_
  have hm := Mem.start w0
  refine gS (gR (gBx hm rfl fun aD w hm => gA rfl (gE (gS (gS (gR (gA rfl (gE (gBk (gNf hm (fun aB aE => [(1, (pV aD)), (3, (nV aB))]) (fun aB aE => [blk aD [(.string ⟨(f.name).b.toArray⟩), v1, v2] 94]) [0] rfl ?_ ?_))))))))))
  ·
   repeat clear hm
   intro aM aG aB aE w hm aN aO aP aH
   refine gS (gS (gR (gM rfl (gF fo_94_1 rfl (gL hm 0 isAgg74 rfl ?_)))))
   obtain ⟨aQ, aR, rfl, aT⟩ := ro_slice h1
   refine gY (yV st_74 rfl) (gB rfl (gE (go _ 8 rfl (decide_eq_true (by omega)) (gct rfl (gSk (gS (gBk (gS (gR (gF fo_94_1 rfl (gL hm 0 isAgg74 rfl (gM rfl (gg fun aF aI aC => ?_)))))))))))))
   obtain ⟨aU, aV, aW, he⟩ := idx_form h1 aC
   obtain ⟨rfl, _, rfl⟩ := sl3 he
   refine gI st_74 aI (idx_lt aC) rfl (gY (yl isAgg9 ((flat_cells (cs := [(.string ⟨(aF).b.toArray⟩)]) (hm.now h1) aC rfl).cell (j := 0) rfl) rfl) (gC hm rfl call113 (spec_IsName_ok _ aF) fun aX aY w hm => gN rfl (gE (gsn 17 rfl (fun aJ => ?_) fun aJ => ?_))))
   ·
    exact gct rfl (gS (gR (gA rfl (gE (gRt (gLr aH aG (gr1 results127 rfl ⟨rfl, hm.below⟩)))))))
   exact gcf rfl (gSk (gR (gM rfl (gP (by omega) (by omega) rfl (gA rfl (gE (gze hm [0] rfl)))))))
  repeat clear hm
  intro aZ a7 w hm a8 aa
  refine gS (gS (gR (gM rfl (gF fo_94_1 rfl (gL hm 0 isAgg74 rfl ?_)))))
  obtain ⟨ab, ac, rfl, ae⟩ := ro_slice h1
  refine gY (yV st_74 rfl) (gB rfl (gE (go _ 8 rfl (decide_eq_false (by omega)) (gcf rfl (gXt (gHh (gS (gJ hm (fun aA => [(2, (.bool (aA)))]) (fun aA => []) (fun aA => ?_) ?_))))))))
  ·
   refine gR (gF fo_94_0 rfl (gL hm 0 isAgg9 rfl (gC hm rfl call113 (spec_IsName_ok _ f.name) fun af ag w hm => gM rfl (gs 21 rfl (fun aK => ?_) fun aK => ?_))))
   ·
    refine gF fo_94_1 rfl (gL hm 0 isAgg74 rfl (gY (yV st_74 rfl) (gB rfl (gKt rfl (gM rfl (gsd 27 rfl (fun aL => ?_) fun aL => ?_))))))
    ·
     exact gF fo_94_2 rfl (gL hm 0 isAgg92 rfl (gC hm rfl call167 (spec_l3Stmts_ok _ f.body v2 (hm.now h2) 4) fun ah ai w hm => gKt rfl (gA rfl (gE (gz hm [] rfl)))))
    exact gO rfl (gO rfl (gO rfl (gKf rfl (gA rfl (gE (gz hm [] rfl))))))
   exact gO rfl (gO rfl (gO rfl (gO rfl (gKf rfl (gM rfl (gO rfl (gO rfl (gO rfl (gKf rfl (gA rfl (gE (gz hm [] rfl))))))))))))
  repeat clear hm
  intro aA w hm
  exact gRt (gr1 results127 rfl ⟨rfl, hm.below⟩)
theorem spec_l3Count_all  : ∀ (list : List Stmt_) (r : Int), spec_l3Count list = some r → ∀ (w0 : World) (v1 : Value) (h1 : GT.rep (hp w0) [v1] list), Con Tryz.prog 168 [v1] w0 (fun v w' => v = (nV r) ∧ Below w0.heap.size w0 w') := by
  refine spec_l3Count.partial_correctness  (motive := fun list r => ∀ (w0 : World) (v1 : Value) (h1 : GT.rep (hp w0) [v1] list), Con Tryz.prog 168 [v1] w0 (fun v w' => v = (nV r) ∧ Below w0.heap.size w0 w')) ?_
  intro rec_ ih_ list r hq w0 v1 h1
  have spec_l3Count_rec : ∀ (w0 : World) (list : List Stmt_) (v1 : Value) (h1 : GT.rep (hp w0) [v1] list) (r : Int) (hq : rec_ list = some r), Con Tryz.prog 168 [v1] w0 (fun v w' => v = (nV r) ∧ Below w0.heap.size w0 w') := fun w0 list v1 h1 r hq => ih_ list r hq w0 v1 h1
  refine gconr (ρ := Int) (R := fun r v w' => v = (nV r) ∧ Below w0.heap.size w0 w') func168 rfl hq ?_
  have hm := Mem.start w0
  refine gS (gR (gA rfl (gE (gS (gR (gM rfl ?_))))))
  obtain ⟨aG, aH, rfl, aO⟩ := ro_slice h1
  refine gY (yV st_92 rfl) (gA rfl (gE (gS (gS (gR (gA rfl (gE (gBk (gNf hm (fun aB aC => [(0, (.slice aG list.length aH)), (3, (nV aC)), (4, (nV aB))]) (fun aB aC => []) [] rfl ?_ ?_)))))))))
  ·
   repeat clear hm
   intro _ _ aB aC w hm aP aQ aR _
   refine gS (gS (gR (gM rfl (gM rfl (gY (yV st_92 rfl) (gB rfl (gE (go _ 10 rfl (decide_eq_true (by omega)) (gct rfl (gSk (gS (gBk (gW (.p 0 (.p 1 (.p 2 (.p 3 (.p 4 (.p 8 (.p 9 (.p 10 (.p 11 (.q 5 (.q 12 (.e 6 (.p 7 (.e 13 (.p 14 (.p 15 .fin)) .nil)) .nil)))))))))))) [5, 6, 12] [0, 1, 2, 3, 4, 7, 8, 9, 10, 11, 14, 15] hm [] [] rfl mxo (by kernel_rfl) (fun _ _ _ h => h.2) fun w hm hS => tP rfl (fun w => yM rfl) (tP rfl (fun w => yM rfl) (tP rfl (fun w => yM rfl) (gg fun aD aE aA => ?_))))))))))))))))
   obtain ⟨aT, aU, aV, he⟩ := idx_form' h1 aA
   obtain ⟨rfl, _, rfl⟩ := sl3 he
   obtain ⟨aW, aI, aJ, aF, aX, aK, aL⟩ := rk_Stmt_ h1 aA
   refine tP rfl (fun w => yI st_92 aE (idx_lt aA) rfl) (tP rfl (fun w => yF fo_105_3 rfl) (tP rfl (fun w => yM rfl) (tP rfl (fun w => yM rfl) (tP rfl (fun w => yI st_92 aE (idx_lt aA) rfl) (tP rfl (fun w => yF fo_105_4 rfl) (tQ rfl hS (fun w hm => yl isAgg92 ((aF.mono hm.lez).cell (j := 3) rfl) rfl) (tQ rfl hS (fun w hm => yl isAgg92 ((aF.mono hm.lez).cell (j := 4) rfl) rfl) (tO (gb fun aY aM => tf rfl rfl (fun a hf => e_call hf rfl call168 rfl (spec_l3Count_rec _ aD.body aI (hm.now aK) _ aM)) ?_)))))))))
   rintro aZ w ⟨rfl, hB⟩
   replace hm := hm.below' hB; clear hB
   refine tAk hm [] rfl fun hS => tP rfl (fun w => yB rfl) (tO (gb fun a7 aN => tf rfl rfl (fun a hf => e_call hf rfl call168 rfl (spec_l3Count_rec _ aD.else_ aJ (hm.now aL) _ aN)) ?_))
   rintro a8 w ⟨rfl, hB⟩
   replace hm := hm.below' hB; clear hB
   exact tAn rfl (tP rfl (fun w => yB rfl) (tP rfl (fun w => yA rfl) (tE (gR (gM rfl (gP (by omega) (by omega) rfl (gA rfl (gE (gze hm [] rfl)))))))))
  repeat clear hm
  intro aa ab w hm ac ae
  exact gS (gS (gR (gM rfl (gM rfl (gY (yV st_92 rfl) (gB rfl (gE (go _ 10 rfl (decide_eq_false (by omega)) (gcf rfl (gXt (gHh (gS (gR (gM rfl (gA rfl (gE (gRt (gr1 results168 rfl ⟨rfl, hm.below⟩))))))))))))))))))
theorem spec_l3Count_ok (w0 : World) (list : List Stmt_) (v1 : Value) (h1 : GT.rep (hp w0) [v1] list) (r : Int) (hq : spec_l3Count list = some r) : Con Tryz.prog 168 [v1] w0 (fun v w' => v = (nV r) ∧ Below w0.heap.size w0 w') := spec_l3Count_all list r hq w0 v1 h1
theorem spec_l3All_ok (w0 : World) (p_ : Program_) (v1 : Value) (h1 : GT.rep (hp w0) [v1] p_.fns) :
    ConM Tryz.prog 128 [(.agg #[v1])] w0 (spec_l3All p_) fun r v w' => v = (nV r) ∧ Below w0.heap.size w0 w' := by
  unfold spec_l3All
  refine gcon func128 rfl fun r => ?_
  have hm := Mem.start w0
  refine gS (gR (gBx hm rfl fun aD w hm => gA rfl (gE (gS (gR (gA rfl (gE (gS (gS (gR (gA rfl (gE (gBk (gNf hm (fun aA aB => [(1, (pV aD)), (3, (nV aB)), (4, (nV aA))]) (fun aA aB => [blk aD [v1] 46]) [0] rfl ?_ ?_))))))))))))))
  ·
   repeat clear hm
   intro _ _ aA aB w hm aJ aK aL _
   refine gS (gS (gR (gM rfl (gF fo_46_0 rfl (gL hm 0 isAgg44 rfl ?_)))))
   obtain ⟨aM, aN, rfl, aO⟩ := ro_slice h1
   refine gY (yV st_44 rfl) (gB rfl (gE (go _ 9 rfl (decide_eq_true (by omega)) (gct rfl (gSk (gS (gBk (gR (gM rfl (gF fo_46_0 rfl (gL hm 0 isAgg44 rfl (gM rfl (gg fun aE aF aC => ?_)))))))))))))
   obtain ⟨aP, aQ, aR, he⟩ := idx_form' h1 aC
   obtain ⟨rfl, _, rfl⟩ := sl3 he
   obtain ⟨aT, aG, aH, aU, aI⟩ := rk_Fn_ h1 aC
   exact gI st_44 aF (idx_lt aC) rfl (gF fo_94_2 rfl (gY (yl isAgg92 ((aH.mono hm.lez).cell (j := 2) rfl) rfl) (gC hm rfl call168 (spec_l3Count_ok _ aE.body aG (hm.now aI)) fun aV aW w hm => gB rfl (gA rfl (gE (gR (gM rfl (gP (by omega) (by omega) rfl (gA rfl (gE (gze hm [0] rfl)))))))))))
  repeat clear hm
  intro aX aY w hm aZ a7
  refine gS (gS (gR (gM rfl (gF fo_46_0 rfl (gL hm 0 isAgg44 rfl ?_)))))
  obtain ⟨a8, aa, rfl, ab⟩ := ro_slice h1
  exact gY (yV st_44 rfl) (gB rfl (gE (go _ 9 rfl (decide_eq_false (by omega)) (gcf rfl (gXt (gHh (gS (gR (gM rfl (gA rfl (gE (gRt (gr1 results128 rfl ⟨rfl, hm.below⟩)))))))))))))
theorem spec_ProgramValid_ok (w0 : World) (p_ : Program_) (v1 : Value) (h1 : GT.rep (hp w0) [v1] p_.fns) :
    ConM Tryz.prog 72 [(.agg #[v1])] w0 (spec_ProgramValid p_) fun r v w' => v = (.bool (r)) ∧ Below w0.heap.size w0 w' := by
  unfold spec_ProgramValid
  refine gcon func72 rfl fun r => ?_
  have hm := Mem.start w0
  refine gS (gR (gBx hm rfl fun aC w hm => gA rfl (gE (gS (gS (gR (gF fo_46_0 rfl (gL hm 0 isAgg44 rfl ?_))))))))
  obtain ⟨aD, aE, rfl, aR⟩ := ro_slice h1
  refine gY (yV st_44 rfl) (gC hm rfl call112 (spec_l1In_ok _ (p_.fns.length : Int) 1 4) fun aT aU w hm => gN rfl (gE (gsn 8 rfl (fun aG => ?_) fun aG => ?_)))
  ·
   exact gct rfl (gS (gR (gA rfl (gE (gRt (gr1 results72 rfl ⟨rfl, hm.below⟩))))))
  refine gcf rfl (gSk (gS (gS (gR (gA rfl (gE (gBk (gNf hm (fun aA aF => [(1, (pV aC)), (3, (nV aA))]) (fun aA aF => [blk aC [(.slice aD p_.fns.length aE)] 46]) [0] rfl ?_ ?_))))))))
  ·
   repeat clear hm
   intro aV aH aA aF w hm aW aX aY aI
   refine gS (gS (gR (gM rfl (gF fo_46_0 rfl (gL hm 0 isAgg44 rfl (gY (yV st_44 rfl) (gB rfl (gE (go _ 13 rfl (decide_eq_true (by omega)) (gct rfl (gSk (gS (gBk (gS (gR (gF fo_46_0 rfl (gL hm 0 isAgg44 rfl (gM rfl (gg fun aJ aK aB => ?_)))))))))))))))))))
   obtain ⟨aZ, a7, a8, he⟩ := idx_form' h1 aB
   obtain ⟨rfl, _, rfl⟩ := sl3 he
   obtain ⟨aL, aM, aN, aO, aP⟩ := rk_Fn_ h1 aB
   refine gI st_44 aK (idx_lt aB) rfl (gY (yn (aN.mono hm.lez) isAgg94 sizeOf94 rfl) (gC hm rfl call127 (spec_l3Fn_ok _ aJ aL (hm.now aO) aM (hm.now aP)) fun aa ab w hm => gN rfl (gE (gsn 22 rfl (fun aQ => ?_) fun aQ => ?_))))
   ·
    exact gct rfl (gS (gR (gA rfl (gE (gRt (gLr aI aH (gr1 results72 rfl ⟨rfl, hm.below⟩)))))))
   exact gcf rfl (gSk (gR (gM rfl (gP (by omega) (by omega) rfl (gA rfl (gE (gze hm [0] rfl)))))))
  repeat clear hm
  intro ac ae w hm af ag
  exact gS (gS (gR (gM rfl (gF fo_46_0 rfl (gL hm 0 isAgg44 rfl (gY (yV st_44 rfl) (gB rfl (gE (go _ 13 rfl (decide_eq_false (by omega)) (gcf rfl (gXt (gHh (gS (gR (gY (yn (hm.blk_at 0 rfl) isAgg46 sizeOf46 rfl) (gC hm rfl call128 (spec_l3All_ok _ p_ (.slice aD p_.fns.length aE) (hm.now h1)) fun ah ai w hm => gB rfl (gA rfl (gE (gRt (gr1 results72 rfl ⟨rfl, hm.below⟩))))))))))))))))))))
theorem spec_ReadProgram_ok (w0 : World) (s_ : Str) :
    ConM Tryz.prog 30 [(.string ⟨(s_).b.toArray⟩)] w0 (spec_ReadProgram s_) fun r v w' => ∃ (x1 : Value), v = (.tuple #[(.agg #[x1]), (.bool (r.2))]) ∧ Mem w0 (hp w0) w' [ow [x1] r.1.fns] := by
  unfold spec_ReadProgram
  refine gcon func30 rfl fun r => ?_
  have hm := Mem.start w0
  refine gS (gR (gAl hm zeroValue46 rfl fun aD w hm => gA rfl (gE (gS (gR (gM rfl (gCg rfl call44 (spec_CutWords_ok _ s_) ?_)))))))
  rintro aB ag ah w ⟨ai, rfl, hB⟩
  replace hm := hm.give hB; clear hB
  refine gM rfl (gX rfl (gX rfl (gA rfl (gA rfl (gE (gS (gS (gR (gM rfl (gN rfl (gE (gsn 14 rfl (fun aT => ?_) fun aT => ?_))))))))))))
  ·
   refine gct rfl (gS (gR (gY (yG rfl (y_build (vs := []) (cs := #[(.slice none 0 0)]) rfl rfl (by kernel_rfl))) (gSN hm 1 sizeOf46 (one_cons rfl one_nil) rfl fun w hm => gA rfl (gE (gRt ?_))))))
   replace hm := hm.nilow (α := Fn_)
   exact grct 2 results30 hm rfl isAgg46 sizeOf46 ⟨(.slice none 0 0), rfl, hm.pk [0] rfl rfl⟩
  refine gcf rfl (gSk (gS (gR (gM rfl ?_))))
  obtain ⟨aE, aF, rfl, aj⟩ := ro_slice (hm.ow_rep 0 rfl)
  refine gY (yG rfl (y_build (vs := [(0, (.slice aE aB.1.length aF))]) (cs := #[(.slice aE aB.1.length aF), (nV 0)]) rfl rfl (by kernel_rfl))) (gBx hm rfl fun aI w hm => gA rfl (gE (gS (gR (gY (yG rfl (y_build (vs := []) (cs := #[(.slice none 0 0)]) rfl rfl (by kernel_rfl))) (gAl hm zeroValue46 rfl fun aG w hm => gSN hm 0 sizeOf46 (one_cons rfl one_nil) rfl fun w hm => gE (gS ?_)))))))
  obtain ⟨aQ, aR, hz_r0_1, hmf⟩ := hm.freeze 2 rfl
  replace hm := hmf.pk (L' := [blk aG [(.slice none 0 0)] 46, blk aI [(.slice aE aB.1.length aF), (nV 0)] 91, blk aD [(.slice none 0 0)] 46]) [0, 1, 3] rfl rfl
  clear hmf
  replace hz_r0_1 : GT.rep aQ [(.slice aE aB.1.length aF)] aB.1 := fz_ow hz_r0_1
  refine gJg (fun aK a w => ∃ (aJ : Value), St 53 [(2, (pV aD)), (6, (pV aI)), (7, (pV aG))] w0 aQ [blk aD [(.slice none 0 0)] 46, blk aI [(.slice aE aB.1.length aF), (nV aK.1)] 91, blk aG [aJ] 46, ow [aJ] aK.2] a w) (fun aK => ?_) ?_
  ·
   refine gBk ?_
   replace hm := hm.nilow (α := Fn_)
   refine gMg (fun aH a w => ∃ (aA : Value), St 53 [(2, (pV aD)), (4, (.slice aE aB.1.length aF)), (6, (pV aI)), (7, (pV aG))] w0 aQ [blk aD [(.slice none 0 0)] 46, blk aI [(.slice aE aB.1.length aF), (nV aH.1)] 91, blk aG [aA] 46, ow [aA] aH.2] a w) (fun a hf => ⟨(.slice none 0 0), hf.sb rfl, hm.pk [3, 2, 1, 0] rfl rfl⟩) ?_
   repeat clear hm
   rintro ak aU aH a w ⟨aA, hf, hm⟩ al aV
   refine gv hf (gS (gS (gJ hm (fun aN => [(2, (pV aD)), (4, (.slice aE aB.1.length aF)), (6, (pV aI)), (7, (pV aG)), (33, (.bool (aN)))]) (fun aN => [blk aD [(.slice none 0 0)] 46, blk aI [(.slice aE aB.1.length aF), (nV aH.1)] 91, blk aG [aA] 46, ow [aA] aH.2]) (fun aN => ?_) ?_)))
   ·
    refine gR (gM rfl (gY (yG rfl (y_nilptr rfl rfl)) (gF fo_91_1 rfl (gL hm 1 isAgg3 rfl (gB rfl (gM rfl (gsd 25 rfl (fun aW => ?_) fun aW => ?_)))))))
    ·
     exact gM rfl (gY (yG rfl (y_nilptr rfl rfl)) (gF fo_91_1 rfl (gL hm 1 isAgg3 rfl (gM rfl (gY (yV st_41 rfl) (gB rfl (gKt rfl (gE (gz hm [0, 1, 2, 3] rfl)))))))))
    exact gO rfl (gO rfl (gO rfl (gO rfl (gO rfl (gO rfl (gO rfl (gKf rfl (gE (gz hm [0, 1, 2, 3] rfl)))))))))
   repeat clear hm
   intro aN w hm
   refine gs 33 rfl (fun aX => ?_) fun aX => ?_
   ·
    refine gct rfl (gSk (gBk (gW (.p 0 (.p 2 (.q 1 (.e 3 (.e 4 (.e 5 (.p 6 (.e 7 .fin .nil)) .nil) .nil) .nil)))) [3, 4] [0, 2, 6] hm [0, 2, 3] [blk aD [(.slice none 0 0)] 46, blk aG [aA] 46, ow [aA] aH.2] rfl mxo (by kernel_rfl) (fun _ _ _ h => h.2) fun w hm hS => tP rfl (fun w => yF fo_46_0 rfl) (tP rfl (fun w => yM rfl) (tQ rfl hS (fun w hm => yL hm 1 isAgg44 rfl) (tO (gb fun aC aY => ?_)))))))
    obtain ⟨aZ, hle, hm1, hsub, a7⟩ := hm.take2 (L1 := [blk aI [(.slice aE aB.1.length aF), (nV aH.1)] 91]) (L2 := [blk aD [(.slice none 0 0)] 46, blk aG [aA] 46, ow [aA] aH.2]) [1] [0, 2, 3] (by decide) rfl rfl
    refine tf rfl rfl (fun a hf => e_call hf rfl call71 rfl (pspec_l3Reader__fn_ok _ aZ (⟨aB.1, aH.1⟩ : l3Reader) aI (.slice aE aB.1.length aF) (GT.mono hle hz_r0_1) hm1  _ aY)) ?_
    rintro am w ⟨aL, aM, rfl, hB⟩
    replace hm := a7 _ _ hB; clear hB
    refine tAk hm [3, 4, 5] rfl fun hS => tO (tf rfl rfl (fun a hf => e_build (vs := #[(0, (.agg #[(.string ⟨(aC.1.name).b.toArray⟩), aL, aM]))]) (cs := [(.string ⟨(aC.1.name).b.toArray⟩), aL, aM]) et_44 hf hm rfl rfl (by kernel_rfl) rfl rfl) ?_)
    rintro _ w ⟨aO, rfl, hm⟩
    replace hm := hm.els_nil (α := Fn_)
    replace hm := (mk_Fn_ aC.1.name hm 3 4 rfl).pk (L' := [els [] ([] : List Fn_), blk aO [(.string ⟨(aC.1.name).b.toArray⟩), aL, aM] 94, blk aI [(.slice aE aB.1.length aF), (nV aC.2.at_)] 91, ow [(.string ⟨(aC.1.name).b.toArray⟩), aL, aM] (aC.1 : Fn_), blk aD [(.slice none 0 0)] 46, blk aG [aA] 46, ow [aA] aH.2]) [0, 1, 2, 3, 5, 6, 7] rfl rfl
    replace hm := (hm.els_cons 0 3 (by decide) rfl rfl).pk (L' := [els [(.string ⟨(aC.1.name).b.toArray⟩), aL, aM] ([aC.1] : List Fn_), blk aO [(.string ⟨(aC.1.name).b.toArray⟩), aL, aM] 94, blk aI [(.slice aE aB.1.length aF), (nV aC.2.at_)] 91, blk aD [(.slice none 0 0)] 46, blk aG [aA] 46, ow [aA] aH.2]) [0, 1, 2, 4, 5, 6] rfl rfl
    replace hm := (hm.lit_els 1 0 (by decide) rfl rfl rfl rfl).pk (L' := [ow [(sV aO 0 1 1)] ([aC.1] : List Fn_), blk aI [(.slice aE aB.1.length aF), (nV aC.2.at_)] 91, blk aD [(.slice none 0 0)] 46, blk aG [aA] 46, ow [aA] aH.2]) [1, 2, 3, 4, 5] rfl rfl
    refine tAk hm [2, 3, 4] rfl fun hS => tO (gb fun an a8 => ?_)
    obtain ⟨aa, ab⟩ := appM_some.1 a8
    replace hm := (hm.both 4 0 (by decide) rfl rfl).pk (L' := [blk aI [(.slice aE aB.1.length aF), (nV aC.2.at_)] 91, blk aD [(.slice none 0 0)] 46, blk aG [aA] 46, both (ow [aA] aH.2) (ow [(sV aO 0 1 1)] ([aC.1] : List Fn_))]) [1, 2, 3, 4] rfl rfl
    refine tf rfl rfl (fun a hf => e_appendD (xs := aH.2) (ys := ([aC.1] : List Fn_)) 3 et_44 hf hm rfl rfl rfl rfl aa) ?_
    rintro ac w hm
    rw [ab] at hm
    refine tAn rfl (tP rfl (fun w => yF fo_46_0 rfl) (tO (tf0 rfl rfl (fun a hf => e_store1 2 hf hm rfl sizeOf44 rfl rfl rfl (rep_one (hm.ow_rep 3 rfl)) rfl) ?_)))
    rintro _ w hm
    exact tAn rfl (tE (gZe fun a hf => ⟨ac, hf.sb rfl, hm.pk [1, 0, 2, 3] rfl rfl⟩))
   exact gcf rfl (gXt (gHh (gLp aV aU (gZ fun a hf => ⟨aA, hf.sb rfl, hm.pk [0, 1, 2, 3] rfl rfl⟩))))
  repeat clear hm
  rintro aK a w ⟨aJ, hf, hm⟩
  refine gv hf (gS (gS (gJ hm (fun aP => [(2, (pV aD)), (7, (pV aG)), (50, (.bool (aP)))]) (fun aP => [blk aD [(.slice none 0 0)] 46, blk aG [aJ] 46, ow [aJ] aK.2]) (fun aP => ?_) ?_)))
  ·
   refine gR (gM rfl (gY (yG rfl (y_nilptr rfl rfl)) (gF fo_91_1 rfl (gL hm 1 isAgg3 rfl (gB rfl (gM rfl (gsd 46 rfl (fun ae => ?_) fun ae => ?_)))))))
   ·
    exact gO rfl (gO rfl (gO rfl (gKt rfl (gE (gz hm [0, 2, 3] rfl)))))
   exact gY (yn (hm.blk_at 2 rfl) isAgg46 sizeOf46 rfl) (gC hm rfl call72 (spec_ProgramValid_ok _ (⟨aK.2⟩ : Program_) aJ (hm.ow_rep 3 rfl)) fun ao ap w hm => gN rfl (gKf rfl (gE (gz hm [0, 2, 3] rfl))))
  repeat clear hm
  intro aP w hm
  refine gs 50 rfl (fun af => ?_) fun af => ?_
  ·
   refine gct rfl (gS (gR (gY (yG rfl (y_build (vs := []) (cs := #[(.slice none 0 0)]) rfl rfl (by kernel_rfl))) (gSN hm 0 sizeOf46 (one_cons rfl one_nil) rfl fun w hm => gA rfl (gE (gRt ?_))))))
   replace hm := hm.thaw aR
   replace hm := hm.nilow (α := Fn_)
   exact grct 1 results30 hm rfl isAgg46 sizeOf46 ⟨(.slice none 0 0), rfl, hm.pk [0] rfl rfl⟩
  refine gcf rfl (gSk (gS (gR (gY (yn (hm.blk_at 1 rfl) isAgg46 sizeOf46 rfl) (gSN hm 0 sizeOf46 (one_cons (rep_one (hm.ow_rep 2 rfl)) one_nil) rfl fun w hm => gA rfl (gE (gRt ?_)))))))
  replace hm := hm.thaw aR
  exact grct 0 results30 hm rfl isAgg46 sizeOf46 ⟨aJ, rfl, hm.pk [2] rfl rfl⟩
theorem impl_CutWords_1_ok (w0 : World) (p0 : UInt8) :
    ConM Tryz.prog 66 [(.int .u8 ((p0).toNat : Int))] w0 (impl_CutWords_1 p0) fun r v w' => v = (.bool (r)) ∧ Below w0.heap.size w0 w' := by
  unfold impl_CutWords_1
  refine gcon func66 rfl fun r => ?_
  have hm := Mem.start w0
  exact gS (gR (gA rfl (gE (gS (gR (gA rfl (gE (gRt (gr1 results66 rfl ⟨rfl, hm.below⟩)))))))))
theorem impl_isLetter_ok (w0 : World) (b_ : UInt8) :
    ConM Tryz.prog 67 [(.int .u8 ((b_).toNat : Int))] w0 (impl_isLetter b_) fun r v w' => v = (.bool (r)) ∧ Below w0.heap.size w0 w' := by
  unfold impl_isLetter
  refine gcon func67 rfl fun r => ?_
  have hm := Mem.start w0
  refine gS (gR (gA rfl (gE (gS (gJ hm (fun aA => [(2, (.bool (aA)))]) (fun aA => []) (fun aA => ?_) ?_)))))
  ·
   refine gR (gM rfl (gY (yG rfl (y_leq8 (b := (97 : UInt8)) (c := b_) rfl rfl rfl)) (gM rfl (gsd 5 rfl (fun aB => ?_) fun aB => ?_))))
   ·
    exact gM rfl (gY (yG rfl (y_leq8 (b := b_) (c := (122 : UInt8)) rfl rfl rfl)) (gKt rfl (gA rfl (gE (gz hm [] rfl)))))
   exact gO rfl (gO rfl (gKf rfl (gA rfl (gE (gz hm [] rfl)))))
  repeat clear hm
  intro aA w hm
  exact gRt (gr1 results67 rfl ⟨rfl, hm.below⟩)
theorem impl_isDigit_ok (w0 : World) (b_ : UInt8) :
    ConM Tryz.prog 68 [(.int .u8 ((b_).toNat : Int))] w0 (impl_isDigit b_) fun r v w' => v = (.bool (r)) ∧ Below w0.heap.size w0 w' := by
  unfold impl_isDigit
  refine gcon func68 rfl fun r => ?_
  have hm := Mem.start w0
  refine gS (gR (gA rfl (gE (gS (gJ hm (fun aA => [(2, (.bool (aA)))]) (fun aA => []) (fun aA => ?_) ?_)))))
  ·
   refine gR (gM rfl (gY (yG rfl (y_leq8 (b := (48 : UInt8)) (c := b_) rfl rfl rfl)) (gM rfl (gsd 5 rfl (fun aB => ?_) fun aB => ?_))))
   ·
    exact gM rfl (gY (yG rfl (y_leq8 (b := b_) (c := (57 : UInt8)) rfl rfl rfl)) (gKt rfl (gA rfl (gE (gz hm [] rfl)))))
   exact gO rfl (gO rfl (gKf rfl (gA rfl (gE (gz hm [] rfl)))))
  repeat clear hm
  intro aA w hm
  exact gRt (gr1 results68 rfl ⟨rfl, hm.below⟩)
theorem slices_Index_S_string_string_ok (w0 : World) (s_ : List Str) (v1 : Value) (h1 : GT.rep (hp w0) [v1] s_) (v_ : Str) :
    ConM Tryz.prog 163 [v1, (.string ⟨(v_).b.toArray⟩)] w0 (slices_Index_S_string_string s_ v_) fun r v w' => v = (nV r) ∧ Below w0.heap.size w0 w' := by
  unfold slices_Index_S_string_string
  refine gcon func163 rfl fun r => ?_
  have hm := Mem.start w0
  refine gS (gR (gA rfl (gE (gS (gS (gR (gM rfl ?_)))))))
  obtain ⟨aE, aF, rfl, aK⟩ := ro_slice h1
  refine gY (yV st_74 rfl) (gM rfl (gE (gBk (gNf hm (fun aA aC => [(0, (.slice aE s_.length aF)), (1, (.string ⟨(v_).b.toArray⟩)), (7, (nV ((s_.length : Int)))), (8, (nV aA))]) (fun aA aC => []) [] rfl ?_ ?_))))
  ·
   repeat clear hm
   intro aL aG aA aC w hm aM aN aO aH
   refine gS (gR (gB rfl (gE (gS (go _ 9 rfl (decide_eq_true (by omega)) (gct rfl (gSk (gS (gBk (gS (gR (gM rfl (gA rfl (gE (gS (gR (gM rfl (gM rfl (gM rfl (gg fun aD aI aB => ?_))))))))))))))))))))
   obtain ⟨aP, aQ, aR, he⟩ := idx_form h1 aB
   obtain ⟨rfl, _, rfl⟩ := sl3 he
   refine gI st_74 aI (idx_lt aB) rfl (gY (yl isAgg9 ((flat_cells (cs := [(.string ⟨(aD).b.toArray⟩)]) (hm.now h1) aB rfl).cell (j := 0) rfl) rfl) (gY (yG rfl (y_eqls (p := v_) (q := aD) rfl rfl rfl)) (gE (gsd 16 rfl (fun aJ => ?_) fun aJ => ?_))))
   ·
    exact gct rfl (gS (gR (gM rfl (gA rfl (gE (gRt (gLr aH aG (gr1 results163 rfl ⟨rfl, hm.below⟩))))))))
   exact gcf rfl (gSk (gR (gP (by omega) (by omega) rfl (gM rfl (gE (gze hm [] rfl))))))
  repeat clear hm
  intro aT aU w hm aV aW
  exact gS (gR (gB rfl (gE (gS (go _ 9 rfl (decide_eq_false (by omega)) (gcf rfl (gXt (gHh (gS (gR (gA rfl (gE (gRt (gr1 results163 rfl ⟨rfl, hm.below⟩))))))))))))))
theorem slices_Contains_S_string_string_ok (w0 : World) (s_ : List Str) (v1 : Value) (h1 : GT.rep (hp w0) [v1] s_) (v_ : Str) :
    ConM Tryz.prog 120 [v1, (.string ⟨(v_).b.toArray⟩)] w0 (slices_Contains_S_string_string s_ v_) fun r v w' => v = (.bool (r)) ∧ Below w0.heap.size w0 w' := by
  unfold slices_Contains_S_string_string
  refine gcon func120 rfl fun r => ?_
  have hm := Mem.start w0
  exact gS (gR (gA rfl (gE (gS (gR (gM rfl (gM rfl (gC hm rfl call163 (slices_Index_S_string_string_ok _ s_ v1 (hm.now h1) v_) fun aA aB w hm => gB rfl (gA rfl (gE (gRt (gr1 results120 rfl ⟨rfl, hm.below⟩))))))))))))
theorem impl_wordOf_ok (w0 : World) (s_ : Str) (hG1 : GT.rep (hp w0) [.slice (some ⟨1, 0, none⟩) 9 9] glob_impl_keys) :
    ConM Tryz.prog 69 [(.string ⟨(s_).b.toArray⟩)] w0 (impl_wordOf s_) fun r v w' => v = (.agg #[(nV r.kind), (.string ⟨(r.text).b.toArray⟩)]) ∧ Below w0.heap.size w0 w' := by
  unfold impl_wordOf
  refine gcon func69 rfl fun r => ?_
  have hm := Mem.start w0
  refine gS (gR (gAl hm zeroValue56 rfl fun aJ w hm => gE (gS (gBk (gS (gR (gM rfl (gg fun aA aB aC => gY (yG rfl (y_idx_str (p := s_) underlying9 rfl rfl rfl aB aC)) (gC hm rfl call68 (impl_isDigit_ok _ aA) fun aK aL w hm => gA rfl (gE (gs 3 rfl (fun aD => ?_) fun aD => ?_)))))))))))
  ·
   exact gct rfl (gS (gR (gM rfl (gY (yG rfl (y_build (vs := [(0, (nV 2)), (1, (.string ⟨(s_).b.toArray⟩))]) (cs := #[(nV 2), (.string ⟨(s_).b.toArray⟩)]) rfl rfl (by kernel_rfl))) (gSN hm 0 sizeOf56 (one_cons rfl (one_cons rfl one_nil)) rfl fun w hm => gE (gRt (grc 0 results69 hm rfl isAgg56 sizeOf56 ⟨rfl, hm.below⟩)))))))
  refine gcf rfl (gS (gR (gY (yG rfl (y_slcArr (n := 9) underlying129 rfl rfl sizeOf9)) (gM rfl (gC hm rfl call120 (slices_Contains_S_string_string_ok _ glob_impl_keys (sV 1 0 9 9) (hm.now hG1) s_) fun aM aN w hm => gA rfl (gE (gs 9 rfl (fun aE => ?_) fun aE => ?_)))))))
  ·
   exact gct rfl (gS (gR (gM rfl (gY (yG rfl (y_build (vs := [(0, (nV 4)), (1, (.string ⟨(s_).b.toArray⟩))]) (cs := #[(nV 4), (.string ⟨(s_).b.toArray⟩)]) rfl rfl (by kernel_rfl))) (gSN hm 0 sizeOf56 (one_cons rfl (one_cons rfl one_nil)) rfl fun w hm => gE (gRt (grc 0 results69 hm rfl isAgg56 sizeOf56 ⟨rfl, hm.below⟩)))))))
  refine gcf rfl (gS (gR (gM rfl (gg fun aF aG aH => gY (yG rfl (y_idx_str (p := s_) underlying9 rfl rfl rfl aG aH)) (gC hm rfl call67 (impl_isLetter_ok _ aF) fun aO aP w hm => gA rfl (gE (gs 15 rfl (fun aI => ?_) fun aI => ?_)))))))
  ·
   exact gct rfl (gS (gR (gM rfl (gY (yG rfl (y_build (vs := [(0, (nV 1)), (1, (.string ⟨(s_).b.toArray⟩))]) (cs := #[(nV 1), (.string ⟨(s_).b.toArray⟩)]) rfl rfl (by kernel_rfl))) (gSN hm 0 sizeOf56 (one_cons rfl (one_cons rfl one_nil)) rfl fun w hm => gE (gRt (grc 0 results69 hm rfl isAgg56 sizeOf56 ⟨rfl, hm.below⟩)))))))
  exact gcf rfl (gSk (gS (gR (gM rfl (gY (yG rfl (y_build (vs := [(0, (nV 3)), (1, (.string ⟨(s_).b.toArray⟩))]) (cs := #[(nV 3), (.string ⟨(s_).b.toArray⟩)]) rfl rfl (by kernel_rfl))) (gSN hm 0 sizeOf56 (one_cons rfl (one_cons rfl one_nil)) rfl fun w hm => gE (gRt (grc 0 results69 hm rfl isAgg56 sizeOf56 ⟨rfl, hm.below⟩))))))))
theorem impl_within_ok (w0 : World) (n_ : Int) (low : Int) (high : Int) :
    ConM Tryz.prog 89 [(nV n_), (nV low), (nV high)] w0 (impl_within n_ low high) fun r v w' => v = (.bool (r)) ∧ Below w0.heap.size w0 w' := by
  unfold impl_within
  refine gcon func89 rfl fun r => ?_
  have hm := Mem.start w0
  refine gS (gR (gA rfl (gE (gS (gJ hm (fun aA => [(6, (.bool (aA)))]) (fun aA => []) (fun aA => ?_) ?_)))))
  ·
   refine gR (gM rfl (gM rfl (gB rfl (gM rfl (gsd 10 rfl (fun aB => ?_) fun aB => ?_)))))
   ·
    exact gM rfl (gM rfl (gB rfl (gKt rfl (gA rfl (gE (gz hm [] rfl))))))
   exact gO rfl (gO rfl (gO rfl (gKf rfl (gA rfl (gE (gz hm [] rfl))))))
  repeat clear hm
  intro aA w hm
  exact gRt (gr1 results89 rfl ⟨rfl, hm.below⟩)
theorem strings_IndexFunc_ok (w0 : World) (s_ : Str) (f : Int → Option Bool) (fv1 : Value) (hfn1 : ∀ (w : World) (y0 : Int) (r : Bool), Below w0.heap.size w0 w → f y0 = some r → FnOk Tryz.prog fv1 [(.int .i32 (y0))] w (fun v w' => v = (.bool (r)) ∧ Below w.heap.size w w')) :
    ConM Tryz.prog 141 [(.string ⟨(s_).b.toArray⟩), fv1] w0 (strings_IndexFunc s_ f) fun r v w' => v = (nV r) ∧ Below w0.heap.size w0 w' := idxFunc_con laysGw15 w0 s_ f fv1 hfn1
theorem impl_IsName_1_ok (w0 : World) (r_ : Int) :
    ConM Tryz.prog 142 [(.int .i32 (r_))] w0 (impl_IsName_1 r_) fun r v w' => v = (.bool (r)) ∧ Below w0.heap.size w0 w' := by
  unfold impl_IsName_1
  refine gcon func142 rfl fun r => ?_
  have hm := Mem.start w0
  refine gS (gR (gA rfl (gE (gS (gJ hm (fun aA => [(2, (.bool (aA)))]) (fun aA => []) (fun aA => ?_) ?_)))))
  ·
   refine gR (gM rfl (gB rfl (gM rfl (gsd 5 rfl (fun aB => ?_) fun aB => ?_))))
   ·
    exact gO rfl (gO rfl (gKt rfl (gA rfl (gE (gz hm [] rfl)))))
   exact gM rfl (gB rfl (gKf rfl (gA rfl (gE (gz hm [] rfl)))))
  repeat clear hm
  intro aA w hm
  exact gRt (gr1 results142 rfl ⟨rfl, hm.below⟩)
theorem impl_IsName_ok (w0 : World) (s_ : Str) (hG1 : GT.rep (hp w0) [.slice (some ⟨1, 0, none⟩) 9 9] glob_impl_keys) :
    ConM Tryz.prog 90 [(.string ⟨(s_).b.toArray⟩)] w0 (impl_IsName s_) fun r v w' => v = (.bool (r)) ∧ Below w0.heap.size w0 w' := by
  unfold impl_IsName
  refine gcon func90 rfl fun r => ?_
  have hm := Mem.start w0
  refine gS (gR (gA rfl (gE (gS (gJ hm (fun aA => [(2, (.bool (aA)))]) (fun aA => []) (fun aA => ?_) ?_)))))
  ·
   refine gR (gM rfl (gY (yG rfl (y_len_str (p := s_) underlying9 rfl rfl)) ?_))
   have aD := (s_).h
   refine gC hm rfl call89 (impl_within_ok _ ((s_).b.length : Int) 1 4) fun aE aF w hm => gM rfl (gs 6 rfl (fun aB => ?_) fun aB => ?_)
   ·
    refine gM rfl (gC hm rfl call141 (strings_IndexFunc_ok _ s_ (fun y0 => impl_IsName_1 y0) (.func (.func 142) #[] #[]) (fun w y0 r hB hq => ⟨142, [], rfl, call142, impl_IsName_1_ok w y0  r hq⟩)) fun aG aH w hm => gB rfl (gKt rfl (gM rfl (gsd 11 rfl (fun aC => ?_) fun aC => ?_))))
    ·
     exact gY (yG rfl (y_slcArr (n := 9) underlying129 rfl rfl sizeOf9)) (gM rfl (gC hm rfl call120 (slices_Contains_S_string_string_ok _ glob_impl_keys (sV 1 0 9 9) (hm.now hG1) s_) fun aI aJ w hm => gN rfl (gKt rfl (gA rfl (gE (gz hm [] rfl))))))
    exact gO rfl (gO rfl (gO rfl (gO rfl (gKf rfl (gA rfl (gE (gz hm [] rfl)))))))
   exact gO rfl (gO rfl (gO rfl (gKf rfl (gM rfl (gO rfl (gO rfl (gO rfl (gO rfl (gKf rfl (gA rfl (gE (gz hm [] rfl))))))))))))
  repeat clear hm
  intro aA w hm
  exact gRt (gr1 results90 rfl ⟨rfl, hm.below⟩)
theorem strconv_Atoi_ok (w0 : World) (s_ : Str) :
    ConM Tryz.prog 164 [(.string ⟨(s_).b.toArray⟩)] w0 (strconv_Atoi s_) fun r v w' => v = (.tuple #[(nV r.1), .nilIface]) ∧ Below w0.heap.size w0 w' := atoi_con lays172 w0 s_
theorem impl_decimal_ok (w0 : World) (s_ : Str) (most : Int) :
    ConM Tryz.prog 121 [(.string ⟨(s_).b.toArray⟩), (nV most)] w0 (impl_decimal s_ most) fun r v w' => v = (nV r) ∧ Below w0.heap.size w0 w' := by
  unfold impl_decimal
  refine gcon func121 rfl fun r => ?_
  have hm := Mem.start w0
  refine gS (gR (gA rfl (gE (gS (gS (gJ hm (fun aA => [(0, (.string ⟨(s_).b.toArray⟩)), (1, (nV most)), (24, (.bool (aA)))]) (fun aA => []) (fun aA => ?_) ?_))))))
  ·
   refine gR (gM rfl (gY (yG rfl (y_eqls (p := s_) (q := (mkS [])) rfl rfl rfl)) (gM rfl (gsd 10 rfl (fun aD => ?_) fun aD => ?_))))
   ·
    exact gO rfl (gO rfl (gO rfl (gKt rfl (gM rfl (gO rfl (gO rfl (gO rfl (gO rfl (gO rfl (gO rfl (gO rfl (gO rfl (gKt rfl (gE (gz hm [] rfl)))))))))))))))
   refine gM rfl (gY (yG rfl (y_len_str (p := s_) underlying9 rfl rfl)) ?_)
   have aR := (s_).h
   refine gB rfl (gKf rfl (gM rfl (gsd 15 rfl (fun aE => ?_) fun aE => ?_)))
   ·
    exact gO rfl (gO rfl (gO rfl (gO rfl (gO rfl (gO rfl (gO rfl (gO rfl (gKt rfl (gE (gz hm [] rfl))))))))))
   refine gM rfl (gY (yG rfl (y_len_str (p := s_) underlying9 rfl rfl)) (gB rfl (gM rfl (gsd 19 rfl (fun aF => ?_) fun aF => ?_))))
   ·
    exact gM rfl (gg fun aG aH aI => gY (yG rfl (y_idx_str (p := s_) underlying9 rfl rfl rfl aH aI)) (gY (yG rfl (y_eql8 (b := aG) (c := (48 : UInt8)) rfl rfl rfl)) (gKt rfl (gKf rfl (gE (gz hm [] rfl))))))
   exact gO rfl (gO rfl (gO rfl (gKf rfl (gKf rfl (gE (gz hm [] rfl))))))
  repeat clear hm
  intro aA w hm
  refine gs 24 rfl (fun aJ => ?_) fun aJ => ?_
  ·
   exact gct rfl (gS (gR (gA rfl (gE (gRt (gr1 results121 rfl ⟨rfl, hm.below⟩))))))
  refine gcf rfl (gSk (gS (gS (gR (gM rfl (gY (yG rfl (y_len_str (p := s_) underlying9 rfl rfl)) ?_))))))
  have aT := (s_).h
  refine gM rfl (gE (gBk (gNf hm (fun aB aC => [(0, (.string ⟨(s_).b.toArray⟩)), (1, (nV most)), (26, (nV (((s_).b.length : Int)))), (27, (nV aB))]) (fun aB aC => []) [] rfl ?_ ?_)))
  ·
   repeat clear hm
   intro aU aK aB aC w hm aV aW aX aL
   refine gS (gR (gB rfl (gE (gS (go _ 28 rfl (decide_eq_true (by omega)) (gct rfl (gSk (gS (gBk (gS (gR (gM rfl (gA rfl (gE (gS (gR (gM rfl (gM rfl (gg fun aM aN aO => gY (yG rfl (y_idx_str (p := s_) underlying9 rfl rfl rfl aN aO)) (gC hm rfl call68 (impl_isDigit_ok _ aM) fun aY aZ w hm => gN rfl (gE (gsn 34 rfl (fun aP => ?_) fun aP => ?_))))))))))))))))))))))
   ·
    exact gct rfl (gS (gR (gA rfl (gE (gRt (gLr aL aK (gr1 results121 rfl ⟨rfl, hm.below⟩)))))))
   exact gcf rfl (gSk (gR (gP (by omega) (by omega) rfl (gM rfl (gE (gze hm [] rfl))))))
  repeat clear hm
  intro a7 a8 w hm aa ab
  refine gS (gR (gB rfl (gE (gS (go _ 28 rfl (decide_eq_false (by omega)) (gcf rfl (gXt (gHh (gS (gR (gM rfl (gC hm rfl call164 (strconv_Atoi_ok _ s_) fun ac ae w hm => gM rfl (gX rfl (gX rfl (gA rfl (gA rfl (gE (gS (gS (gR (gM rfl (gM rfl (gB rfl (gE (gsd 43 rfl (fun aQ => ?_) fun aQ => ?_)))))))))))))))))))))))))
  ·
   exact gct rfl (gS (gR (gA rfl (gE (gRt (gr1 results121 rfl ⟨rfl, hm.below⟩))))))
  exact gcf rfl (gSk (gS (gR (gM rfl (gA rfl (gE (gRt (gr1 results121 rfl ⟨rfl, hm.below⟩))))))))
theorem strings_Contains_ok (w0 : World) (s_ : Str) (substr : Str) :
    ConM Tryz.prog 122 [(.string ⟨(s_).b.toArray⟩), (.string ⟨(substr).b.toArray⟩)] w0 (strings_Contains s_ substr) fun r v w' => v = (.bool (r)) ∧ Below w0.heap.size w0 w' := contains_con lays144 w0 s_ substr
theorem impl_WordValid_ok (w0 : World) (w_ : Word_) (hG1 : GT.rep (hp w0) [.slice (some ⟨1, 0, none⟩) 9 9] glob_impl_keys) :
    ConM Tryz.prog 70 [(.agg #[(nV w_.kind), (.string ⟨(w_.text).b.toArray⟩)])] w0 (impl_WordValid w_) fun r v w' => v = (.bool (r)) ∧ Below w0.heap.size w0 w' := by
  unfold impl_WordValid
  refine gcon func70 rfl fun r => ?_
  have hm := Mem.start w0
  refine gS (gR (gBx hm rfl fun aB w hm => gA rfl (gE (gS (gS (gR (gF fo_56_0 rfl (gL hm 0 isAgg3 rfl (gE (gBk (gS (gR (gB rfl (gA rfl (gE (gsd 5 rfl (fun aC => ?_) fun aC => ?_))))))))))))))))
  ·
   exact gct rfl (gS (gR (gF fo_56_1 rfl (gL hm 0 isAgg9 rfl (gC hm rfl call90 (impl_IsName_ok _ w_.text (hm.now hG1)) fun aI aJ w hm => gA rfl (gE (gRt (gr1 results70 rfl ⟨rfl, hm.below⟩))))))))
  refine gcf rfl (gS (gR (gB rfl (gA rfl (gE (gsd 10 rfl (fun aD => ?_) fun aD => ?_))))))
  ·
   exact gct rfl (gS (gR (gF fo_56_1 rfl (gL hm 0 isAgg9 rfl (gC hm rfl call121 (impl_decimal_ok _ w_.text 255) fun aK aL w hm => gB rfl (gA rfl (gE (gRt (gr1 results70 rfl ⟨rfl, hm.below⟩)))))))))
  refine gcf rfl (gS (gR (gB rfl (gA rfl (gE (gsd 16 rfl (fun aE => ?_) fun aE => ?_))))))
  ·
   refine gct rfl (gS (gJ hm (fun aA => [(2, (.bool (aA)))]) (fun aA => []) (fun aA => ?_) ?_))
   ·
    refine gR (gF fo_56_1 rfl (gL hm 0 isAgg9 rfl (gY (yG rfl (y_len_str (p := w_.text) underlying9 rfl rfl)) ?_)))
    have aM := (w_.text).h
    refine gB rfl (gM rfl (gsd 22 rfl (fun aF => ?_) fun aF => ?_))
    ·
     exact gF fo_56_1 rfl (gL hm 0 isAgg9 rfl (gC hm rfl call122 (strings_Contains_ok _ (mkS [40, 41, 123, 125, 59, 44, 43, 45, 42, 47, 37, 60, 61, 38, 33, 64]) w_.text) fun aN aO w hm => gKt rfl (gA rfl (gE (gz hm [] rfl)))))
    exact gO rfl (gO rfl (gO rfl (gKf rfl (gA rfl (gE (gz hm [] rfl))))))
   repeat clear hm
   intro aA w hm
   exact gRt (gr1 results70 rfl ⟨rfl, hm.below⟩)
  refine gcf rfl (gS (gR (gB rfl (gA rfl (gE (gsd 27 rfl (fun aG => ?_) fun aG => ?_))))))
  ·
   refine gct rfl (gS (gW (.p 0 (.p 1 (.e 2 (.e 3 (.p 4 .fin) .nil) .nil))) [] [0, 1, 4] hm [0] [blk aB [(nV w_.kind), (.string ⟨(w_.text).b.toArray⟩)] 56] rfl mxo (by kernel_rfl) (fun _ _ _ h => h.2) fun w hm hS => tP rfl (fun w => yG rfl (y_slcArr (n := 9) underlying129 rfl rfl sizeOf9)) (tP rfl (fun w => yF fo_56_1 rfl) (tO (tY rfl (yL hm 0 isAgg9 rfl) (tAn rfl (tO (gb fun aP aH => tf rfl rfl (fun a hf => e_call hf rfl call120 rfl (slices_Contains_S_string_string_ok _ glob_impl_keys (sV 1 0 9 9) (hm.now hG1) w_.text _ aH)) ?_))))))))
   rintro aQ w ⟨rfl, hB⟩
   replace hm := hm.below' hB; clear hB
   exact tAn rfl (tP rfl (fun w => yA rfl) (tE (gRt (gr1 results70 rfl ⟨rfl, hm.below⟩))))
  exact gcf rfl (gSk (gS (gR (gA rfl (gE (gRt (gr1 results70 rfl ⟨rfl, hm.below⟩)))))))
theorem impl_CutWords_ok (w0 : World) (s_ : Str) (hG1 : GT.rep (hp w0) [.slice (some ⟨1, 0, none⟩) 9 9] glob_impl_keys) :
    ConM Tryz.prog 29 [(.string ⟨(s_).b.toArray⟩)] w0 (impl_CutWords s_) fun r v w' => ∃ (x1 : Value), v = (.tuple #[x1, (.bool (r.2))]) ∧ Mem w0 (hp w0) w' [ow [x1] r.1] := by
  unfold impl_CutWords
  refine gcon func29 rfl fun r => ?_
  have hm := Mem.start w0
  refine gS (gR (gA rfl (gA rfl (gE (gS (gS (gR (gM rfl (gY (yG rfl (y_len_str (p := s_) underlying9 rfl rfl)) ?_)))))))))
  have bP := (s_).h
  refine gB rfl (gE (gsd 11 rfl (fun aY => ?_) fun aY => ?_))
  ·
   refine gct rfl (gS (gR (gA rfl (gA rfl (gE (gRt ?_))))))
   replace hm := hm.nilow (α := Word_)
   exact gr2 results29 rfl ⟨(.slice none 0 0), rfl, hm.pk [0] rfl rfl⟩
  refine gcf rfl (gSk (gS (gR (gA rfl (gE (gS (gS (gR (gA rfl (gE (gJge (fun aU a w => ∃ (aH : Value), St 72 [(4, aH)] w0 (hp w0) [ow [aH] aU] a w) (fun bQ aZ => ?_) ?_)))))))))))
  ·
   refine gBk ?_
   replace hm := hm.nilow (α := Word_)
   refine gMg (fun aA a w => ∃ (aB : Value), St 72 [(0, (.string ⟨(s_).b.toArray⟩)), (4, aB), (5, (nV aA.2))] w0 (hp w0) [ow [aB] aA.1] a w) (fun a hf => ⟨(.slice none 0 0), hf.sb rfl, hm.pk [0] rfl rfl⟩) ?_
   repeat clear hm
   rintro bR aV aA a w ⟨aB, hf, hm⟩ bS aW
   refine gv hf (gS (gS (gR (gM rfl (gM rfl (gY (yG rfl (y_len_str (p := s_) underlying9 rfl rfl)) (gB rfl (gE (gsd 15 rfl (fun a7 => ?_) fun a7 => ?_)))))))))
   ·
    refine gct rfl (gSk (gJge (fun aP a w => ∃ (aI : Value), St 72 [(0, (.string ⟨(s_).b.toArray⟩)), (4, aI), (5, (nV aP.2))] w0 (hp w0) [ow [aI] aP.1] a w) (fun bT a8 => ?_) ?_))
    ·
     refine gBk (gS (gS (gJ hm (fun aJ => [(0, (.string ⟨(s_).b.toArray⟩)), (4, aB), (5, (nV aA.2)), (25, (.bool (aJ)))]) (fun aJ => [ow [aB] aA.1]) (fun aJ => ?_) ?_)))
     ·
      refine gR (gM rfl (gM rfl (gg fun aa ab ac => gY (yG rfl (y_idx_str (p := s_) underlying9 rfl rfl rfl ab ac)) (gY (yG rfl (y_eql8 (b := aa) (c := (32 : UInt8)) rfl rfl rfl)) (gM rfl (gsd 20 rfl (fun ae => ?_) fun ae => ?_))))))
      ·
       exact gO rfl (gO rfl (gO rfl (gO rfl (gKt rfl (gE (gz hm [0] rfl))))))
      exact gM rfl (gM rfl (gg fun af ag ah => gY (yG rfl (y_idx_str (p := s_) underlying9 rfl rfl rfl ag ah)) (gY (yG rfl (y_eql8 (b := af) (c := (10 : UInt8)) rfl rfl rfl)) (gKf rfl (gE (gz hm [0] rfl))))))
     repeat clear hm
     intro aJ w hm
     refine gs 25 rfl (fun ai => ?_) fun ai => ?_
     ·
      exact gct rfl (gS (gR (gM rfl (gB rfl (gA rfl (gE (gXt (gHh (gZe fun a hf => ⟨aB, hf.sb rfl, hm.pk [0] rfl rfl⟩)))))))))
     refine gcf rfl (gSk (gS (gR (gA rfl (gE (gS (gJg (fun aQ a w => ∃ (aF : Value), (∀ (w : World) (y0 : UInt8) (r : Bool), Below w0.heap.size w0 w → aQ y0 = some r → FnOk Tryz.prog aF [(.int .u8 ((y0).toNat : Int))] w (fun v w' => v = (.bool (r)) ∧ Below w.heap.size w w')) ∧ St 72 [(0, (.string ⟨(s_).b.toArray⟩)), (4, aB), (5, (nV aA.2)), (6, aF)] w0 (hp w0) [ow [aB] aA.1] a w) (fun aQ => ?_) ?_)))))))
     ·
      refine gBk (gS (gR (gM rfl (gM rfl (gg fun aj ak al => gY (yG rfl (y_idx_str (p := s_) underlying9 rfl rfl rfl ak al)) (gC hm rfl call67 (impl_isLetter_ok _ aj) fun bU bV w hm => gA rfl (gE (gJg (fun aR a w => ∃ (aK : Value), (∀ (w : World) (y0 : UInt8) (r : Bool), Below w0.heap.size w0 w → aR y0 = some r → FnOk Tryz.prog aK [(.int .u8 ((y0).toNat : Int))] w (fun v w' => v = (.bool (r)) ∧ Below w.heap.size w w')) ∧ St 72 [(0, (.string ⟨(s_).b.toArray⟩)), (4, aB), (5, (nV aA.2)), (6, aK)] w0 (hp w0) [ow [aB] aA.1] a w) (fun aR => ?_) ?_))))))))
      ·
       refine gs 28 rfl (fun am => ?_) fun am => ?_
       ·
        exact gct rfl (gR (gA rfl (gE (gZ fun a hf => ⟨(.func (.func 67) #[] #[]), (fun w y0 r _ hq => ⟨67, [], rfl, call67, impl_isLetter_ok w y0 r hq⟩), hf.sb rfl, hm.pk [0] rfl rfl⟩))))
       refine gcf rfl (gS (gR (gM rfl (gM rfl (gg fun an ao ap => gY (yG rfl (y_idx_str (p := s_) underlying9 rfl rfl rfl ao ap)) (gC hm rfl call68 (impl_isDigit_ok _ an) fun bW bX w hm => gA rfl (gE (gJg (fun aT a w => ∃ (aL : Value), (∀ (w : World) (y0 : UInt8) (r : Bool), Below w0.heap.size w0 w → aT y0 = some r → FnOk Tryz.prog aL [(.int .u8 ((y0).toNat : Int))] w (fun v w' => v = (.bool (r)) ∧ Below w.heap.size w w')) ∧ St 72 [(0, (.string ⟨(s_).b.toArray⟩)), (4, aB), (5, (nV aA.2)), (6, aL)] w0 (hp w0) [ow [aB] aA.1] a w) (fun aT => ?_) ?_))))))))
       ·
        refine gs 33 rfl (fun aq => ?_) fun aq => ?_
        ·
         exact gct rfl (gR (gA rfl (gE (gZ fun a hf => ⟨(.func (.func 68) #[] #[]), (fun w y0 r _ hq => ⟨68, [], rfl, call68, impl_isDigit_ok w y0 r hq⟩), hf.sb rfl, hm.pk [0] rfl rfl⟩))))
        exact gcf rfl (gSk (gZ fun a hf => ⟨(.func (.func 66) #[] #[]), (fun w y0 r _ hq => ⟨66, [], rfl, call66, impl_CutWords_1_ok w y0 r hq⟩), hf.sb rfl, hm.pk [0] rfl rfl⟩))
       repeat clear hm
       rintro aT a w ⟨aL, ar, hf, hm⟩
       exact gv hf (gZ fun a hf => ⟨aL, ar, hf.sb rfl, hm.pk [0] rfl rfl⟩)
      repeat clear hm
      rintro aR a w ⟨aK, au, hf, hm⟩
      exact gv hf (gZ fun a hf => ⟨aK, au, hf.sb rfl, hm.pk [0] rfl rfl⟩)
     repeat clear hm
     rintro aQ a w ⟨aF, av, hf, hm⟩
     refine gv hf (gS (gR (gM rfl (gB rfl (gA rfl (gE (gS ?_)))))))
     obtain ⟨aC, aD, rfl, bY⟩ := ro_slice (hm.ow_rep 0 rfl)
     refine gJ hm (fun aG => [(0, (.string ⟨(s_).b.toArray⟩)), (4, (.slice aC aA.1.length aD)), (5, (nV aA.2)), (7, (nV aG))]) (fun aG => [ow [(.slice aC aA.1.length aD)] aA.1]) (fun aG => ?_) ?_
     ·
      refine gBk (gMf hm (fun aM => [(0, (.string ⟨(s_).b.toArray⟩)), (4, (.slice aC aA.1.length aD)), (5, (nV aA.2)), (6, aF), (7, (nV aM))]) (fun aM => [ow [(.slice aC aA.1.length aD)] aA.1]) [0] rfl ?_)
      repeat clear hm
      intro bZ aw aM w hm b4 ax
      refine gS (gS (gJ hm (fun aN => [(0, (.string ⟨(s_).b.toArray⟩)), (4, (.slice aC aA.1.length aD)), (5, (nV aA.2)), (6, aF), (7, (nV aM)), (50, (.bool (aN)))]) (fun aN => [ow [(.slice aC aA.1.length aD)] aA.1]) (fun aN => ?_) ?_))
      ·
       refine gR (gM rfl (gM rfl (gY (yG rfl (y_len_str (p := s_) underlying9 rfl rfl)) (gB rfl (gM rfl (gsd 44 rfl (fun ay => ?_) fun ay => ?_))))))
       ·
        refine gM rfl (gM rfl (gM rfl (gg fun az bA bB => gY (yG rfl (y_idx_str (p := s_) underlying9 rfl rfl rfl bA bB)) (gb fun b5 bC => gf rfl (fun a hf => e_callv hf rfl rfl rfl (av _ az _ hm.below bC)) ?_))))
        rintro b6 w ⟨rfl, hB⟩
        replace hm := hm.below' hB; clear hB
        exact gKt rfl (gE (gz hm [0] rfl))
       exact gO rfl (gO rfl (gO rfl (gO rfl (gO rfl (gKf rfl (gE (gz hm [0] rfl)))))))
      repeat clear hm
      intro aN w hm
      refine gs 50 rfl (fun bD => ?_) fun bD => ?_
      ·
       exact gct rfl (gSk (gBk (gR (gM rfl (gB rfl (gA rfl (gE (gze hm [0] rfl))))))))
      exact gcf rfl (gXt (gHh (gLp ax aw (gz hm [0] rfl))))
     repeat clear hm
     intro aG w hm
     refine gS (gR (gM rfl (gM rfl (gM rfl (gb fun bE bF => ?_)))))
     obtain ⟨bG, bH⟩ := subS_some.1 bF
     refine gY (yG rfl (y_subs (s := s_) underlying9 rfl rfl rfl rfl bG _)) ?_
     rw [bH]
     refine gC hm rfl call69 (impl_wordOf_ok _ bE (hm.now hG1)) fun aE b7 w hm => gAl hm zeroValue56 rfl fun aX w hm => gSN hm 0 sizeOf56 (one_cons rfl (one_cons rfl one_nil)) rfl fun w hm => gE (gS (gS (gJ hm (fun aO => [(0, (.string ⟨(s_).b.toArray⟩)), (4, (.slice aC aA.1.length aD)), (7, (nV aG)), (8, (pV aX)), (65, (.bool (aO)))]) (fun aO => [ow [(.slice aC aA.1.length aD)] aA.1, blk aX [(nV aE.kind), (.string ⟨(aE.text).b.toArray⟩)] 56]) (fun aO => ?_) ?_)))
     ·
      refine gR (gY (yn (hm.blk_at 0 rfl) isAgg56 sizeOf56 rfl) (gC hm rfl call70 (impl_WordValid_ok _ aE (hm.now hG1)) fun b8 b9 w hm => gN rfl (gM rfl (gsn 61 rfl (fun bJ => ?_) fun bJ => ?_))))
      ·
       exact gO rfl (gO rfl (gO rfl (gKt rfl (gE (gz hm [1, 0] rfl)))))
      exact gM rfl (gY (yV st_41 rfl) (gB rfl (gKf rfl (gE (gz hm [1, 0] rfl)))))
     repeat clear hm
     intro aO w hm
     refine gs 65 rfl (fun bK => ?_) fun bK => ?_
     ·
      refine gct rfl (gS (gR (gA rfl (gA rfl (gE (gRt (gEr a8 (gLp aW aV (gl (gEr aZ ?_))))))))))
      replace hm := hm.nilow (α := Word_)
      exact gr2 results29 rfl ⟨(.slice none 0 0), rfl, hm.pk [0] rfl rfl⟩
     refine gcf rfl (gSk (gS (gR (gM rfl (gY (yn (hm.blk_at 1 rfl) isAgg56 sizeOf56 rfl) (gf rfl (fun a hf => e_build (vs := #[(0, (.agg #[(nV aE.kind), (.string ⟨(aE.text).b.toArray⟩)]))]) (cs := [(nV aE.kind), (.string ⟨(aE.text).b.toArray⟩)]) et_41 hf hm rfl rfl (by kernel_rfl) rfl rfl) ?_))))))
     rintro _ w ⟨ba, rfl, hm⟩
     replace hm := hm.lit (xs := ([aE] : List Word_)) 0 rfl rfl rfl rfl
     refine gb fun bb bL => ?_
     obtain ⟨bM, bN⟩ := appM_some.1 bL
     refine gf rfl (fun a hf => e_append 1 et_41 hf hm rfl (hm.ow_rep 0 rfl) rfl rfl rfl bM) ?_
     rintro bO w hm
     rw [bN] at hm
     exact gA rfl (gE (gR (gM rfl (gA rfl (gE (gZe fun a hf => ⟨bO, hf.sb rfl, hm.pk [1] rfl rfl⟩))))))
    repeat clear hm
    rintro aP a w ⟨aI, hf, hm⟩
    exact gv hf (gZe fun a hf => ⟨aI, hf.sb rfl, hm.pk [0] rfl rfl⟩)
   exact gcf rfl (gXt (gHh (gLp aW aV (gr (gZe fun a hf => ⟨aB, hf.sb rfl, hm.pk [0] rfl rfl⟩)))))
  repeat clear hm
  rintro aU a w ⟨aH, hf, hm⟩
  exact gv hf (gS (gR (gM rfl (gA rfl (gA rfl (gE (gRt (gr2 results29 rfl ⟨aH, rfl, hm.pk [0] rfl rfl⟩))))))))
theorem pimpl_wordReader__peek_ok (w0 : World) (r_ : wordReader) (bp0 : Nat) (v1p : Value) (h1p : GT.rep (hp w0) [v1p] r_.list) (hbbp0 : (hp w0) bp0 = some (.cells ([v1p, (.bool (r_.bad))] : List Value).toArray 63 (0, 0))) :
    ConM Tryz.prog 105 [(pV bp0)] w0 (pimpl_wordReader__peek r_) fun r v w' => v = (.agg #[(nV r.kind), (.string ⟨(r.text).b.toArray⟩)]) ∧ Below w0.heap.size w0 w' := by
  unfold pimpl_wordReader__peek
  refine gcon func105 rfl fun r => ?_
  have hm := Mem.start w0
  refine gS (gR (gAl hm zeroValue56 rfl fun aE w hm => gE (gS (gS (gR (gM rfl (gY (yG rfl (y_nilptr rfl rfl)) (gF fo_63_0 rfl (gY (yl isAgg41 (hm.hz_cell hbbp0 rfl) rfl) ?_)))))))))
  obtain ⟨aF, aG, rfl, aH⟩ := ro_slice h1p
  refine gY (yV st_41 rfl) (gB rfl (gE (gsd 8 rfl (fun aC => ?_) fun aC => ?_)))
  ·
   exact gct rfl (gS (gR (gY (yG rfl (y_build (vs := []) (cs := #[(nV 0), (.string ⟨((mkS [])).b.toArray⟩)]) rfl rfl (by kernel_rfl))) (gSN hm 0 sizeOf56 (one_cons rfl (one_cons rfl one_nil)) rfl fun w hm => gE (gRt (grc 0 results105 hm rfl isAgg56 sizeOf56 ⟨rfl, hm.below⟩))))))
  refine gcf rfl (gSk (gS (gR (gM rfl (gY (yG rfl (y_nilptr rfl rfl)) (gF fo_63_0 rfl (gY (yl isAgg41 (hm.hz_cell hbbp0 rfl) rfl) (gg fun aB aD aA => ?_))))))))
  obtain ⟨aI, aJ, aK, he⟩ := idx_form h1p aA
  obtain ⟨rfl, _, rfl⟩ := sl3 he
  exact gI st_41 aD (idx_lt aA) rfl (gY (yn (flat_cells (cs := [(nV aB.kind), (.string ⟨(aB.text).b.toArray⟩)]) (hm.now h1p) aA rfl) isAgg56 sizeOf56 rfl) (gSN hm 0 sizeOf56 (one_cons rfl (one_cons rfl one_nil)) rfl fun w hm => gE (gRt (grc 0 results105 hm rfl isAgg56 sizeOf56 ⟨rfl, hm.below⟩))))
theorem pimpl_wordReader__take_ok (w0 : World) (hz : Heap) (r_ : wordReader) (bp0 : Nat) (v1p : Value) (kind : Int) (text : Str) (hm0 : Mem w0 hz w0 [blk bp0 [v1p, (.bool (r_.bad))] 63, ow [v1p] r_.list]) :
    ConM Tryz.prog 131 [(pV bp0), (nV kind), (.string ⟨(text).b.toArray⟩)] w0 (pimpl_wordReader__take r_ kind text) fun r v w' => ∃ (x1 : Value), v = (.bool (r.1)) ∧ Mem w0 hz w' [blk bp0 [x1, (.bool (r.2.bad))] 63, ow [x1] r.2.list] := by
  unfold pimpl_wordReader__take
  refine gcon func131 rfl fun r => ?_
  have hm := hm0
  refine gS (gR (gA rfl (gE (gS (gS (gR (gM rfl (gC hm rfl call105 (pimpl_wordReader__peek_ok _ r_ bp0 v1p (hm.ow_rep 1 rfl) (hm.blk_cells 0 rfl).1) fun aF aM w hm => gAl hm zeroValue56 rfl fun aN w hm => gSN hm 0 sizeOf56 (one_cons rfl (one_cons rfl one_nil)) rfl fun w hm => gE (gS (gJ hm (fun aA => [(0, (pV bp0)), (27, (.bool (aA)))]) (fun aA => [blk bp0 [v1p, (.bool (r_.bad))] 63, ow [v1p] r_.list]) (fun aA => ?_) ?_))))))))))
  ·
   refine gR (gM rfl (gY (yG rfl (y_nilptr rfl rfl)) (gF fo_63_0 rfl (gL hm 1 isAgg41 rfl ?_))))
   obtain ⟨aO, aP, rfl, aQ⟩ := ro_slice (hm.ow_rep 2 rfl)
   refine gY (yV st_41 rfl) (gB rfl (gM rfl (gsd 16 rfl (fun aG => ?_) fun aG => ?_)))
   ·
    exact gO rfl (gO rfl (gO rfl (gO rfl (gKt rfl (gM rfl (gO rfl (gO rfl (gO rfl (gO rfl (gKt rfl (gE (gz hm [1, 2] rfl))))))))))))
   refine gF fo_56_0 rfl (gL hm 0 isAgg3 rfl (gM rfl (gB rfl (gKf rfl (gM rfl (gsd 22 rfl (fun aH => ?_) fun aH => ?_))))))
   ·
    exact gO rfl (gO rfl (gO rfl (gO rfl (gKt rfl (gE (gz hm [1, 2] rfl))))))
   exact gF fo_56_1 rfl (gL hm 0 isAgg9 rfl (gM rfl (gY (yG rfl (y_neqs (p := aF.text) (q := text) rfl rfl rfl)) (gKf rfl (gE (gz hm [1, 2] rfl))))))
  repeat clear hm
  intro aA w hm
  refine gs 27 rfl (fun aI => ?_) fun aI => ?_
  ·
   exact gct rfl (gS (gR (gA rfl (gE (gRt (gr1 results131 rfl ⟨v1p, rfl, hm.pk [0, 1] rfl rfl⟩))))))
  refine gcf rfl (gSk (gS (gR (gM rfl (gM rfl (gY (yG rfl (y_nilptr rfl rfl)) (gF fo_63_0 rfl (gL hm 0 isAgg41 rfl (gb fun aJ aK => ?_)))))))))
  obtain ⟨aC, aD⟩ := subM_some.1 aK
  have aL := (hm.ow_rep 1 rfl)
  obtain ⟨aE, aB⟩ : ∃ nv, nv = subV (GT.sz (Word_)) v1p (1 : Int).toNat ((r_.list.length : Int) : Int).toNat := ⟨_, rfl⟩
  refine gY (yG rfl (yl_eq aB (y_slcL (α := Word_) st_41 aL rfl rfl rfl aC _))) (gY (yG rfl (y_nilptr rfl rfl)) (gF fo_63_0 rfl (gS1 hm 0 sizeOf41 (rep_one (view_rep aB aD aC (hm.ow_rep 1 rfl))) rfl fun w hm => gE (gS (gR (gA rfl (gE (gRt ?_))))))))
  replace hm := hm.imp (c' := ow [aE] aJ) 1 rfl (fun F h0 => by rw [aB, ← aD]; exact own_subV h0 (by omega) (by omega))
  exact gr1 results131 rfl ⟨aE, rfl, hm.pk [0, 1] rfl rfl⟩
theorem pimpl_wordReader__want_ok (w0 : World) (hz : Heap) (r_ : wordReader) (bp0 : Nat) (v1p : Value) (kind : Int) (text : Str) (hm0 : Mem w0 hz w0 [blk bp0 [v1p, (.bool (r_.bad))] 63, ow [v1p] r_.list]) :
    ConM Tryz.prog 129 [(pV bp0), (nV kind), (.string ⟨(text).b.toArray⟩)] w0 (pimpl_wordReader__want r_ kind text) fun r v w' => ∃ (x1 : Value), v = (.tuple #[]) ∧ Mem w0 hz w' [blk bp0 [x1, (.bool (r.bad))] 63, ow [x1] r.list] := by
  unfold pimpl_wordReader__want
  refine gcon func129 rfl fun r => ?_
  have hm := hm0
  refine gS (gR (gM rfl (gM rfl (gM rfl ?_))))
  obtain ⟨aC, hle, hm1, hsub, aD⟩ := hm.take2 (L1 := [blk bp0 [v1p, (.bool (r_.bad))] 63, ow [v1p] r_.list]) (L2 := []) [0, 1] [] (by decide) rfl rfl
  refine gCg rfl call131 (pimpl_wordReader__take_ok _ aC r_ bp0 v1p kind text hm1 ) ?_
  rintro aE aG aH w ⟨aB, rfl, hB⟩
  replace hm := aD _ _ hB; clear hB
  refine gN rfl (gE (gJ hm (fun aA => []) (fun aA => [blk bp0 [aB, (.bool (aA))] 63, ow [aB] aE.2.list]) (fun aA => ?_) ?_))
  ·
   refine gsn 10 rfl (fun aF => ?_) fun aF => ?_
   ·
    exact gct rfl (gR (gM rfl (gY (yG rfl (y_nilptr rfl rfl)) (gF fo_63_1 rfl (gS1 hm 0 sizeOf4 rfl rfl fun w hm => gE (gz hm [0, 1] rfl))))))
   exact gcf rfl (gSk (gz hm [0, 1] rfl))
  repeat clear hm
  intro aA w hm
  exact gre results129 ⟨aB, rfl, hm.pk [0, 1] rfl rfl⟩
theorem pimpl_wordReader__next_ok (w0 : World) (hz : Heap) (r_ : wordReader) (bp0 : Nat) (v1p : Value) (hm0 : Mem w0 hz w0 [blk bp0 [v1p, (.bool (r_.bad))] 63, ow [v1p] r_.list]) :
    ConM Tryz.prog 106 [(pV bp0)] w0 (pimpl_wordReader__next r_) fun r v w' => ∃ (x1 : Value), v = (.agg #[(nV r.1.kind), (.string ⟨(r.1.text).b.toArray⟩)]) ∧ Mem w0 hz w' [blk bp0 [x1, (.bool (r.2.bad))] 63, ow [x1] r.2.list] := by
  unfold pimpl_wordReader__next
  refine gcon func106 rfl fun r => ?_
  have hm := hm0
  refine gS (gR (gAl hm zeroValue56 rfl fun aD w hm => gE (gS (gR (gM rfl (gC hm rfl call105 (pimpl_wordReader__peek_ok _ r_ bp0 v1p (hm.ow_rep 2 rfl) (hm.blk_cells 1 rfl).1) fun aE aP w hm => gAl hm zeroValue56 rfl fun aF w hm => gSN hm 0 sizeOf56 (one_cons rfl (one_cons rfl one_nil)) rfl fun w hm => gE (gS (gS (gR (gM rfl (gY (yG rfl (y_nilptr rfl rfl)) (gF fo_63_0 rfl (gL hm 2 isAgg41 rfl ?_)))))))))))))
  obtain ⟨aG, aH, rfl, aQ⟩ := ro_slice (hm.ow_rep 3 rfl)
  refine gY (yV st_41 rfl) (gB rfl (gE (gJg (fun aA a w => ∃ (aB : Value), St 24 [(2, (pV aD)), (3, (pV aF))] w0 hz [blk aD [(nV 0), (.string ⟨((mkS [])).b.toArray⟩)] 56, blk aF [(nV aE.kind), (.string ⟨(aE.text).b.toArray⟩)] 56, blk bp0 [aB, (.bool (aA.2))] 63, ow [aB] aA.1] a w) (fun aA => ?_) ?_)))
  ·
   refine gsd 11 rfl (fun aL => ?_) fun aL => ?_
   ·
    exact gct rfl (gR (gM rfl (gY (yG rfl (y_nilptr rfl rfl)) (gF fo_63_1 rfl (gS1 hm 2 sizeOf4 rfl rfl fun w hm => gE (gZ fun a hf => ⟨(.slice aG r_.list.length aH), hf.sb rfl, hm.pk [1, 0, 2, 3] rfl rfl⟩))))))
   refine gcf rfl (gR (gM rfl (gM rfl (gY (yG rfl (y_nilptr rfl rfl)) (gF fo_63_0 rfl (gL hm 2 isAgg41 rfl (gb fun aM aN => ?_)))))))
   obtain ⟨aI, aJ⟩ := subM_some.1 aN
   have aO := (hm.ow_rep 3 rfl)
   obtain ⟨aK, aC⟩ : ∃ nv, nv = subV (GT.sz (Word_)) (.slice aG r_.list.length aH) (1 : Int).toNat ((r_.list.length : Int) : Int).toNat := ⟨_, rfl⟩
   refine gY (yG rfl (yl_eq aC (y_slcL (α := Word_) st_41 aO rfl rfl rfl aI _))) (gY (yG rfl (y_nilptr rfl rfl)) (gF fo_63_0 rfl (gS1 hm 2 sizeOf41 (rep_one (view_rep aC aJ aI (hm.ow_rep 3 rfl))) rfl fun w hm => gE ?_)))
   replace hm := hm.imp (c' := ow [aK] aM) 3 rfl (fun F h0 => by rw [aC, ← aJ]; exact own_subV h0 (by omega) (by omega))
   exact gZ fun a hf => ⟨aK, hf.sb rfl, hm.pk [1, 0, 2, 3] rfl rfl⟩
  repeat clear hm
  rintro aA a w ⟨aB, hf, hm⟩
  exact gv hf (gS (gR (gY (yn (hm.blk_at 1 rfl) isAgg56 sizeOf56 rfl) (gSN hm 0 sizeOf56 (one_cons rfl (one_cons rfl one_nil)) rfl fun w hm => gE (gRt (grc 0 results106 hm rfl isAgg56 sizeOf56 ⟨aB, rfl, hm.pk [2, 3] rfl rfl⟩))))))
theorem pimpl_wordReader__name_ok (w0 : World) (hz : Heap) (r_ : wordReader) (bp0 : Nat) (v1p : Value) (hm0 : Mem w0 hz w0 [blk bp0 [v1p, (.bool (r_.bad))] 63, ow [v1p] r_.list]) :
    ConM Tryz.prog 130 [(pV bp0)] w0 (pimpl_wordReader__name r_) fun r v w' => ∃ (x1 : Value), v = (.string ⟨(r.1).b.toArray⟩) ∧ Mem w0 hz w' [blk bp0 [x1, (.bool (r.2.bad))] 63, ow [x1] r.2.list] := by
  unfold pimpl_wordReader__name
  refine gcon func130 rfl fun r => ?_
  have hm := hm0
  refine gS (gR (gA rfl (gE (gS (gR (gM rfl ?_))))))
  obtain ⟨aE, hle, hm1, hsub, aF⟩ := hm.take2 (L1 := [blk bp0 [v1p, (.bool (r_.bad))] 63, ow [v1p] r_.list]) (L2 := []) [0, 1] [] (by decide) rfl rfl
  refine gCg rfl call106 (pimpl_wordReader__next_ok _ aE r_ bp0 v1p hm1 ) ?_
  rintro aB aH aI w ⟨aC, rfl, hB⟩
  replace hm := aF _ _ hB; clear hB
  refine gAl hm zeroValue56 rfl fun aD w hm => gSN hm 0 sizeOf56 (one_cons rfl (one_cons rfl one_nil)) rfl fun w hm => gE (gS (gS (gR (gF fo_56_0 rfl (gL hm 0 isAgg3 rfl (gB rfl (gE (gJ hm (fun aA => [(3, (pV aD))]) (fun aA => [blk aD [(nV aB.1.kind), (.string ⟨(aB.1.text).b.toArray⟩)] 56, blk bp0 [aC, (.bool (aA))] 63, ow [aC] aB.2.list]) (fun aA => ?_) ?_))))))))
  ·
   refine gsd 8 rfl (fun aG => ?_) fun aG => ?_
   ·
    exact gct rfl (gR (gM rfl (gY (yG rfl (y_nilptr rfl rfl)) (gF fo_63_1 rfl (gS1 hm 1 sizeOf4 rfl rfl fun w hm => gE (gz hm [0, 1, 2] rfl))))))
   exact gcf rfl (gSk (gz hm [0, 1, 2] rfl))
  repeat clear hm
  intro aA w hm
  exact gS (gR (gF fo_56_1 rfl (gL hm 0 isAgg9 rfl (gA rfl (gE (gRt (gr1 results130 rfl ⟨aC, rfl, hm.pk [1, 2] rfl rfl⟩)))))))
theorem impl_signWord_ok (w0 : World) (s_ : Str) :
    ConM Tryz.prog 80 [(.string ⟨(s_).b.toArray⟩)] w0 (impl_signWord s_) fun r v w' => v = (.agg #[(nV r.kind), (.string ⟨(r.text).b.toArray⟩)]) ∧ Below w0.heap.size w0 w' := by
  unfold impl_signWord
  refine gcon func80 rfl fun r => ?_
  have hm := Mem.start w0
  exact gS (gR (gAl hm zeroValue56 rfl fun aA w hm => gE (gS (gR (gM rfl (gY (yG rfl (y_build (vs := [(0, (nV 3)), (1, (.string ⟨(s_).b.toArray⟩))]) (cs := #[(nV 3), (.string ⟨(s_).b.toArray⟩)]) rfl rfl (by kernel_rfl))) (gSN hm 0 sizeOf56 (one_cons rfl (one_cons rfl one_nil)) rfl fun w hm => gE (gRt (grc 0 results80 hm rfl isAgg56 sizeOf56 ⟨rfl, hm.below⟩)))))))))
theorem impl_NumberOf_ok (w0 : World) (w_ : Word_) :
    ConM Tryz.prog 159 [(.agg #[(nV w_.kind), (.string ⟨(w_.text).b.toArray⟩)])] w0 (impl_NumberOf w_) fun r v w' => v = (nV r) ∧ Below w0.heap.size w0 w' := by
  unfold impl_NumberOf
  refine gcon func159 rfl fun r => ?_
  have hm := Mem.start w0
  refine gS (gR (gBx hm rfl fun aB w hm => gA rfl (gE (gS (gS (gR (gF fo_56_0 rfl (gL hm 0 isAgg3 rfl (gB rfl (gE (gsd 5 rfl (fun aA => ?_) fun aA => ?_)))))))))))
  ·
   exact gct rfl (gS (gR (gA rfl (gE (gRt (gr1 results159 rfl ⟨rfl, hm.below⟩))))))
  exact gcf rfl (gSk (gS (gR (gF fo_56_1 rfl (gL hm 0 isAgg9 rfl (gC hm rfl call121 (impl_decimal_ok _ w_.text 255) fun aC aD w hm => gA rfl (gE (gRt (gr1 results159 rfl ⟨rfl, hm.below⟩)))))))))
end Go.Proofs.YtjccffpccjdmgaaGreatDoor
