/- A part of the proof of FnExactReadExprCardSaid. -/
import Derived.Test.YtjccffpccjdmgaaGreatDoorReModels
import Derived.Test.YtjccffpccjdmgaaGreatDoorChecked
import Derived.Test.YtjccffpccjdmgaaGreatDoorReLays
import Derived.Test.YtjccffpccjdmgaaGreatDoorWkAd
namespace Go.Proofs.YtjccffpccjdmgaaGreatDoor
open Go Go.Wk Go.RowKit
set_option maxRecDepth 4000
set_option maxHeartbeats 4000000
open Tryz
theorem mxo : Tryz.prog.follows .mixedOrders = true := by kernel_rfl
theorem fo_24_0 : FieldOff Tryz.prog 24 0 0 := by have h := FieldOff.mk (k := 0) underlying24 rfl sizeOf3; exact h
theorem fo_24_1 : FieldOff Tryz.prog 24 1 1 := by have h := FieldOff.mk (k := 1) underlying24 rfl sizeOf3; exact h
theorem fo_24_2 : FieldOff Tryz.prog 24 2 2 := by have h := FieldOff.mk (k := 2) underlying24 rfl sizeOf9; exact h
theorem fo_24_3 : FieldOff Tryz.prog 24 3 3 := by have h := FieldOff.mk (k := 3) underlying24 rfl sizeOf22; exact h
theorem fo_56_0 : FieldOff Tryz.prog 56 0 0 := by have h := FieldOff.mk (k := 0) underlying56 rfl sizeOf3; exact h
theorem fo_56_1 : FieldOff Tryz.prog 56 1 1 := by have h := FieldOff.mk (k := 1) underlying56 rfl sizeOf9; exact h
theorem fo_63_0 : FieldOff Tryz.prog 63 0 0 := by have h := FieldOff.mk (k := 0) underlying63 rfl sizeOf41; exact h
theorem fo_63_1 : FieldOff Tryz.prog 63 1 1 := by have h := FieldOff.mk (k := 1) underlying63 rfl sizeOf4; exact h
theorem fo_120_0 : FieldOff Tryz.prog 120 0 0 := by have h := FieldOff.mk (k := 0) underlying120 rfl sizeOf9; exact h
theorem fo_120_1 : FieldOff Tryz.prog 120 1 1 := by have h := FieldOff.mk (k := 1) underlying120 rfl sizeOf3; exact h
theorem st_22 : SliceTy Tryz.prog 22 24 4 := ⟨underlying22, sizeOf24⟩
theorem st_41 : SliceTy Tryz.prog 41 56 2 := ⟨underlying41, sizeOf56⟩
theorem st_74 : SliceTy Tryz.prog 74 9 1 := ⟨underlying74, sizeOf9⟩
theorem et_22 : ElemTy Tryz.prog 22 24 4 (.agg #[(.int .i64 (0)), (.int .i64 (0)), (.string ⟨((mkS [])).b.toArray⟩), (.slice none 0 0)]) := ⟨underlying22, ⟨_, (by kernel_rfl : Tryz.prog.info? 24 = some t24), rfl, by decide, rfl⟩, rfl, by decide⟩
theorem et_30 : ElemTy Tryz.prog 30 5 1 (.int .u8 (((0 : UInt8)).toNat : Int)) := ⟨underlying30, ⟨_, (by kernel_rfl : Tryz.prog.info? 5 = some t5), rfl, by decide, rfl⟩, rfl, by decide⟩
theorem et_41 : ElemTy Tryz.prog 41 56 2 (.agg #[(.int .i64 (0)), (.string ⟨((mkS [])).b.toArray⟩)]) := ⟨underlying41, ⟨_, (by kernel_rfl : Tryz.prog.info? 56 = some t56), rfl, by decide, rfl⟩, rfl, by decide⟩
theorem et_74 : ElemTy Tryz.prog 74 9 1 (.string ⟨((mkS [])).b.toArray⟩) := ⟨underlying74, ⟨_, (by kernel_rfl : Tryz.prog.info? 9 = some t9), rfl, by decide, rfl⟩, rfl, by decide⟩
theorem spec_l30Find_ok (w0 : World) (s_ : Str) (c_ : UInt8) :
    ConM Tryz.prog 153 [(.string ⟨(s_).b.toArray⟩), (.int .u8 ((c_).toNat : Int))] w0 (spec_l30Find s_ c_) fun r v w' => v = (nV r) ∧ Below w0.heap.size w0 w' := by
  unfold spec_l30Find
  refine gcon func153 rfl fun r => ?_
  have hm := Mem.start w0
  refine gS (gR (gA rfl (gE (gS (gS (gR (gA rfl (gE (gBk (gNf hm (fun aA aB => [(0, (.string ⟨(s_).b.toArray⟩)), (1, (.int .u8 ((c_).toNat : Int))), (5, (nV aA))]) (fun aA aB => []) [] rfl ?_ ?_))))))))))
  ·
   repeat clear hm
   intro aI aC aA aB w hm aJ aK aL aD
   refine gS (gS (gR (gM rfl (gM rfl (gY (yG rfl (y_len_str (p := s_) underlying9 rfl rfl)) ?_)))))
   have aM := (s_).h
   refine gB rfl (gE (go _ 9 rfl (decide_eq_true (by omega)) (gct rfl (gSk (gS (gBk (gS (gR (gM rfl (gM rfl (gg fun aE aF aG => gY (yG rfl (y_idx_str (p := s_) underlying9 rfl rfl rfl aF aG)) (gM rfl (gY (yG rfl (y_eql8 (b := aE) (c := c_) rfl rfl rfl)) (gE (gsd 16 rfl (fun aH => ?_) fun aH => ?_)))))))))))))))
   ·
    exact gct rfl (gS (gR (gM rfl (gA rfl (gE (gRt (gLr aD aC (gr1 results153 rfl ⟨rfl, hm.below⟩))))))))
   exact gcf rfl (gSk (gR (gM rfl (gP (by omega) (by omega) rfl (gA rfl (gE (gze hm [] rfl)))))))
  repeat clear hm
  intro aN aO w hm aP aQ
  refine gS (gS (gR (gM rfl (gM rfl (gY (yG rfl (y_len_str (p := s_) underlying9 rfl rfl)) ?_)))))
  have aR := (s_).h
  exact gB rfl (gE (go _ 9 rfl (decide_eq_false (by omega)) (gcf rfl (gXt (gHh (gS (gR (gA rfl (gE (gRt (gr1 results153 rfl ⟨rfl, hm.below⟩)))))))))))
theorem spec_l1Class_ok (w0 : World) (b_ : UInt8) :
    ConM Tryz.prog 99 [(.int .u8 ((b_).toNat : Int))] w0 (spec_l1Class b_) fun r v w' => v = (nV r) ∧ Below w0.heap.size w0 w' := by
  unfold spec_l1Class
  refine gcon func99 rfl fun r => ?_
  have hm := Mem.start w0
  refine gS (gR (gA rfl (gE (gS (gBk (gS (gJ hm (fun aA => [(0, (.int .u8 ((b_).toNat : Int))), (3, (.bool (aA)))]) (fun aA => []) (fun aA => ?_) ?_)))))))
  ·
   refine gR (gM rfl (gY (yG rfl (y_geq8 (b := b_) (c := (97 : UInt8)) rfl rfl rfl)) (gM rfl (gsd 6 rfl (fun aD => ?_) fun aD => ?_))))
   ·
    exact gM rfl (gY (yG rfl (y_leq8 (b := b_) (c := (122 : UInt8)) rfl rfl rfl)) (gKt rfl (gA rfl (gE (gz hm [] rfl)))))
   exact gO rfl (gO rfl (gKf rfl (gA rfl (gE (gz hm [] rfl)))))
  repeat clear hm
  intro aA w hm
  refine gs 3 rfl (fun aE => ?_) fun aE => ?_
  ·
   exact gct rfl (gS (gR (gA rfl (gE (gRt (gr1 results99 rfl ⟨rfl, hm.below⟩))))))
  refine gcf rfl (gS (gJ hm (fun aB => [(0, (.int .u8 ((b_).toNat : Int))), (10, (.bool (aB)))]) (fun aB => []) (fun aB => ?_) ?_))
  ·
   refine gR (gM rfl (gY (yG rfl (y_geq8 (b := b_) (c := (48 : UInt8)) rfl rfl rfl)) (gM rfl (gsd 13 rfl (fun aF => ?_) fun aF => ?_))))
   ·
    exact gM rfl (gY (yG rfl (y_leq8 (b := b_) (c := (57 : UInt8)) rfl rfl rfl)) (gKt rfl (gA rfl (gE (gz hm [] rfl)))))
   exact gO rfl (gO rfl (gKf rfl (gA rfl (gE (gz hm [] rfl)))))
  repeat clear hm
  intro aB w hm
  refine gs 10 rfl (fun aG => ?_) fun aG => ?_
  ·
   exact gct rfl (gS (gR (gA rfl (gE (gRt (gr1 results99 rfl ⟨rfl, hm.below⟩))))))
  refine gcf rfl (gS (gR (gM rfl (gC hm rfl call153 (spec_l30Find_ok _ (mkS [40, 41, 123, 125, 59, 44, 43, 45, 42, 47, 37, 60, 61, 38, 33, 64]) b_) fun aK aL w hm => gB rfl (gA rfl (gE (gsd 17 rfl (fun aH => ?_) fun aH => ?_)))))))
  ·
   exact gct rfl (gS (gR (gA rfl (gE (gRt (gr1 results99 rfl ⟨rfl, hm.below⟩))))))
  refine gcf rfl (gS (gJ hm (fun aC => [(21, (.bool (aC)))]) (fun aC => []) (fun aC => ?_) ?_))
  ·
   refine gR (gM rfl (gY (yG rfl (y_eql8 (b := b_) (c := (32 : UInt8)) rfl rfl rfl)) (gM rfl (gsd 24 rfl (fun aI => ?_) fun aI => ?_))))
   ·
    exact gO rfl (gO rfl (gKt rfl (gA rfl (gE (gz hm [] rfl)))))
   exact gM rfl (gY (yG rfl (y_eql8 (b := b_) (c := (10 : UInt8)) rfl rfl rfl)) (gKf rfl (gA rfl (gE (gz hm [] rfl)))))
  repeat clear hm
  intro aC w hm
  refine gs 21 rfl (fun aJ => ?_) fun aJ => ?_
  ·
   exact gct rfl (gS (gR (gA rfl (gE (gRt (gr1 results99 rfl ⟨rfl, hm.below⟩))))))
  exact gcf rfl (gSk (gS (gR (gA rfl (gE (gRt (gr1 results99 rfl ⟨rfl, hm.below⟩)))))))
theorem spec_KeyWords_ok (w0 : World) :
    ConM Tryz.prog 162 [] w0 (spec_KeyWords ) fun r v w' => ∃ (x1 : Value), v = x1 ∧ Mem w0 (hp w0) w' [ow [x1] r] := by
  unfold spec_KeyWords
  refine gcon func162 rfl fun r => ?_
  have hm := Mem.start w0
  refine gS (gR (gA rfl (gE (gS (gR (gf rfl (fun a hf => e_build (vs := #[(0, (.string ⟨((mkS [102, 110])).b.toArray⟩)), (1, (.string ⟨((mkS [108, 101, 116])).b.toArray⟩)), (2, (.string ⟨((mkS [115, 97, 121])).b.toArray⟩)), (3, (.string ⟨((mkS [112, 117, 116])).b.toArray⟩)), (4, (.string ⟨((mkS [105, 102])).b.toArray⟩)), (5, (.string ⟨((mkS [101, 108, 115, 101])).b.toArray⟩)), (6, (.string ⟨((mkS [108, 111, 111, 112])).b.toArray⟩)), (7, (.string ⟨((mkS [98, 97, 99, 107])).b.toArray⟩)), (8, (.string ⟨((mkS [100, 111])).b.toArray⟩))]) (cs := [(.string ⟨((mkS [102, 110])).b.toArray⟩), (.string ⟨((mkS [108, 101, 116])).b.toArray⟩), (.string ⟨((mkS [115, 97, 121])).b.toArray⟩), (.string ⟨((mkS [112, 117, 116])).b.toArray⟩), (.string ⟨((mkS [105, 102])).b.toArray⟩), (.string ⟨((mkS [101, 108, 115, 101])).b.toArray⟩), (.string ⟨((mkS [108, 111, 111, 112])).b.toArray⟩), (.string ⟨((mkS [98, 97, 99, 107])).b.toArray⟩), (.string ⟨((mkS [100, 111])).b.toArray⟩)]) et_74 hf hm rfl rfl (by kernel_rfl) rfl rfl) ?_))))))
  rintro _ w ⟨aA, rfl, hm⟩
  replace hm := hm.lit (xs := ([(mkS [102, 110]), (mkS [108, 101, 116]), (mkS [115, 97, 121]), (mkS [112, 117, 116]), (mkS [105, 102]), (mkS [101, 108, 115, 101]), (mkS [108, 111, 111, 112]), (mkS [98, 97, 99, 107]), (mkS [100, 111])] : List Str)) 0 rfl rfl rfl rfl
  exact gA rfl (gE (gRt (gr1 results162 rfl ⟨(sV aA 0 9 9), rfl, hm.pk [0] rfl rfl⟩)))
theorem spec_l1Key_ok (w0 : World) (s_ : Str) :
    ConM Tryz.prog 155 [(.string ⟨(s_).b.toArray⟩)] w0 (spec_l1Key s_) fun r v w' => v = (.bool (r)) ∧ Below w0.heap.size w0 w' := by
  unfold spec_l1Key
  refine gcon func155 rfl fun r => ?_
  have hm := Mem.start w0
  refine gS (gR (gA rfl (gE (gS (gR (gCg rfl call162 (spec_KeyWords_ok _ ) ?_))))))
  rintro aA aL aM w ⟨_, rfl, hB⟩
  replace hm := hm.give hB; clear hB
  refine gA rfl (gE (gS (gS (gR (gA rfl (gE ?_))))))
  obtain ⟨aD, aE, rfl, aN⟩ := ro_slice (hm.ow_rep 0 rfl)
  refine gBk (gNf hm (fun aB aF => [(0, (.string ⟨(s_).b.toArray⟩)), (3, (.slice aD aA.length aE)), (4, (nV aB))]) (fun aB aF => [ow [(.slice aD aA.length aE)] aA]) [0] rfl ?_ ?_)
  ·
   repeat clear hm
   intro aO aH aB aF w hm aP aQ aR aI
   refine gS (gS (gR (gM rfl (gM rfl (gY (yV st_74 rfl) (gB rfl (gE (go _ 9 rfl (decide_eq_true (by omega)) (gct rfl (gSk (gS (gBk (gS (gR (gM rfl (gM rfl (gg fun aG aJ aC => ?_)))))))))))))))))
   obtain ⟨aT, aU, aV, he⟩ := idx_form (hm.ow_rep 0 rfl) aC
   obtain ⟨rfl, _, rfl⟩ := sl3 he
   refine gI st_74 aJ (idx_lt aC) rfl (gY (yl isAgg9 ((flat_cells (cs := [(.string ⟨(aG).b.toArray⟩)]) (hm.ow_rep 0 rfl) aC rfl).cell (j := 0) rfl) rfl) (gM rfl (gY (yG rfl (y_eqls (p := aG) (q := s_) rfl rfl rfl)) (gE (gsd 17 rfl (fun aK => ?_) fun aK => ?_)))))
   ·
    exact gct rfl (gS (gR (gA rfl (gE (gRt (gLr aI aH (gr1 results155 rfl ⟨rfl, hm.below⟩)))))))
   exact gcf rfl (gSk (gR (gM rfl (gP (by omega) (by omega) rfl (gA rfl (gE (gze hm [0] rfl)))))))
  repeat clear hm
  intro aW aX w hm aY aZ
  exact gS (gS (gR (gM rfl (gM rfl (gY (yV st_74 rfl) (gB rfl (gE (go _ 9 rfl (decide_eq_false (by omega)) (gcf rfl (gXt (gHh (gS (gR (gA rfl (gE (gRt (gr1 results155 rfl ⟨rfl, hm.below⟩)))))))))))))))))
theorem spec_l1Word_ok (w0 : World) (s_ : Str) :
    ConM Tryz.prog 101 [(.string ⟨(s_).b.toArray⟩)] w0 (spec_l1Word s_) fun r v w' => v = (.agg #[(nV r.kind), (.string ⟨(r.text).b.toArray⟩)]) ∧ Below w0.heap.size w0 w' := by
  unfold spec_l1Word
  refine gcon func101 rfl fun r => ?_
  have hm := Mem.start w0
  refine gS (gR (gAl hm zeroValue56 rfl fun aB w hm => gE (gS (gR (gM rfl (gg fun aC aD aE => gY (yG rfl (y_idx_str (p := s_) underlying9 rfl rfl rfl aD aE)) (gC hm rfl call99 (spec_l1Class_ok _ aC) fun aG aH w hm => gA rfl (gE (gS (gS (gR (gM rfl (gC hm rfl call155 (spec_l1Key_ok _ s_) fun aI aJ w hm => gE (gJ hm (fun aA => [(0, (.string ⟨(s_).b.toArray⟩)), (2, (pV aB)), (3, (nV aA))]) (fun aA => [blk aB [(nV 0), (.string ⟨((mkS [])).b.toArray⟩)] 56]) (fun aA => ?_) ?_))))))))))))))
  ·
   refine gs 8 rfl (fun aF => ?_) fun aF => ?_
   ·
    exact gct rfl (gR (gA rfl (gE (gz hm [0] rfl))))
   exact gcf rfl (gSk (gz hm [0] rfl))
  repeat clear hm
  intro aA w hm
  exact gS (gR (gM rfl (gM rfl (gY (yG rfl (y_build (vs := [(0, (nV aA)), (1, (.string ⟨(s_).b.toArray⟩))]) (cs := #[(nV aA), (.string ⟨(s_).b.toArray⟩)]) rfl rfl (by kernel_rfl))) (gSN hm 0 sizeOf56 (one_cons rfl (one_cons rfl one_nil)) rfl fun w hm => gE (gRt (grc 0 results101 hm rfl isAgg56 sizeOf56 ⟨rfl, hm.below⟩)))))))
theorem spec_l1All_ok (w0 : World) (s_ : Str) (class_ : Int) :
    ConM Tryz.prog 160 [(.string ⟨(s_).b.toArray⟩), (nV class_)] w0 (spec_l1All s_ class_) fun r v w' => v = (.bool (r)) ∧ Below w0.heap.size w0 w' := by
  unfold spec_l1All
  refine gcon func160 rfl fun r => ?_
  have hm := Mem.start w0
  refine gS (gR (gA rfl (gE (gS (gS (gR (gA rfl (gE (gBk (gNf hm (fun aA aB => [(0, (.string ⟨(s_).b.toArray⟩)), (1, (nV class_)), (5, (nV aA))]) (fun aA aB => []) [] rfl ?_ ?_))))))))))
  ·
   repeat clear hm
   intro aI aC aA aB w hm aJ aK aL aD
   refine gS (gS (gR (gM rfl (gM rfl (gY (yG rfl (y_len_str (p := s_) underlying9 rfl rfl)) ?_)))))
   have aM := (s_).h
   refine gB rfl (gE (go _ 9 rfl (decide_eq_true (by omega)) (gct rfl (gSk (gS (gBk (gS (gR (gM rfl (gM rfl (gg fun aE aF aG => gY (yG rfl (y_idx_str (p := s_) underlying9 rfl rfl rfl aF aG)) (gC hm rfl call99 (spec_l1Class_ok _ aE) fun aN aO w hm => gM rfl (gB rfl (gE (gsd 17 rfl (fun aH => ?_) fun aH => ?_)))))))))))))))
   ·
    exact gct rfl (gS (gR (gA rfl (gE (gRt (gLr aD aC (gr1 results160 rfl ⟨rfl, hm.below⟩)))))))
   exact gcf rfl (gSk (gR (gM rfl (gP (by omega) (by omega) rfl (gA rfl (gE (gze hm [] rfl)))))))
  repeat clear hm
  intro aP aQ w hm aR aT
  refine gS (gS (gR (gM rfl (gM rfl (gY (yG rfl (y_len_str (p := s_) underlying9 rfl rfl)) ?_)))))
  have aU := (s_).h
  exact gB rfl (gE (go _ 9 rfl (decide_eq_false (by omega)) (gcf rfl (gXt (gHh (gS (gR (gM rfl (gY (yG rfl (y_len_str (p := s_) underlying9 rfl rfl)) (gB rfl (gA rfl (gE (gRt (gr1 results160 rfl ⟨rfl, hm.below⟩))))))))))))))
theorem spec_IsName_ok (w0 : World) (s_ : Str) :
    ConM Tryz.prog 113 [(.string ⟨(s_).b.toArray⟩)] w0 (spec_IsName s_) fun r v w' => v = (.bool (r)) ∧ Below w0.heap.size w0 w' := by
  unfold spec_IsName
  refine gcon func113 rfl fun r => ?_
  have hm := Mem.start w0
  refine gS (gR (gA rfl (gE (gS (gJ hm (fun aA => [(2, (.bool (aA)))]) (fun aA => []) (fun aA => ?_) ?_)))))
  ·
   refine gR (gM rfl (gC hm rfl call160 (spec_l1All_ok _ s_ 1) fun aD aE w hm => gM rfl (gs 5 rfl (fun aB => ?_) fun aB => ?_)))
   ·
    refine gM rfl (gY (yG rfl (y_len_str (p := s_) underlying9 rfl rfl)) ?_)
    have aF := (s_).h
    refine gB rfl (gKt rfl (gM rfl (gsd 10 rfl (fun aC => ?_) fun aC => ?_)))
    ·
     exact gM rfl (gC hm rfl call155 (spec_l1Key_ok _ s_) fun aG aH w hm => gN rfl (gKt rfl (gA rfl (gE (gz hm [] rfl)))))
    exact gO rfl (gO rfl (gO rfl (gKf rfl (gA rfl (gE (gz hm [] rfl))))))
   exact gO rfl (gO rfl (gO rfl (gKf rfl (gM rfl (gO rfl (gO rfl (gO rfl (gKf rfl (gA rfl (gE (gz hm [] rfl)))))))))))
  repeat clear hm
  intro aA w hm
  exact gRt (gr1 results113 rfl ⟨rfl, hm.below⟩)
theorem spec_l30Num_ok (w0 : World) (s_ : Str) :
    ConM Tryz.prog 154 [(.string ⟨(s_).b.toArray⟩)] w0 (spec_l30Num s_) fun r v w' => v = (.tuple #[(nV r.1), (.bool (r.2))]) ∧ Below w0.heap.size w0 w' := by
  unfold spec_l30Num
  refine gcon func154 rfl fun r => ?_
  have hm := Mem.start w0
  refine gS (gR (gA rfl (gA rfl (gE (gS (gJ hm (fun aB => [(0, (.string ⟨(s_).b.toArray⟩)), (4, (.bool (aB)))]) (fun aB => []) (fun aB => ?_) ?_))))))
  ·
   refine gR (gM rfl (gY (yG rfl (y_len_str (p := s_) underlying9 rfl rfl)) ?_))
   have al := (s_).h
   refine gB rfl (gM rfl (gsd 10 rfl (fun aI => ?_) fun aI => ?_))
   ·
    exact gM rfl (gg fun aJ aK aL => gY (yG rfl (y_idx_str (p := s_) underlying9 rfl rfl rfl aK aL)) (gY (yG rfl (y_eql8 (b := aJ) (c := (45 : UInt8)) rfl rfl rfl)) (gKt rfl (gA rfl (gE (gz hm [] rfl))))))
   exact gO rfl (gO rfl (gO rfl (gKf rfl (gA rfl (gE (gz hm [] rfl))))))
  repeat clear hm
  intro aB w hm
  refine gS (gS (gR (gM rfl (gE (gJ hm (fun aA => [(0, (.string ⟨(aA).b.toArray⟩)), (4, (.bool (aB)))]) (fun aA => []) (fun aA => ?_) ?_)))))
  ·
   refine gs 15 rfl (fun aM => ?_) fun aM => ?_
   ·
    refine gct rfl (gR (gM rfl (gb fun am aN => ?_)))
    obtain ⟨aO, aP⟩ := subS_some.1 aN
    refine gY (yG rfl (y_subsL (s := s_) underlying9 rfl rfl rfl aO _)) ?_
    rw [aP]
    exact gA rfl (gE (gz hm [] rfl))
   exact gcf rfl (gSk (gz hm [] rfl))
  repeat clear hm
  intro aA w hm
  refine gS (gS (gJ hm (fun aC => [(0, (.string ⟨(aA).b.toArray⟩)), (4, (.bool (aB))), (38, (.bool (aC)))]) (fun aC => []) (fun aC => ?_) ?_))
  ·
   refine gR (gM rfl (gY (yG rfl (y_len_str (p := aA) underlying9 rfl rfl)) ?_))
   have an := (aA).h
   refine gB rfl (gM rfl (gsd 21 rfl (fun aQ => ?_) fun aQ => ?_))
   ·
    exact gO rfl (gO rfl (gO rfl (gKt rfl (gM rfl (gO rfl (gO rfl (gO rfl (gO rfl (gO rfl (gO rfl (gO rfl (gO rfl (gO rfl (gO rfl (gO rfl (gKt rfl (gE (gz hm [] rfl))))))))))))))))))
   refine gM rfl (gY (yG rfl (y_len_str (p := aA) underlying9 rfl rfl)) (gB rfl (gKf rfl (gM rfl (gsd 26 rfl (fun aR => ?_) fun aR => ?_)))))
   ·
    exact gO rfl (gO rfl (gO rfl (gO rfl (gO rfl (gO rfl (gO rfl (gO rfl (gO rfl (gO rfl (gO rfl (gKt rfl (gE (gz hm [] rfl)))))))))))))
   refine gM rfl (gg fun aT aU aV => gY (yG rfl (y_idx_str (p := aA) underlying9 rfl rfl rfl aU aV)) (gY (yG rfl (y_eql8 (b := aT) (c := (48 : UInt8)) rfl rfl rfl)) (gM rfl (gsd 30 rfl (fun aW => ?_) fun aW => ?_))))
   ·
    refine gM rfl (gY (yG rfl (y_len_str (p := aA) underlying9 rfl rfl)) (gB rfl (gM rfl (gsd 34 rfl (fun aX => ?_) fun aX => ?_))))
    ·
     exact gO rfl (gKt rfl (gKt rfl (gKf rfl (gE (gz hm [] rfl)))))
    exact gM rfl (gKf rfl (gKt rfl (gKf rfl (gE (gz hm [] rfl)))))
   exact gO rfl (gO rfl (gO rfl (gO rfl (gO rfl (gO rfl (gKf rfl (gKf rfl (gE (gz hm [] rfl)))))))))
  repeat clear hm
  intro aC w hm
  refine gs 38 rfl (fun aY => ?_) fun aY => ?_
  ·
   exact gct rfl (gS (gR (gA rfl (gA rfl (gE (gRt (gr2 results154 rfl ⟨rfl, hm.below⟩)))))))
  refine gcf rfl (gSk (gS (gR (gA rfl (gE (gS (gS (gR (gA rfl (gE (gBk (gNf hm (fun aD aE => [(0, (.string ⟨(aA).b.toArray⟩)), (4, (.bool (aB))), (5, (nV aE)), (6, (nV aD))]) (fun aD aE => []) [] rfl ?_ ?_))))))))))))
  ·
   repeat clear hm
   intro ao aZ aD aE w hm ap aq ar a7
   refine gS (gS (gR (gM rfl (gM rfl (gY (yG rfl (y_len_str (p := aA) underlying9 rfl rfl)) ?_)))))
   have au := (aA).h
   refine gB rfl (gE (go _ 42 rfl (decide_eq_true (by omega)) (gct rfl (gSk (gS (gBk (gS (gS (gJ hm (fun aF => [(0, (.string ⟨(aA).b.toArray⟩)), (4, (.bool (aB))), (5, (nV aE)), (6, (nV aD)), (54, (.bool (aF)))]) (fun aF => []) (fun aF => ?_) ?_)))))))))
   ·
    refine gR (gM rfl (gM rfl (gg fun a8 aa ab => gY (yG rfl (y_idx_str (p := aA) underlying9 rfl rfl rfl aa ab)) (gY (yG rfl (y_lss8 (b := a8) (c := (48 : UInt8)) rfl rfl rfl)) (gM rfl (gsd 49 rfl (fun ac => ?_) fun ac => ?_))))))
    ·
     exact gO rfl (gO rfl (gO rfl (gO rfl (gKt rfl (gE (gz hm [] rfl))))))
    exact gM rfl (gM rfl (gg fun ae af ag => gY (yG rfl (y_idx_str (p := aA) underlying9 rfl rfl rfl af ag)) (gY (yG rfl (y_gtr8 (b := ae) (c := (57 : UInt8)) rfl rfl rfl)) (gKf rfl (gE (gz hm [] rfl))))))
   repeat clear hm
   intro aF w hm
   refine gs 54 rfl (fun ah => ?_) fun ah => ?_
   ·
    exact gct rfl (gS (gR (gA rfl (gA rfl (gE (gRt (gLr a7 aZ (gr2 results154 rfl ⟨rfl, hm.below⟩))))))))
   refine gcf rfl (gSk (gR (gM rfl (gB rfl (gM rfl (gM rfl (gg fun aH ai aj => gY (yG rfl (y_idx_str (p := aA) underlying9 rfl rfl rfl ai aj)) (gY (yG rfl (y_sub8 (b := aH) (c := (48 : UInt8)) rfl rfl rfl)) (gY (yG rfl (y_conv64 (b := (aH - (48 : UInt8))) underlying5 underlying3 rfl rfl)) ?_)))))))))
   have av := UInt8.toNat_lt ((aH - (48 : UInt8)))
   exact gB rfl (gA rfl (gE (gR (gM rfl (gP (by omega) (by omega) rfl (gA rfl (gE (gze hm [] rfl))))))))
  repeat clear hm
  intro aw ax w hm ay az
  refine gS (gS (gR (gM rfl (gM rfl (gY (yG rfl (y_len_str (p := aA) underlying9 rfl rfl)) ?_)))))
  have bA := (aA).h
  refine gB rfl (gE (go _ 42 rfl (decide_eq_false (by omega)) (gcf rfl (gXt (gHh (gS (gS (gR (gM rfl (gE (gJ hm (fun aG => [(5, (nV aG))]) (fun aG => []) (fun aG => ?_) ?_)))))))))))
  ·
   refine gs 63 rfl (fun ak => ?_) fun ak => ?_
   ·
    exact gct rfl (gR (gM rfl (gY (yG rfl (y_neg rfl rfl)) (gA rfl (gE (gz hm [] rfl))))))
   exact gcf rfl (gSk (gz hm [] rfl))
  repeat clear hm
  intro aG w hm
  exact gS (gR (gM rfl (gA rfl (gA rfl (gE (gRt (gr2 results154 rfl ⟨rfl, hm.below⟩)))))))
theorem spec_l1In_ok (w0 : World) (n_ : Int) (low : Int) (high : Int) :
    ConM Tryz.prog 112 [(nV n_), (nV low), (nV high)] w0 (spec_l1In n_ low high) fun r v w' => v = (.bool (r)) ∧ Below w0.heap.size w0 w' := by
  unfold spec_l1In
  refine gcon func112 rfl fun r => ?_
  have hm := Mem.start w0
  refine gS (gR (gA rfl (gE (gS (gJ hm (fun aA => [(6, (.bool (aA)))]) (fun aA => []) (fun aA => ?_) ?_)))))
  ·
   refine gR (gM rfl (gM rfl (gB rfl (gM rfl (gsd 10 rfl (fun aB => ?_) fun aB => ?_)))))
   ·
    exact gM rfl (gM rfl (gB rfl (gKt rfl (gA rfl (gE (gz hm [] rfl))))))
   exact gO rfl (gO rfl (gO rfl (gKf rfl (gA rfl (gE (gz hm [] rfl))))))
  repeat clear hm
  intro aA w hm
  exact gRt (gr1 results112 rfl ⟨rfl, hm.below⟩)
theorem spec_WordValid_ok (w0 : World) (w_ : Word_) :
    ConM Tryz.prog 100 [(.agg #[(nV w_.kind), (.string ⟨(w_.text).b.toArray⟩)])] w0 (spec_WordValid w_) fun r v w' => v = (.bool (r)) ∧ Below w0.heap.size w0 w' := by
  unfold spec_WordValid
  refine gcon func100 rfl fun r => ?_
  have hm := Mem.start w0
  refine gS (gR (gBx hm rfl fun aM w hm => gA rfl (gE (gS (gS (gR (gF fo_56_0 rfl (gL hm 0 isAgg3 rfl (gE (gBk (gS (gR (gB rfl (gA rfl (gE (gsd 7 rfl (fun aC => ?_) fun aC => ?_))))))))))))))))
  ·
   exact gct rfl (gS (gR (gF fo_56_1 rfl (gL hm 0 isAgg9 rfl (gC hm rfl call113 (spec_IsName_ok _ w_.text) fun aN aO w hm => gA rfl (gE (gRt (gr1 results100 rfl ⟨rfl, hm.below⟩))))))))
  refine gcf rfl (gS (gR (gB rfl (gA rfl (gE (gsd 12 rfl (fun aD => ?_) fun aD => ?_))))))
  ·
   refine gct rfl (gS (gR (gF fo_56_1 rfl (gL hm 0 isAgg9 rfl (gC hm rfl call154 (spec_l30Num_ok _ w_.text) fun aE aP w hm => gM rfl (gX rfl (gX rfl (gA rfl (gA rfl (gE (gS (gJ hm (fun aA => [(2, (.bool (aA)))]) (fun aA => []) (fun aA => ?_) ?_))))))))))))
   ·
    refine gR (gM rfl (gM rfl (gs 21 rfl (fun aF => ?_) fun aF => ?_)))
    ·
     exact gM rfl (gC hm rfl call112 (spec_l1In_ok _ aE.1 0 255) fun aQ aR w hm => gKt rfl (gA rfl (gE (gz hm [] rfl))))
    exact gO rfl (gO rfl (gKf rfl (gA rfl (gE (gz hm [] rfl)))))
   repeat clear hm
   intro aA w hm
   exact gRt (gr1 results100 rfl ⟨rfl, hm.below⟩)
  refine gcf rfl (gS (gR (gB rfl (gA rfl (gE (gsd 25 rfl (fun aG => ?_) fun aG => ?_))))))
  ·
   refine gct rfl (gS (gJ hm (fun aB => [(2, (.bool (aB)))]) (fun aB => []) (fun aB => ?_) ?_))
   ·
    refine gR (gF fo_56_1 rfl (gL hm 0 isAgg9 rfl (gY (yG rfl (y_len_str (p := w_.text) underlying9 rfl rfl)) ?_)))
    have aT := (w_.text).h
    refine gB rfl (gM rfl (gsd 31 rfl (fun aH => ?_) fun aH => ?_))
    ·
     exact gF fo_56_1 rfl (gL hm 0 isAgg9 rfl (gg fun aI aJ aK => gY (yG rfl (y_idx_str (p := w_.text) underlying9 rfl rfl rfl aJ aK)) (gC hm rfl call99 (spec_l1Class_ok _ aI) fun aU aV w hm => gB rfl (gKt rfl (gA rfl (gE (gz hm [] rfl)))))))
    exact gO rfl (gO rfl (gO rfl (gO rfl (gO rfl (gKf rfl (gA rfl (gE (gz hm [] rfl))))))))
   repeat clear hm
   intro aB w hm
   exact gRt (gr1 results100 rfl ⟨rfl, hm.below⟩)
  refine gcf rfl (gS (gR (gB rfl (gA rfl (gE (gsd 38 rfl (fun aL => ?_) fun aL => ?_))))))
  ·
   exact gct rfl (gS (gR (gF fo_56_1 rfl (gL hm 0 isAgg9 rfl (gC hm rfl call155 (spec_l1Key_ok _ w_.text) fun aW aX w hm => gA rfl (gE (gRt (gr1 results100 rfl ⟨rfl, hm.below⟩))))))))
  exact gcf rfl (gSk (gS (gR (gA rfl (gE (gRt (gr1 results100 rfl ⟨rfl, hm.below⟩)))))))
theorem spec_CutWords_ok (w0 : World) (s_ : Str) :
    ConM Tryz.prog 44 [(.string ⟨(s_).b.toArray⟩)] w0 (spec_CutWords s_) fun r v w' => ∃ (x1 : Value), v = (.tuple #[x1, (.bool (r.2))]) ∧ Mem w0 (hp w0) w' [ow [x1] r.1] := by
  unfold spec_CutWords
  refine gcon func44 rfl fun r => ?_
  have hm := Mem.start w0
  refine gS (gR (gA rfl (gA rfl (gE (gS (gR (gf rfl (fun a hf => e_build0 (α := Word_) et_41 hm rfl) ?_)))))))
  rintro bF w hm
  refine gA rfl (gE (gS (gS (gR (gA rfl (gE ?_))))))
  obtain ⟨aT, aU, rfl, bG⟩ := ro_slice (hm.ow_rep 0 rfl)
  refine gJge (fun aN a w => ∃ (aD : Value), St 75 [(0, (.string ⟨(s_).b.toArray⟩)), (4, aD)] w0 (hp w0) [ow [aD] aN] a w) (fun bH aV => ?_) ?_
  ·
   refine gBk (gMg (fun aA a w => ∃ (aE : Value), St 75 [(0, (.string ⟨(s_).b.toArray⟩)), (4, aE), (5, (nV aA.2))] w0 (hp w0) [ow [aE] aA.1] a w) (fun a hf => ⟨(.slice aT ([] : List Word_).length aU), hf.sb rfl, hm.pk [0] rfl rfl⟩) ?_)
   repeat clear hm
   rintro bJ aP aA a w ⟨aE, hf, hm⟩ bK aQ
   refine gv hf (gS (gS (gJ hm (fun aH => [(0, (.string ⟨(s_).b.toArray⟩)), (4, aE), (5, (nV aA.2)), (17, (.bool (aH)))]) (fun aH => [ow [aE] aA.1]) (fun aH => ?_) ?_)))
   ·
    refine gR (gM rfl (gM rfl (gY (yG rfl (y_len_str (p := s_) underlying9 rfl rfl)) ?_)))
    have bL := (s_).h
    refine gB rfl (gM rfl (gsd 13 rfl (fun aW => ?_) fun aW => ?_))
    ·
     exact gM rfl (gY (yG rfl (y_len_str (p := s_) underlying9 rfl rfl)) (gB rfl (gKt rfl (gE (gz hm [0] rfl)))))
    exact gO rfl (gO rfl (gO rfl (gKf rfl (gE (gz hm [0] rfl)))))
   repeat clear hm
   intro aH w hm
   refine gs 17 rfl (fun aX => ?_) fun aX => ?_
   ·
    refine gct rfl (gSk (gBk (gS (gR (gM rfl (gM rfl (gg fun aY aZ a7 => gY (yG rfl (y_idx_str (p := s_) underlying9 rfl rfl rfl aZ a7)) (gC hm rfl call99 (spec_l1Class_ok _ aY) fun aO bM w hm => gA rfl (gE (gS (gR (gM rfl (gB rfl (gA rfl (gE (gS ?_))))))))))))))))
    obtain ⟨aB, aC, rfl, bN⟩ := ro_slice (hm.ow_rep 0 rfl)
    refine gJ hm (fun aF => [(0, (.string ⟨(s_).b.toArray⟩)), (4, (.slice aB aA.1.length aC)), (5, (nV aA.2)), (6, (nV aO)), (7, (nV aF))]) (fun aF => [ow [(.slice aB aA.1.length aC)] aA.1]) (fun aF => ?_) ?_
    ·
     refine gBk (gMf hm (fun aI => [(0, (.string ⟨(s_).b.toArray⟩)), (4, (.slice aB aA.1.length aC)), (5, (nV aA.2)), (6, (nV aO)), (7, (nV aI))]) (fun aI => [ow [(.slice aB aA.1.length aC)] aA.1]) [0] rfl ?_)
     repeat clear hm
     intro bO a8 aI w hm bP aa
     refine gS (gS (gJ hm (fun aJ => [(0, (.string ⟨(s_).b.toArray⟩)), (4, (.slice aB aA.1.length aC)), (5, (nV aA.2)), (6, (nV aO)), (7, (nV aI)), (39, (.bool (aJ)))]) (fun aJ => [ow [(.slice aB aA.1.length aC)] aA.1]) (fun aJ => ?_) ?_))
     ·
      refine gR (gM rfl (gM rfl (gY (yG rfl (y_len_str (p := s_) underlying9 rfl rfl)) ?_)))
      have bQ := (s_).h
      refine gB rfl (gM rfl (gsd 28 rfl (fun ab => ?_) fun ab => ?_))
      ·
       refine gM rfl (gM rfl (gg fun ac ae af => gY (yG rfl (y_idx_str (p := s_) underlying9 rfl rfl rfl ae af)) (gC hm rfl call99 (spec_l1Class_ok _ ac) fun bR bS w hm => gM rfl (gB rfl (gKt rfl (gM rfl (gsd 36 rfl (fun ag => ?_) fun ag => ?_)))))))
       ·
        exact gM rfl (gB rfl (gKt rfl (gE (gz hm [0] rfl))))
       exact gO rfl (gO rfl (gKf rfl (gE (gz hm [0] rfl))))
      exact gO rfl (gO rfl (gO rfl (gO rfl (gO rfl (gO rfl (gKf rfl (gM rfl (gO rfl (gO rfl (gKf rfl (gE (gz hm [0] rfl))))))))))))
     repeat clear hm
     intro aJ w hm
     refine gs 39 rfl (fun ah => ?_) fun ah => ?_
     ·
      exact gct rfl (gSk (gBk (gR (gM rfl (gB rfl (gA rfl (gE (gze hm [0] rfl))))))))
     exact gcf rfl (gXt (gHh (gLp aa a8 (gz hm [0] rfl))))
    repeat clear hm
    intro aF w hm
    refine gS (gS (gR (gM rfl (gB rfl (gE (gJge (fun aR a w => ∃ (aK : Value), St 75 [(0, (.string ⟨(s_).b.toArray⟩)), (4, aK), (7, (nV aF))] w0 (hp w0) [ow [aK] aR] a w) (fun bT ai => ?_) ?_))))))
    ·
     refine gsd 43 rfl (fun aj => ?_) fun aj => ?_
     ·
      refine gct rfl (gS (gS (gJ hm (fun aL => [(0, (.string ⟨(s_).b.toArray⟩)), (4, (.slice aB aA.1.length aC)), (5, (nV aA.2)), (7, (nV aF)), (54, (.bool (aL)))]) (fun aL => [ow [(.slice aB aA.1.length aC)] aA.1]) (fun aL => ?_) ?_)))
      ·
       refine gR (gM rfl (gB rfl (gM rfl (gsd 46 rfl (fun ak => ?_) fun ak => ?_))))
       ·
        exact gO rfl (gO rfl (gO rfl (gO rfl (gO rfl (gO rfl (gO rfl (gKt rfl (gE (gz hm [0] rfl)))))))))
       refine gM rfl (gM rfl (gM rfl (gb fun al am => ?_)))
       obtain ⟨an, ao⟩ := subS_some.1 am
       refine gY (yG rfl (y_subs (s := s_) underlying9 rfl rfl rfl rfl an _)) ?_
       rw [ao]
       exact gC hm rfl call101 (spec_l1Word_ok _ al) fun ap bU w hm => gC hm rfl call100 (spec_WordValid_ok _ ap) fun bV bW w hm => gN rfl (gKf rfl (gE (gz hm [0] rfl)))
      repeat clear hm
      intro aL w hm
      refine gs 54 rfl (fun aq => ?_) fun aq => ?_
      ·
       refine gct rfl (gS (gR (gf rfl (fun a hf => e_build0 (α := Word_) et_41 hm rfl) ?_)))
       rintro ar w hm
       exact gA rfl (gA rfl (gE (gRt (gEr ai (gLp aQ aP (gl (gEr aV (gr2 results44 rfl ⟨ar, rfl, hm.pk [0] rfl rfl⟩))))))))
      refine gcf rfl (gSk (gR (gM rfl (gM rfl (gM rfl (gM rfl (gb fun au av => ?_)))))))
      obtain ⟨aw, ax⟩ := subS_some.1 av
      refine gY (yG rfl (y_subs (s := s_) underlying9 rfl rfl rfl rfl aw _)) ?_
      rw [ax]
      refine gC hm rfl call101 (spec_l1Word_ok _ au) fun aG bX w hm => gf rfl (fun a hf => e_build (vs := #[(0, (.agg #[(nV aG.kind), (.string ⟨(aG.text).b.toArray⟩)]))]) (cs := [(nV aG.kind), (.string ⟨(aG.text).b.toArray⟩)]) et_41 hf hm rfl rfl (by kernel_rfl) rfl rfl) ?_
      rintro _ w ⟨bY, rfl, hm⟩
      replace hm := hm.lit (xs := ([aG] : List Word_)) 0 rfl rfl rfl rfl
      refine gb fun bZ ay => ?_
      obtain ⟨az, bA⟩ := appM_some.1 ay
      refine gf rfl (fun a hf => e_append 1 et_41 hf hm rfl (hm.ow_rep 0 rfl) rfl rfl rfl az) ?_
      rintro bB w hm
      rw [bA] at hm
      exact gA rfl (gE (gZe fun a hf => ⟨bB, hf.sb rfl, hm.pk [1] rfl rfl⟩))
     exact gcf rfl (gSk (gZe fun a hf => ⟨(.slice aB aA.1.length aC), hf.sb rfl, hm.pk [0] rfl rfl⟩))
    repeat clear hm
    rintro aR a w ⟨aK, hf, hm⟩
    exact gv hf (gR (gM rfl (gA rfl (gE (gZe fun a hf => ⟨aK, hf.sb rfl, hm.pk [0] rfl rfl⟩)))))
   exact gcf rfl (gXt (gHh (gLp aQ aP (gr (gZe fun a hf => ⟨aE, hf.sb rfl, hm.pk [0] rfl rfl⟩)))))
  repeat clear hm
  rintro aN a w ⟨aD, hf, hm⟩
  refine gv hf (gS (gS (gJ hm (fun aM => [(4, aD), (72, (.bool (aM)))]) (fun aM => [ow [aD] aN]) (fun aM => ?_) ?_)))
  ·
   refine gR (gM rfl (gY (yG rfl (y_len_str (p := s_) underlying9 rfl rfl)) ?_))
   have b4 := (s_).h
   refine gB rfl (gM rfl (gsd 68 rfl (fun bC => ?_) fun bC => ?_))
   ·
    exact gO rfl (gO rfl (gO rfl (gKt rfl (gE (gz hm [0] rfl)))))
   refine gM rfl ?_
   obtain ⟨b5, b6, rfl, b7⟩ := ro_slice (hm.ow_rep 0 rfl)
   exact gY (yV st_41 rfl) (gB rfl (gKf rfl (gE (gz hm [0] rfl))))
  repeat clear hm
  intro aM w hm
  refine gs 72 rfl (fun bD => ?_) fun bD => ?_
  ·
   refine gct rfl (gS (gR (gf rfl (fun a hf => e_build0 (α := Word_) et_41 hm rfl) ?_)))
   rintro bE w hm
   exact gA rfl (gA rfl (gE (gRt (gr2 results44 rfl ⟨bE, rfl, hm.pk [0] rfl rfl⟩))))
  exact gcf rfl (gSk (gS (gR (gM rfl (gA rfl (gA rfl (gE (gRt (gr2 results44 rfl ⟨aD, rfl, hm.pk [0] rfl rfl⟩)))))))))
theorem spec_l2Level_ok (w0 : World) (op : Int) :
    ConM Tryz.prog 115 [(nV op)] w0 (spec_l2Level op) fun r v w' => v = (nV r) ∧ Below w0.heap.size w0 w' := by
  unfold spec_l2Level
  refine gcon func115 rfl fun r => ?_
  have hm := Mem.start w0
  refine gS (gR (gA rfl (gE (gS (gS (gR (gM rfl (gE (gBk (gS (gR (gB rfl (gA rfl (gE (gsd 4 rfl (fun aF => ?_) fun aF => ?_)))))))))))))))
  ·
   exact gct rfl (gS (gR (gA rfl (gE (gRt (gr1 results115 rfl ⟨rfl, hm.below⟩))))))
  refine gcf rfl (gS (gS (gR (gB rfl (gA rfl (gE (gJ hm (fun aA => [(3, (nV op)), (6, (.bool (aA)))]) (fun aA => []) (fun aA => ?_) ?_)))))))
  ·
   refine gsd 6 rfl (fun aG => ?_) fun aG => ?_
   ·
    exact gct rfl (gSk (gz hm [] rfl))
   exact gcf rfl (gR (gB rfl (gA rfl (gE (gz hm [] rfl)))))
  repeat clear hm
  intro aA w hm
  refine gs 6 rfl (fun aH => ?_) fun aH => ?_
  ·
   exact gct rfl (gS (gR (gA rfl (gE (gRt (gr1 results115 rfl ⟨rfl, hm.below⟩))))))
  refine gcf rfl (gS (gS (gR (gB rfl (gA rfl (gE (gJ hm (fun aB => [(3, (nV op)), (9, (.bool (aB)))]) (fun aB => []) (fun aB => ?_) ?_)))))))
  ·
   refine gsd 9 rfl (fun aI => ?_) fun aI => ?_
   ·
    exact gct rfl (gSk (gz hm [] rfl))
   exact gcf rfl (gR (gB rfl (gA rfl (gE (gz hm [] rfl)))))
  repeat clear hm
  intro aB w hm
  refine gs 9 rfl (fun aJ => ?_) fun aJ => ?_
  ·
   exact gct rfl (gS (gR (gA rfl (gE (gRt (gr1 results115 rfl ⟨rfl, hm.below⟩))))))
  refine gcf rfl (gS (gS (gR (gB rfl (gA rfl (gE (gJ hm (fun aC => [(3, (nV op)), (12, (.bool (aC)))]) (fun aC => []) (fun aC => ?_) ?_)))))))
  ·
   refine gsd 12 rfl (fun aK => ?_) fun aK => ?_
   ·
    exact gct rfl (gSk (gz hm [] rfl))
   refine gcf rfl (gS (gR (gB rfl (gA rfl (gE (gJ hm (fun aD => [(3, (nV op)), (12, (.bool (aD)))]) (fun aD => []) (fun aD => ?_) ?_))))))
   ·
    refine gsd 12 rfl (fun aL => ?_) fun aL => ?_
    ·
     exact gct rfl (gSk (gz hm [] rfl))
    exact gcf rfl (gR (gB rfl (gA rfl (gE (gz hm [] rfl)))))
   repeat clear hm
   intro aD w hm
   exact gz hm [] rfl
  repeat clear hm
  intro aC w hm
  refine gs 12 rfl (fun aM => ?_) fun aM => ?_
  ·
   exact gct rfl (gS (gR (gA rfl (gE (gRt (gr1 results115 rfl ⟨rfl, hm.below⟩))))))
  refine gcf rfl (gS (gS (gR (gB rfl (gA rfl (gE (gJ hm (fun aE => [(16, (.bool (aE)))]) (fun aE => []) (fun aE => ?_) ?_)))))))
  ·
   refine gsd 16 rfl (fun aN => ?_) fun aN => ?_
   ·
    exact gct rfl (gSk (gz hm [] rfl))
   exact gcf rfl (gR (gB rfl (gA rfl (gE (gz hm [] rfl)))))
  repeat clear hm
  intro aE w hm
  refine gs 16 rfl (fun aO => ?_) fun aO => ?_
  ·
   exact gct rfl (gS (gR (gA rfl (gE (gRt (gr1 results115 rfl ⟨rfl, hm.below⟩))))))
  exact gcf rfl (gSk (gS (gR (gA rfl (gE (gRt (gr1 results115 rfl ⟨rfl, hm.below⟩)))))))
theorem spec_l2Sign_ok (w0 : World) (op : Int) :
    ConM Tryz.prog 117 [(nV op)] w0 (spec_l2Sign op) fun r v w' => v = (.string ⟨(r).b.toArray⟩) ∧ Below w0.heap.size w0 w' := by
  unfold spec_l2Sign
  refine gcon func117 rfl fun r => ?_
  have hm := Mem.start w0
  refine gS (gR (gA rfl (gE (gS (gS (gR (gM rfl (gC hm rfl call112 (spec_l1In_ok _ op 3 12) fun aE aF w hm => gN rfl (gE (gsn 6 rfl (fun aA => ?_) fun aA => ?_))))))))))
  ·
   exact gct rfl (gS (gR (gA rfl (gE (gRt (gr1 results117 rfl ⟨rfl, hm.below⟩))))))
  refine gcf rfl (gSk (gS (gR (gM rfl (gB rfl (gA rfl (gE (gS (gR (gM rfl (gM rfl (gB rfl (gb fun aG aB => ?_)))))))))))))
  obtain ⟨aC, aD⟩ := subS_some.1 aB
  refine gY (yG rfl (y_subs (s := (mkS [43, 45, 42, 47, 37, 60, 61, 38, 33, 64])) underlying9 rfl rfl rfl rfl aC _)) ?_
  rw [aD]
  exact gA rfl (gE (gRt (gr1 results117 rfl ⟨rfl, hm.below⟩)))
theorem spec_l2Is_ok (w0 : World) (list : List Word_) (v1 : Value) (h1 : GT.rep (hp w0) [v1] list) (at_ : Int) (text : Str) :
    ConM Tryz.prog 156 [v1, (nV at_), (.string ⟨(text).b.toArray⟩)] w0 (spec_l2Is list at_ text) fun r v w' => v = (.bool (r)) ∧ Below w0.heap.size w0 w' := by
  unfold spec_l2Is
  refine gcon func156 rfl fun r => ?_
  have hm := Mem.start w0
  refine gS (gR (gA rfl (gE (gS (gJ hm (fun aA => [(6, (.bool (aA)))]) (fun aA => []) (fun aA => ?_) ?_)))))
  ·
   refine gR (gM rfl (gM rfl ?_))
   obtain ⟨aF, aG, rfl, aH⟩ := ro_slice h1
   refine gY (yV st_41 rfl) (gB rfl (gM rfl (gsd 11 rfl (fun aD => ?_) fun aD => ?_)))
   ·
    refine gM rfl (gM rfl (gg fun aB aE aC => ?_))
    obtain ⟨aI, aJ, aK, he⟩ := idx_form h1 aC
    obtain ⟨rfl, _, rfl⟩ := sl3 he
    exact gI st_41 aE (idx_lt aC) rfl (gF fo_56_1 rfl (gY (yl isAgg9 ((flat_cells (cs := [(nV aB.kind), (.string ⟨(aB.text).b.toArray⟩)]) (hm.now h1) aC rfl).cell (j := 1) rfl) rfl) (gM rfl (gY (yG rfl (y_eqls (p := aB.text) (q := text) rfl rfl rfl)) (gKt rfl (gA rfl (gE (gz hm [] rfl))))))))
   exact gO rfl (gO rfl (gO rfl (gO rfl (gO rfl (gO rfl (gO rfl (gKf rfl (gA rfl (gE (gz hm [] rfl))))))))))
  repeat clear hm
  intro aA w hm
  exact gRt (gr1 results156 rfl ⟨rfl, hm.below⟩)
theorem spec_l2Op_ok (w0 : World) (list : List Word_) (v1 : Value) (h1 : GT.rep (hp w0) [v1] list) (at_ : Int) (level : Int) :
    ConM Tryz.prog 103 [v1, (nV at_), (nV level)] w0 (spec_l2Op list at_ level) fun r v w' => v = (nV r) ∧ Below w0.heap.size w0 w' := by
  unfold spec_l2Op
  refine gcon func103 rfl fun r => ?_
  have hm := Mem.start w0
  refine gS (gR (gA rfl (gE (gS (gS (gR (gA rfl (gE (gBk (gNf hm (fun aA aC => [(0, v1), (1, (nV at_)), (2, (nV level)), (7, (nV aA))]) (fun aA aC => []) [] rfl ?_ ?_))))))))))
  ·
   repeat clear hm
   intro aI aD aA aC w hm aJ aK aL aE
   refine gS (gS (gR (gM rfl (gB rfl (gE (go _ 9 rfl (decide_eq_true (by omega)) (gct rfl (gSk (gS (gBk (gS (gJ hm (fun aB => [(0, v1), (1, (nV at_)), (2, (nV level)), (7, (nV aA)), (22, (.bool (aB)))]) (fun aB => []) (fun aB => ?_) ?_))))))))))))
   ·
    refine gR (gM rfl (gC hm rfl call115 (spec_l2Level_ok _ aA) fun aM aN w hm => gM rfl (gB rfl (gM rfl (gsd 16 rfl (fun aF => ?_) fun aF => ?_)))))
    ·
     exact gM rfl (gM rfl (gM rfl (gC hm rfl call117 (spec_l2Sign_ok _ aA) fun aG aO w hm => gC hm rfl call156 (spec_l2Is_ok _ list v1 (hm.now h1) at_ aG) fun aP aQ w hm => gKt rfl (gE (gz hm [] rfl)))))
    exact gO rfl (gO rfl (gO rfl (gO rfl (gO rfl (gKf rfl (gE (gz hm [] rfl)))))))
   repeat clear hm
   intro aB w hm
   refine gs 22 rfl (fun aH => ?_) fun aH => ?_
   ·
    exact gct rfl (gS (gR (gM rfl (gA rfl (gE (gRt (gLr aE aD (gr1 results103 rfl ⟨rfl, hm.below⟩))))))))
   exact gcf rfl (gSk (gR (gM rfl (gP (by omega) (by omega) rfl (gA rfl (gE (gze hm [] rfl)))))))
  repeat clear hm
  intro aR aT w hm aU aV
  exact gS (gS (gR (gM rfl (gB rfl (gE (go _ 9 rfl (decide_eq_false (by omega)) (gcf rfl (gXt (gHh (gS (gR (gA rfl (gE (gRt (gr1 results103 rfl ⟨rfl, hm.below⟩)))))))))))))))
theorem spec_NumberOf_ok (w0 : World) (w_ : Word_) :
    ConM Tryz.prog 157 [(.agg #[(nV w_.kind), (.string ⟨(w_.text).b.toArray⟩)])] w0 (spec_NumberOf w_) fun r v w' => v = (nV r) ∧ Below w0.heap.size w0 w' := by
  unfold spec_NumberOf
  refine gcon func157 rfl fun r => ?_
  have hm := Mem.start w0
  refine gS (gR (gBx hm rfl fun aB w hm => gA rfl (gE (gS (gS (gJ hm (fun aA => [(1, (pV aB)), (12, (.bool (aA)))]) (fun aA => [blk aB [(nV w_.kind), (.string ⟨(w_.text).b.toArray⟩)] 56]) (fun aA => ?_) ?_))))))
  ·
   refine gR (gF fo_56_0 rfl (gL hm 0 isAgg3 rfl (gB rfl (gM rfl (gsd 8 rfl (fun aC => ?_) fun aC => ?_)))))
   ·
    exact gO rfl (gO rfl (gO rfl (gKt rfl (gE (gz hm [0] rfl)))))
   exact gY (yn (hm.blk_at 0 rfl) isAgg56 sizeOf56 rfl) (gC hm rfl call100 (spec_WordValid_ok _ w_) fun aE aF w hm => gN rfl (gKf rfl (gE (gz hm [0] rfl))))
  repeat clear hm
  intro aA w hm
  refine gs 12 rfl (fun aD => ?_) fun aD => ?_
  ·
   exact gct rfl (gS (gR (gA rfl (gE (gRt (gr1 results157 rfl ⟨rfl, hm.below⟩))))))
  exact gcf rfl (gSk (gS (gR (gF fo_56_1 rfl (gL hm 0 isAgg9 rfl (gC hm rfl call154 (spec_l30Num_ok _ w_.text) fun aG aH w hm => gM rfl (gX rfl (gX rfl (gA rfl (gA rfl (gE (gS (gR (gM rfl (gA rfl (gE (gRt (gr1 results157 rfl ⟨rfl, hm.below⟩))))))))))))))))))
theorem spec_l1Step_ok (w0 : World) (at_ : Int) :
    ConM Tryz.prog 180 [(nV at_)] w0 (spec_l1Step at_) fun r v w' => v = (nV r) ∧ Below w0.heap.size w0 w' := by
  unfold spec_l1Step
  refine gcon func180 rfl fun r => ?_
  have hm := Mem.start w0
  refine gS (gR (gA rfl (gE (gS (gS (gR (gM rfl (gB rfl (gE (gsd 4 rfl (fun aA => ?_) fun aA => ?_))))))))))
  ·
   exact gct rfl (gS (gR (gA rfl (gE (gRt (gr1 results180 rfl ⟨rfl, hm.below⟩))))))
  exact gcf rfl (gSk (gS (gR (gA rfl (gE (gRt (gr1 results180 rfl ⟨rfl, hm.below⟩)))))))
theorem spec_l2Read_all (list : List Word_) : (∀ (at_ : Int) (level : Int) (r : Expr_ × Int), spec_l2Read list at_ level = some r → ∀ (w0 : World) (v1 : Value) (h1 : GT.rep (hp w0) [v1] list), Con Tryz.prog 45 [v1, (nV at_), (nV level)] w0 (fun v w' => ∃ (x1 : Value), v = (.tuple #[(.agg #[(nV r.1.op), (nV r.1.n_), (.string ⟨(r.1.name).b.toArray⟩), x1]), (nV r.2)]) ∧ Mem w0 (hp w0) w' [ow [x1] r.1.kids])) ∧
    (∀ (at_ : Int) (r : Expr_ × Int), spec_l2Tight list at_ = some r → ∀ (w0 : World) (v1 : Value) (h1 : GT.rep (hp w0) [v1] list), Con Tryz.prog 102 [v1, (nV at_)] w0 (fun v w' => ∃ (x1 : Value), v = (.tuple #[(.agg #[(nV r.1.op), (nV r.1.n_), (.string ⟨(r.1.name).b.toArray⟩), x1]), (nV r.2)]) ∧ Mem w0 (hp w0) w' [ow [x1] r.1.kids])) ∧
    (∀ (at_ : Int) (r : (List Expr_) × Int), spec_l2List list at_ = some r → ∀ (w0 : World) (v1 : Value) (h1 : GT.rep (hp w0) [v1] list), Con Tryz.prog 158 [v1, (nV at_)] w0 (fun v w' => ∃ (x1 : Value), v = (.tuple #[x1, (nV r.2)]) ∧ Mem w0 (hp w0) w' [ow [x1] r.1])) := by
  refine spec_l2Read.mutual_partial_correctness list (motive_1 := fun at_ level r => ∀ (w0 : World) (v1 : Value) (h1 : GT.rep (hp w0) [v1] list), Con Tryz.prog 45 [v1, (nV at_), (nV level)] w0 (fun v w' => ∃ (x1 : Value), v = (.tuple #[(.agg #[(nV r.1.op), (nV r.1.n_), (.string ⟨(r.1.name).b.toArray⟩), x1]), (nV r.2)]) ∧ Mem w0 (hp w0) w' [ow [x1] r.1.kids])) (motive_2 := fun at_ r => ∀ (w0 : World) (v1 : Value) (h1 : GT.rep (hp w0) [v1] list), Con Tryz.prog 102 [v1, (nV at_)] w0 (fun v w' => ∃ (x1 : Value), v = (.tuple #[(.agg #[(nV r.1.op), (nV r.1.n_), (.string ⟨(r.1.name).b.toArray⟩), x1]), (nV r.2)]) ∧ Mem w0 (hp w0) w' [ow [x1] r.1.kids])) (motive_3 := fun at_ r => ∀ (w0 : World) (v1 : Value) (h1 : GT.rep (hp w0) [v1] list), Con Tryz.prog 158 [v1, (nV at_)] w0 (fun v w' => ∃ (x1 : Value), v = (.tuple #[x1, (nV r.2)]) ∧ Mem w0 (hp w0) w' [ow [x1] r.1])) ?_ ?_ ?_
  · intro rec_1 rec_2 ih_1 ih_2 at_ level r hq w0 v1 h1
    have spec_l2Read_rec : ∀ (w0 : World) (_ : List Word_) (v1 : Value) (h1 : GT.rep (hp w0) [v1] list) (at_ : Int) (level : Int) (r : Expr_ × Int) (hq : rec_1 at_ level = some r), Con Tryz.prog 45 [v1, (nV at_), (nV level)] w0 (fun v w' => ∃ (x1 : Value), v = (.tuple #[(.agg #[(nV r.1.op), (nV r.1.n_), (.string ⟨(r.1.name).b.toArray⟩), x1]), (nV r.2)]) ∧ Mem w0 (hp w0) w' [ow [x1] r.1.kids]) := fun w0 _ v1 h1 at_ level r hq => ih_1 at_ level r hq w0 v1 h1
    have spec_l2Tight_rec : ∀ (w0 : World) (_ : List Word_) (v1 : Value) (h1 : GT.rep (hp w0) [v1] list) (at_ : Int) (r : Expr_ × Int) (hq : rec_2 at_ = some r), Con Tryz.prog 102 [v1, (nV at_)] w0 (fun v w' => ∃ (x1 : Value), v = (.tuple #[(.agg #[(nV r.1.op), (nV r.1.n_), (.string ⟨(r.1.name).b.toArray⟩), x1]), (nV r.2)]) ∧ Mem w0 (hp w0) w' [ow [x1] r.1.kids]) := fun w0 _ v1 h1 at_ r hq => ih_2 at_ r hq w0 v1 h1
    refine gconr (ρ := Expr_ × Int) (R := fun r v w' => ∃ (x1 : Value), v = (.tuple #[(.agg #[(nV r.1.op), (nV r.1.n_), (.string ⟨(r.1.name).b.toArray⟩), x1]), (nV r.2)]) ∧ Mem w0 (hp w0) w' [ow [x1] r.1.kids]) func45 rfl hq ?_
    have hm := Mem.start w0
    refine gS (gR (gAl hm zeroValue24 rfl fun aE w hm => gA rfl (gE (gS (gS (gR (gM rfl (gB rfl (gE (gsd 14 rfl (fun aU => ?_) fun aU => ?_))))))))))
    ·
     refine gct rfl (gS (gR (gM rfl (gM rfl (gCg rfl call102 (spec_l2Tight_rec _ list v1 (hm.now h1) at_) ?_)))))
     rintro av aw ax w ⟨ay, rfl, hB⟩
     replace hm := hm.give hB; clear hB
     exact gX rfl (gX rfl (gSN hm 1 sizeOf24 (one_cons rfl (one_cons rfl (one_cons rfl (one_cons (rep_one (hm.ow_rep 0 rfl)) one_nil)))) rfl fun w hm => gA rfl (gE (gRt (grct 1 results45 hm rfl isAgg24 sizeOf24 ⟨ay, rfl, hm.pk [0] rfl rfl⟩)))))
    refine gcf rfl (gSk (gS (gR (gM rfl (gM rfl (gM rfl (gB rfl (gCg rfl call45 (spec_l2Read_rec _ list v1 (hm.now h1) at_ (w64 (level + 1))) ?_))))))))
    rintro af bF aV w ⟨b7, rfl, hB⟩
    replace hm := hm.give hB; clear hB
    refine gM rfl (gX rfl (gX rfl (gAl hm zeroValue24 rfl fun aI w hm => gSN hm 0 sizeOf24 (one_cons rfl (one_cons rfl (one_cons rfl (one_cons (rep_one (hm.ow_rep 1 rfl)) one_nil)))) rfl fun w hm => gA rfl (gE (gS ?_)))))
    obtain ⟨aP, aX, rfl, az⟩ := ro_slice (hm.ow_rep 1 rfl)
    refine gJg (fun aJ a w => ∃ (aY : Value), St 58 [(6, (pV aE)), (8, (pV aI)), (9, (nV aJ.2.2.2.2))] w0 (hp w0) [blk aE [(nV 0), (nV 0), (.string ⟨((mkS [])).b.toArray⟩), (.slice none 0 0)] 24, blk aI [(nV aJ.1), (nV aJ.2.1), (.string ⟨(aJ.2.2.1).b.toArray⟩), aY] 24, ow [aY] aJ.2.2.2.1] a w) (fun aJ => ?_) ?_
    ·
     refine gBk (gMg (fun aA a w => ∃ (aF : Value), St 58 [(0, v1), (2, (nV level)), (6, (pV aE)), (8, (pV aI)), (9, (nV aA.2.2.2.2))] w0 (hp w0) [blk aE [(nV 0), (nV 0), (.string ⟨((mkS [])).b.toArray⟩), (.slice none 0 0)] 24, blk aI [(nV aA.1), (nV aA.2.1), (.string ⟨(aA.2.2.1).b.toArray⟩), aF] 24, ow [aF] aA.2.2.2.1] a w) (fun a hf => ⟨(.slice aP af.1.kids.length aX), hf.sb rfl, hm.pk [2, 0, 1] rfl rfl⟩) ?_)
     repeat clear hm
     rintro aC bG aA a w ⟨aF, hf, hm⟩ b8 bH
     refine gv hf (gS (gS (gJ hm (fun aZ => [(0, v1), (2, (nV level)), (6, (pV aE)), (8, (pV aI)), (9, (nV aA.2.2.2.2)), (36, (.bool (aZ)))]) (fun aZ => [blk aE [(nV 0), (nV 0), (.string ⟨((mkS [])).b.toArray⟩), (.slice none 0 0)] 24, blk aI [(nV aA.1), (nV aA.2.1), (.string ⟨(aA.2.2.1).b.toArray⟩), aF] 24, ow [aF] aA.2.2.2.1]) (fun aZ => ?_) ?_)))
     ·
      refine gR (gM rfl (gB rfl (gM rfl (gsd 30 rfl (fun bJ => ?_) fun bJ => ?_))))
      ·
       exact gM rfl (gM rfl (gM rfl (gC hm rfl call103 (spec_l2Op_ok _ list v1 (hm.now h1) aA.2.2.2.2 level) fun b9 ba w hm => gB rfl (gKt rfl (gE (gz hm [0, 1, 2] rfl))))))
      exact gO rfl (gO rfl (gO rfl (gO rfl (gO rfl (gKf rfl (gE (gz hm [0, 1, 2] rfl)))))))
     repeat clear hm
     intro aZ w hm
     refine gs 36 rfl (fun ag => ?_) fun ag => ?_
     ·
      refine gct rfl (gSk (gBk (gS (gR (gM rfl (gM rfl (gM rfl (gC hm rfl call103 (spec_l2Op_ok _ list v1 (hm.now h1) aA.2.2.2.2 level) fun ah bK w hm => gA rfl (gE (gS (gR (gM rfl (gM rfl (gB rfl (gM rfl (gB rfl (gCg rfl call45 (spec_l2Read_rec _ list v1 (hm.now h1) (w64 (aA.2.2.2.2 + 1)) (w64 (level + 1))) ?_)))))))))))))))))
      rintro aB bb bc w ⟨aG, rfl, hB⟩
      replace hm := hm.give hB; clear hB
      refine gM rfl (gX rfl (gX rfl (gAl hm zeroValue24 rfl fun aW w hm => gSN hm 0 sizeOf24 (one_cons rfl (one_cons rfl (one_cons rfl (one_cons (rep_one (hm.ow_rep 1 rfl)) one_nil)))) rfl fun w hm => gA rfl (gE (gS (gR (gM rfl (gY (yn (hm.blk_at 3 rfl) isAgg24 sizeOf24 rfl) (gY (yn (hm.blk_at 0 rfl) isAgg24 sizeOf24 rfl) (gf rfl (fun a hf => e_build (vs := #[(0, (.agg #[(nV aA.1), (nV aA.2.1), (.string ⟨(aA.2.2.1).b.toArray⟩), aF])), (1, (.agg #[(nV aB.1.op), (nV aB.1.n_), (.string ⟨(aB.1.name).b.toArray⟩), aG]))]) (cs := [(nV aA.1), (nV aA.2.1), (.string ⟨(aA.2.2.1).b.toArray⟩), aF, (nV aB.1.op), (nV aB.1.n_), (.string ⟨(aB.1.name).b.toArray⟩), aG]) et_22 hf hm rfl rfl (by kernel_rfl) rfl rfl) ?_))))))))))
      rintro _ w ⟨aN, rfl, hm⟩
      replace hm := hm.els_nil (α := Expr_)
      replace hm : Mem w0 (hp w0) _ [els [] ([] : List Expr_), blk aN [(nV aA.1), (nV aA.2.1), (.string ⟨(aA.2.2.1).b.toArray⟩), aF, (nV aB.1.op), (nV aB.1.n_), (.string ⟨(aB.1.name).b.toArray⟩), aG] 24, blk aW [(nV aB.1.op), (nV aB.1.n_), (.string ⟨(aB.1.name).b.toArray⟩), aG] 24, ow [(nV aB.1.op), (nV aB.1.n_), (.string ⟨(aB.1.name).b.toArray⟩), aG] (aB.1 : Expr_), blk aE [(nV 0), (nV 0), (.string ⟨((mkS [])).b.toArray⟩), (.slice none 0 0)] 24, blk aI [(nV aA.1), (nV aA.2.1), (.string ⟨(aA.2.2.1).b.toArray⟩), aF] 24, ow [aF] aA.2.2.2.1] := mkx_Expr_ aB.1 hm 3 rfl
      replace hm := (hm.els_cons 0 3 (by decide) rfl rfl).pk (L' := [els [(nV aB.1.op), (nV aB.1.n_), (.string ⟨(aB.1.name).b.toArray⟩), aG] ([aB.1] : List Expr_), blk aN [(nV aA.1), (nV aA.2.1), (.string ⟨(aA.2.2.1).b.toArray⟩), aF, (nV aB.1.op), (nV aB.1.n_), (.string ⟨(aB.1.name).b.toArray⟩), aG] 24, blk aW [(nV aB.1.op), (nV aB.1.n_), (.string ⟨(aB.1.name).b.toArray⟩), aG] 24, blk aE [(nV 0), (nV 0), (.string ⟨((mkS [])).b.toArray⟩), (.slice none 0 0)] 24, blk aI [(nV aA.1), (nV aA.2.1), (.string ⟨(aA.2.2.1).b.toArray⟩), aF] 24, ow [aF] aA.2.2.2.1]) [0, 1, 2, 4, 5, 6] rfl rfl
      replace hm : Mem w0 (hp w0) _ [els [(nV aB.1.op), (nV aB.1.n_), (.string ⟨(aB.1.name).b.toArray⟩), aG] ([aB.1] : List Expr_), blk aN [(nV aA.1), (nV aA.2.1), (.string ⟨(aA.2.2.1).b.toArray⟩), aF, (nV aB.1.op), (nV aB.1.n_), (.string ⟨(aB.1.name).b.toArray⟩), aG] 24, blk aW [(nV aB.1.op), (nV aB.1.n_), (.string ⟨(aB.1.name).b.toArray⟩), aG] 24, blk aE [(nV 0), (nV 0), (.string ⟨((mkS [])).b.toArray⟩), (.slice none 0 0)] 24, blk aI [(nV aA.1), (nV aA.2.1), (.string ⟨(aA.2.2.1).b.toArray⟩), aF] 24, ow [(nV aA.1), (nV aA.2.1), (.string ⟨(aA.2.2.1).b.toArray⟩), aF] ((⟨aA.1, aA.2.1, aA.2.2.1, aA.2.2.2.1⟩ : Expr_) : Expr_)] := mk_Expr_ aA.1 aA.2.1 aA.2.2.1 hm 5 rfl
      replace hm := (hm.els_cons 0 5 (by decide) rfl rfl).pk (L' := [els [(nV aA.1), (nV aA.2.1), (.string ⟨(aA.2.2.1).b.toArray⟩), aF, (nV aB.1.op), (nV aB.1.n_), (.string ⟨(aB.1.name).b.toArray⟩), aG] ([(⟨aA.1, aA.2.1, aA.2.2.1, aA.2.2.2.1⟩ : Expr_), aB.1] : List Expr_), blk aN [(nV aA.1), (nV aA.2.1), (.string ⟨(aA.2.2.1).b.toArray⟩), aF, (nV aB.1.op), (nV aB.1.n_), (.string ⟨(aB.1.name).b.toArray⟩), aG] 24, blk aW [(nV aB.1.op), (nV aB.1.n_), (.string ⟨(aB.1.name).b.toArray⟩), aG] 24, blk aE [(nV 0), (nV 0), (.string ⟨((mkS [])).b.toArray⟩), (.slice none 0 0)] 24, blk aI [(nV aA.1), (nV aA.2.1), (.string ⟨(aA.2.2.1).b.toArray⟩), aF] 24]) [0, 1, 2, 3, 4] rfl rfl
      replace hm := (hm.lit_els 1 0 (by decide) rfl rfl rfl rfl).pk (L' := [ow [(sV aN 0 2 2)] ([(⟨aA.1, aA.2.1, aA.2.2.1, aA.2.2.2.1⟩ : Expr_), aB.1] : List Expr_), blk aW [(nV aB.1.op), (nV aB.1.n_), (.string ⟨(aB.1.name).b.toArray⟩), aG] 24, blk aE [(nV 0), (nV 0), (.string ⟨((mkS [])).b.toArray⟩), (.slice none 0 0)] 24, blk aI [(nV aA.1), (nV aA.2.1), (.string ⟨(aA.2.2.1).b.toArray⟩), aF] 24]) [1, 2, 3, 4] rfl rfl
      exact gY (yG rfl (y_build (vs := [(0, (nV ah)), (3, (sV aN 0 2 2))]) (cs := #[(nV ah), (nV 0), (.string ⟨((mkS [])).b.toArray⟩), (sV aN 0 2 2)]) rfl rfl (by kernel_rfl))) (gSN hm 3 sizeOf24 (one_cons rfl (one_cons rfl (one_cons rfl (one_cons rfl one_nil)))) rfl fun w hm => gE (gR (gM rfl (gA rfl (gE (gZe fun a hf => ⟨(sV aN 0 2 2), hf.sb rfl, hm.pk [2, 3, 0] rfl rfl⟩))))))
     exact gcf rfl (gXt (gHh (gLp bH bG (gZ fun a hf => ⟨aF, hf.sb rfl, hm.pk [0, 1, 2] rfl rfl⟩))))
    repeat clear hm
    rintro aJ a w ⟨aY, hf, hm⟩
    exact gv hf (gS (gR (gY (yn (hm.blk_at 1 rfl) isAgg24 sizeOf24 rfl) (gM rfl (gSN hm 0 sizeOf24 (one_cons rfl (one_cons rfl (one_cons rfl (one_cons (rep_one (hm.ow_rep 2 rfl)) one_nil)))) rfl fun w hm => gA rfl (gE (gRt (grct 0 results45 hm rfl isAgg24 sizeOf24 ⟨aY, rfl, hm.pk [2] rfl rfl⟩))))))))
  · intro rec_1 rec_2 rec_3 ih_1 ih_2 ih_3 at_ r hq w0 v1 h1
    have spec_l2Read_rec : ∀ (w0 : World) (_ : List Word_) (v1 : Value) (h1 : GT.rep (hp w0) [v1] list) (at_ : Int) (level : Int) (r : Expr_ × Int) (hq : rec_1 at_ level = some r), Con Tryz.prog 45 [v1, (nV at_), (nV level)] w0 (fun v w' => ∃ (x1 : Value), v = (.tuple #[(.agg #[(nV r.1.op), (nV r.1.n_), (.string ⟨(r.1.name).b.toArray⟩), x1]), (nV r.2)]) ∧ Mem w0 (hp w0) w' [ow [x1] r.1.kids]) := fun w0 _ v1 h1 at_ level r hq => ih_1 at_ level r hq w0 v1 h1
    have spec_l2Tight_rec : ∀ (w0 : World) (_ : List Word_) (v1 : Value) (h1 : GT.rep (hp w0) [v1] list) (at_ : Int) (r : Expr_ × Int) (hq : rec_2 at_ = some r), Con Tryz.prog 102 [v1, (nV at_)] w0 (fun v w' => ∃ (x1 : Value), v = (.tuple #[(.agg #[(nV r.1.op), (nV r.1.n_), (.string ⟨(r.1.name).b.toArray⟩), x1]), (nV r.2)]) ∧ Mem w0 (hp w0) w' [ow [x1] r.1.kids]) := fun w0 _ v1 h1 at_ r hq => ih_2 at_ r hq w0 v1 h1
    have spec_l2List_rec : ∀ (w0 : World) (_ : List Word_) (v1 : Value) (h1 : GT.rep (hp w0) [v1] list) (at_ : Int) (r : (List Expr_) × Int) (hq : rec_3 at_ = some r), Con Tryz.prog 158 [v1, (nV at_)] w0 (fun v w' => ∃ (x1 : Value), v = (.tuple #[x1, (nV r.2)]) ∧ Mem w0 (hp w0) w' [ow [x1] r.1]) := fun w0 _ v1 h1 at_ r hq => ih_3 at_ r hq w0 v1 h1
    refine gconr (ρ := Expr_ × Int) (R := fun r v w' => ∃ (x1 : Value), v = (.tuple #[(.agg #[(nV r.1.op), (nV r.1.n_), (.string ⟨(r.1.name).b.toArray⟩), x1]), (nV r.2)]) ∧ Mem w0 (hp w0) w' [ow [x1] r.1.kids]) func102 rfl hq ?_
    have hm := Mem.start w0
    refine gS (gR (gAl hm zeroValue24 rfl fun aE w hm => gA rfl (gE (gS (gS (gR (gA rfl (gE (gBk (gNf hm (fun aR aK => [(0, v1), (1, (nV at_)), (4, (pV aE)), (6, (nV aR))]) (fun aR aK => [blk aE [(nV 0), (nV 0), (.string ⟨((mkS [])).b.toArray⟩), (.slice none 0 0)] 24]) [0] rfl ?_ ?_))))))))))
    ·
     repeat clear hm
     intro av a7 aR aK w hm bd be bL bM
     refine gS (gS (gR (gM rfl (gB rfl (gE (go _ 14 rfl (decide_eq_true (by omega)) (gct rfl (gSk (gS (gBk (gS (gR (gM rfl (gM rfl (gM rfl (gC hm rfl call117 (spec_l2Sign_ok _ aR) fun aC bN w hm => gC hm rfl call156 (spec_l2Is_ok _ list v1 (hm.now h1) at_ aC) fun bO bA w hm => gE (gs 21 rfl (fun ai => ?_) fun ai => ?_)))))))))))))))))
     ·
      refine gct rfl (gS (gR (gM rfl (gM rfl (gB rfl (gCg rfl call102 (spec_l2Tight_rec _ list v1 (hm.now h1) (w64 (at_ + 1))) ?_))))))
      rintro aD bP aL w ⟨aH, rfl, hB⟩
      replace hm := hm.give hB; clear hB
      refine gM rfl (gX rfl (gX rfl (gAl hm zeroValue24 rfl fun aO w hm => gSN hm 0 sizeOf24 (one_cons rfl (one_cons rfl (one_cons rfl (one_cons (rep_one (hm.ow_rep 1 rfl)) one_nil)))) rfl fun w hm => gA rfl (gE (gS (gR (gM rfl (gY (yn (hm.blk_at 0 rfl) isAgg24 sizeOf24 rfl) (gf rfl (fun a hf => e_build (vs := #[(0, (.agg #[(nV aD.1.op), (nV aD.1.n_), (.string ⟨(aD.1.name).b.toArray⟩), aH]))]) (cs := [(nV aD.1.op), (nV aD.1.n_), (.string ⟨(aD.1.name).b.toArray⟩), aH]) et_22 hf hm rfl rfl (by kernel_rfl) rfl rfl) ?_)))))))))
      rintro _ w ⟨aM, rfl, hm⟩
      replace hm := hm.els_nil (α := Expr_)
      replace hm : Mem w0 (hp w0) _ [els [] ([] : List Expr_), blk aM [(nV aD.1.op), (nV aD.1.n_), (.string ⟨(aD.1.name).b.toArray⟩), aH] 24, blk aO [(nV aD.1.op), (nV aD.1.n_), (.string ⟨(aD.1.name).b.toArray⟩), aH] 24, ow [(nV aD.1.op), (nV aD.1.n_), (.string ⟨(aD.1.name).b.toArray⟩), aH] (aD.1 : Expr_), blk aE [(nV 0), (nV 0), (.string ⟨((mkS [])).b.toArray⟩), (.slice none 0 0)] 24] := mkx_Expr_ aD.1 hm 3 rfl
      replace hm := (hm.els_cons 0 3 (by decide) rfl rfl).pk (L' := [els [(nV aD.1.op), (nV aD.1.n_), (.string ⟨(aD.1.name).b.toArray⟩), aH] ([aD.1] : List Expr_), blk aM [(nV aD.1.op), (nV aD.1.n_), (.string ⟨(aD.1.name).b.toArray⟩), aH] 24, blk aO [(nV aD.1.op), (nV aD.1.n_), (.string ⟨(aD.1.name).b.toArray⟩), aH] 24, blk aE [(nV 0), (nV 0), (.string ⟨((mkS [])).b.toArray⟩), (.slice none 0 0)] 24]) [0, 1, 2, 4] rfl rfl
      replace hm := (hm.lit_els 1 0 (by decide) rfl rfl rfl rfl).pk (L' := [ow [(sV aM 0 1 1)] ([aD.1] : List Expr_), blk aO [(nV aD.1.op), (nV aD.1.n_), (.string ⟨(aD.1.name).b.toArray⟩), aH] 24, blk aE [(nV 0), (nV 0), (.string ⟨((mkS [])).b.toArray⟩), (.slice none 0 0)] 24]) [1, 2, 3] rfl rfl
      exact gY (yG rfl (y_build (vs := [(0, (nV aR)), (3, (sV aM 0 1 1))]) (cs := #[(nV aR), (nV 0), (.string ⟨((mkS [])).b.toArray⟩), (sV aM 0 1 1)]) rfl rfl (by kernel_rfl))) (gM rfl (gSN hm 2 sizeOf24 (one_cons rfl (one_cons rfl (one_cons rfl (one_cons rfl one_nil)))) rfl fun w hm => gA rfl (gE (gRt (gLr bM a7 (grct 2 results102 hm rfl isAgg24 sizeOf24 ⟨(sV aM 0 1 1), rfl, hm.pk [0] rfl rfl⟩))))))
     exact gcf rfl (gSk (gR (gM rfl (gP (by omega) (by omega) rfl (gA rfl (gE (gze hm [0] rfl)))))))
    repeat clear hm
    intro bf bg w hm bh bi
    refine gS (gS (gR (gM rfl (gB rfl (gE (go _ 14 rfl (decide_eq_false (by omega)) (gcf rfl (gXt (gHh (gS (gS (gR (gM rfl (gM rfl (gC hm rfl call156 (spec_l2Is_ok _ list v1 (hm.now h1) at_ (mkS [40])) fun af aw w hm => gE (gs 36 rfl (fun aU => ?_) fun aU => ?_))))))))))))))))
    ·
     refine gct rfl (gS (gR (gM rfl (gM rfl (gB rfl (gCg rfl call45 (spec_l2Read_rec _ list v1 (hm.now h1) (w64 (at_ + 1)) 1) ?_))))))
     rintro aT bF ay w ⟨aV, rfl, hB⟩
     replace hm := hm.give hB; clear hB
     refine gM rfl (gX rfl (gX rfl (gAl hm zeroValue24 rfl fun aI w hm => gSN hm 0 sizeOf24 (one_cons rfl (one_cons rfl (one_cons rfl (one_cons (rep_one (hm.ow_rep 1 rfl)) one_nil)))) rfl fun w hm => gA rfl (gE (gS (gS (gJ hm (fun aJ => [(4, (pV aE)), (9, (pV aI)), (10, (nV aT.2)), (51, (.bool (aJ)))]) (fun aJ => [blk aE [(nV 0), (nV 0), (.string ⟨((mkS [])).b.toArray⟩), (.slice none 0 0)] 24, blk aI [(nV aT.1.op), (nV aT.1.n_), (.string ⟨(aT.1.name).b.toArray⟩), aV] 24, ow [aV] aT.1.kids]) (fun aJ => ?_) ?_)))))))
     ·
      refine gR (gM rfl (gB rfl (gM rfl (gsd 46 rfl (fun aj => ?_) fun aj => ?_))))
      ·
       exact gO rfl (gO rfl (gO rfl (gO rfl (gKt rfl (gE (gz hm [2, 0, 1] rfl))))))
      exact gM rfl (gM rfl (gC hm rfl call156 (spec_l2Is_ok _ list v1 (hm.now h1) aT.2 (mkS [41])) fun bj bQ w hm => gN rfl (gKf rfl (gE (gz hm [2, 0, 1] rfl)))))
     repeat clear hm
     intro aJ w hm
     refine gs 51 rfl (fun bR => ?_) fun bR => ?_
     ·
      exact gct rfl (gS (gR (gY (yn (hm.blk_at 1 rfl) isAgg24 sizeOf24 rfl) (gSN hm 0 sizeOf24 (one_cons rfl (one_cons rfl (one_cons rfl (one_cons (rep_one (hm.ow_rep 2 rfl)) one_nil)))) rfl fun w hm => gA rfl (gE (gRt (grct 0 results102 hm rfl isAgg24 sizeOf24 ⟨aV, rfl, hm.pk [2] rfl rfl⟩)))))))
     exact gcf rfl (gSk (gS (gR (gY (yn (hm.blk_at 1 rfl) isAgg24 sizeOf24 rfl) (gM rfl (gB rfl (gSN hm 0 sizeOf24 (one_cons rfl (one_cons rfl (one_cons rfl (one_cons (rep_one (hm.ow_rep 2 rfl)) one_nil)))) rfl fun w hm => gA rfl (gE (gRt (grct 0 results102 hm rfl isAgg24 sizeOf24 ⟨aV, rfl, hm.pk [2] rfl rfl⟩))))))))))
    refine gcf rfl (gSk (gS (gS (gJ hm (fun a8 => [(0, v1), (1, (nV at_)), (4, (pV aE)), (67, (.bool (a8)))]) (fun a8 => [blk aE [(nV 0), (nV 0), (.string ⟨((mkS [])).b.toArray⟩), (.slice none 0 0)] 24]) (fun a8 => ?_) ?_))))
    ·
     refine gR (gM rfl (gM rfl ?_))
     obtain ⟨bk, bl, rfl, bm⟩ := ro_slice h1
     refine gY (yV st_41 rfl) (gB rfl (gM rfl (gsd 60 rfl (fun ak => ?_) fun ak => ?_)))
     ·
      refine gM rfl (gM rfl (gg fun bB bS al => ?_))
      obtain ⟨bo, bp, bq, he⟩ := idx_form h1 al
      obtain ⟨rfl, _, rfl⟩ := sl3 he
      exact gI st_41 bS (idx_lt al) rfl (gF fo_56_0 rfl (gY (yl isAgg3 ((flat_cells (cs := [(nV bB.kind), (.string ⟨(bB.text).b.toArray⟩)]) (hm.now h1) al rfl).cell (j := 0) rfl) rfl) (gB rfl (gKt rfl (gE (gz hm [0] rfl))))))
     exact gO rfl (gO rfl (gO rfl (gO rfl (gO rfl (gO rfl (gKf rfl (gE (gz hm [0] rfl))))))))
    repeat clear hm
    intro a8 w hm
    refine gs 67 rfl (fun bT => ?_) fun bT => ?_
    ·
     refine gct rfl (gS (gR (gM rfl (gM rfl (gg fun am bU an => ?_)))))
     obtain ⟨br, bs, aX, he⟩ := idx_form h1 an
     subst he
     refine gI st_41 bU (idx_lt an) rfl (gY (yn (flat_cells (cs := [(nV am.kind), (.string ⟨(am.text).b.toArray⟩)]) (hm.now h1) an rfl) isAgg56 sizeOf56 rfl) (gC hm rfl call157 (spec_NumberOf_ok _ am) fun bC bt w hm => gY (yG rfl (y_build (vs := [(0, (nV 1)), (1, (nV bC))]) (cs := #[(nV 1), (nV bC), (.string ⟨((mkS [])).b.toArray⟩), (.slice none 0 0)]) rfl rfl (by kernel_rfl))) (gM rfl (gB rfl (gSN hm 0 sizeOf24 (one_cons rfl (one_cons rfl (one_cons rfl (one_cons rfl one_nil)))) rfl fun w hm => gA rfl (gE (gRt ?_)))))))
     replace hm := hm.nilow (α := Expr_)
     exact grct 1 results102 hm rfl isAgg24 sizeOf24 ⟨(.slice none 0 0), rfl, hm.pk [0] rfl rfl⟩
    refine gcf rfl (gSk (gS (gS (gJ hm (fun aa => [(0, v1), (1, (nV at_)), (4, (pV aE)), (87, (.bool (aa)))]) (fun aa => [blk aE [(nV 0), (nV 0), (.string ⟨((mkS [])).b.toArray⟩), (.slice none 0 0)] 24]) (fun aa => ?_) ?_))))
    ·
     refine gR (gM rfl (gM rfl ?_))
     obtain ⟨bu, bv, rfl, bw⟩ := ro_slice h1
     refine gY (yV st_41 rfl) (gB rfl (gM rfl (gsd 80 rfl (fun bV => ?_) fun bV => ?_)))
     ·
      exact gO rfl (gO rfl (gO rfl (gO rfl (gO rfl (gO rfl (gKt rfl (gE (gz hm [0] rfl))))))))
     refine gM rfl (gM rfl (gg fun bD bW ao => ?_))
     obtain ⟨bx, bz, cA, he⟩ := idx_form h1 ao
     obtain ⟨rfl, _, rfl⟩ := sl3 he
     exact gI st_41 bW (idx_lt ao) rfl (gF fo_56_0 rfl (gY (yl isAgg3 ((flat_cells (cs := [(nV bD.kind), (.string ⟨(bD.text).b.toArray⟩)]) (hm.now h1) ao rfl).cell (j := 0) rfl) rfl) (gB rfl (gKf rfl (gE (gz hm [0] rfl))))))
    repeat clear hm
    intro aa w hm
    refine gs 87 rfl (fun bX => ?_) fun bX => ?_
    ·
     refine gct rfl (gS (gR (gY (yG rfl (y_build (vs := []) (cs := #[(nV 0), (nV 0), (.string ⟨((mkS [])).b.toArray⟩), (.slice none 0 0)]) rfl rfl (by kernel_rfl))) (gSN hm 0 sizeOf24 (one_cons rfl (one_cons rfl (one_cons rfl (one_cons rfl one_nil)))) rfl fun w hm => gA rfl (gE (gRt ?_))))))
     replace hm := hm.nilow (α := Expr_)
     exact grct 1 results102 hm rfl isAgg24 sizeOf24 ⟨(.slice none 0 0), rfl, hm.pk [0] rfl rfl⟩
    refine gcf rfl (gSk (gS (gS (gR (gM rfl (gM rfl (gB rfl (gC hm rfl call156 (spec_l2Is_ok _ list v1 (hm.now h1) (w64 (at_ + 1)) (mkS [40])) fun cB cC w hm => gN rfl (gE (gsn 93 rfl (fun bY => ?_) fun bY => ?_))))))))))
    ·
     refine gct rfl (gS (gR (gM rfl (gM rfl (gg fun ab bZ ap => ?_)))))
     obtain ⟨cD, cE, cF, he⟩ := idx_form h1 ap
     subst he
     refine gI st_41 bZ (idx_lt ap) rfl (gF fo_56_1 rfl (gY (yl isAgg9 ((flat_cells (cs := [(nV ab.kind), (.string ⟨(ab.text).b.toArray⟩)]) (hm.now h1) ap rfl).cell (j := 1) rfl) rfl) (gY (yG rfl (y_build (vs := [(0, (nV 2)), (2, (.string ⟨(ab.text).b.toArray⟩))]) (cs := #[(nV 2), (nV 0), (.string ⟨(ab.text).b.toArray⟩), (.slice none 0 0)]) rfl rfl (by kernel_rfl))) (gM rfl (gB rfl (gSN hm 0 sizeOf24 (one_cons rfl (one_cons rfl (one_cons rfl (one_cons rfl one_nil)))) rfl fun w hm => gA rfl (gE (gRt ?_))))))))
     replace hm := hm.nilow (α := Expr_)
     exact grct 1 results102 hm rfl isAgg24 sizeOf24 ⟨(.slice none 0 0), rfl, hm.pk [0] rfl rfl⟩
    refine gcf rfl (gSk (gS (gR (gM rfl (gM rfl (gB rfl (gCg rfl call158 (spec_l2List_rec _ list v1 (hm.now h1) (w64 (at_ + 2))) ?_)))))))
    rintro aq cG cH w ⟨cI, rfl, hB⟩
    replace hm := hm.give hB; clear hB
    refine gM rfl (gX rfl (gX rfl (gA rfl (gA rfl (gE (gS (gR (gM rfl (gM rfl (gg fun ac b4 ar => ?_))))))))))
    obtain ⟨cJ, cK, cL, he⟩ := idx_form h1 ar
    subst he
    refine gI st_41 b4 (idx_lt ar) rfl (gF fo_56_1 rfl (gY (yl isAgg9 ((flat_cells (cs := [(nV ac.kind), (.string ⟨(ac.text).b.toArray⟩)]) (hm.now h1) ar rfl).cell (j := 1) rfl) rfl) (gM rfl ?_)))
    obtain ⟨aP, au, rfl, az⟩ := ro_slice (hm.ow_rep 0 rfl)
    exact gY (yG rfl (y_build (vs := [(0, (nV 13)), (2, (.string ⟨(ac.text).b.toArray⟩)), (3, (.slice aP aq.1.length au))]) (cs := #[(nV 13), (nV 0), (.string ⟨(ac.text).b.toArray⟩), (.slice aP aq.1.length au)]) rfl rfl (by kernel_rfl))) (gM rfl (gSN hm 1 sizeOf24 (one_cons rfl (one_cons rfl (one_cons rfl (one_cons rfl one_nil)))) rfl fun w hm => gA rfl (gE (gRt (grct 1 results102 hm rfl isAgg24 sizeOf24 ⟨(.slice aP aq.1.length au), rfl, hm.pk [0] rfl rfl⟩)))))
  · intro rec_ ih_ at_ r hq w0 v1 h1
    have spec_l2Read_rec : ∀ (w0 : World) (_ : List Word_) (v1 : Value) (h1 : GT.rep (hp w0) [v1] list) (at_ : Int) (level : Int) (r : Expr_ × Int) (hq : rec_ at_ level = some r), Con Tryz.prog 45 [v1, (nV at_), (nV level)] w0 (fun v w' => ∃ (x1 : Value), v = (.tuple #[(.agg #[(nV r.1.op), (nV r.1.n_), (.string ⟨(r.1.name).b.toArray⟩), x1]), (nV r.2)]) ∧ Mem w0 (hp w0) w' [ow [x1] r.1.kids]) := fun w0 _ v1 h1 at_ level r hq => ih_ at_ level r hq w0 v1 h1
    refine gconr (ρ := (List Expr_) × Int) (R := fun r v w' => ∃ (x1 : Value), v = (.tuple #[x1, (nV r.2)]) ∧ Mem w0 (hp w0) w' [ow [x1] r.1]) func158 rfl hq ?_
    have hm := Mem.start w0
    refine gS (gR (gA rfl (gA rfl (gE (gS (gR (gf rfl (fun a hf => e_build0 (α := Expr_) et_22 hm rfl) ?_)))))))
    rintro ax w hm
    refine gA rfl (gE (gS (gS (gR (gM rfl (gM rfl (gC hm rfl call156 (spec_l2Is_ok _ list v1 (hm.now h1) at_ (mkS [41])) fun av aw w hm => gE (gs 12 rfl (fun aU => ?_) fun aU => ?_))))))))
    ·
     exact gct rfl (gS (gR (gM rfl (gM rfl (gB rfl (gA rfl (gA rfl (gE (gRt (gr2 results158 rfl ⟨ax, rfl, hm.pk [0] rfl rfl⟩))))))))))
    refine gcf rfl (gSk ?_)
    obtain ⟨aP, aX, rfl, az⟩ := ro_slice (hm.ow_rep 0 rfl)
    refine gBk (gMg (fun aK a w => ∃ (aQ : Value), St 45 [(0, v1), (1, (nV aK.1)), (6, aQ)] w0 (hp w0) [ow [aQ] aK.2] a w) (fun a hf => ⟨(.slice aP ([] : List Expr_).length aX), hf.sb rfl, hm.pk [0] rfl rfl⟩) ?_)
    repeat clear hm
    rintro af a7 aK a w ⟨aQ, hf, hm⟩ bL bE
    refine gv hf (gBk (gS (gR (gM rfl (gM rfl (gCg rfl call45 (spec_l2Read_rec _ list v1 (hm.now h1) aK.1 1) ?_))))))
    rintro aC bN cM w ⟨aL, rfl, hB⟩
    replace hm := hm.give hB; clear hB
    refine gM rfl (gX rfl (gX rfl (gAl hm zeroValue24 rfl fun aO w hm => gSN hm 0 sizeOf24 (one_cons rfl (one_cons rfl (one_cons rfl (one_cons (rep_one (hm.ow_rep 1 rfl)) one_nil)))) rfl fun w hm => gA rfl (gE (gS (gR (gM rfl (gY (yn (hm.blk_at 0 rfl) isAgg24 sizeOf24 rfl) (gf rfl (fun a hf => e_build (vs := #[(0, (.agg #[(nV aC.1.op), (nV aC.1.n_), (.string ⟨(aC.1.name).b.toArray⟩), aL]))]) (cs := [(nV aC.1.op), (nV aC.1.n_), (.string ⟨(aC.1.name).b.toArray⟩), aL]) et_22 hf hm rfl rfl (by kernel_rfl) rfl rfl) ?_)))))))))
    rintro _ w ⟨aM, rfl, hm⟩
    replace hm := hm.els_nil (α := Expr_)
    replace hm : Mem w0 (hp w0) _ [els [] ([] : List Expr_), blk aM [(nV aC.1.op), (nV aC.1.n_), (.string ⟨(aC.1.name).b.toArray⟩), aL] 24, blk aO [(nV aC.1.op), (nV aC.1.n_), (.string ⟨(aC.1.name).b.toArray⟩), aL] 24, ow [(nV aC.1.op), (nV aC.1.n_), (.string ⟨(aC.1.name).b.toArray⟩), aL] (aC.1 : Expr_), ow [aQ] aK.2] := mkx_Expr_ aC.1 hm 3 rfl
    replace hm := (hm.els_cons 0 3 (by decide) rfl rfl).pk (L' := [els [(nV aC.1.op), (nV aC.1.n_), (.string ⟨(aC.1.name).b.toArray⟩), aL] ([aC.1] : List Expr_), blk aM [(nV aC.1.op), (nV aC.1.n_), (.string ⟨(aC.1.name).b.toArray⟩), aL] 24, blk aO [(nV aC.1.op), (nV aC.1.n_), (.string ⟨(aC.1.name).b.toArray⟩), aL] 24, ow [aQ] aK.2]) [0, 1, 2, 4] rfl rfl
    replace hm := (hm.lit_els 1 0 (by decide) rfl rfl rfl rfl).pk (L' := [ow [(sV aM 0 1 1)] ([aC.1] : List Expr_), blk aO [(nV aC.1.op), (nV aC.1.n_), (.string ⟨(aC.1.name).b.toArray⟩), aL] 24, ow [aQ] aK.2]) [1, 2, 3] rfl rfl
    refine gb fun b5 bA => ?_
    obtain ⟨ai, b6⟩ := appM_some.1 bA
    replace hm := (hm.both 2 0 (by decide) rfl rfl).pk (L' := [blk aO [(nV aC.1.op), (nV aC.1.n_), (.string ⟨(aC.1.name).b.toArray⟩), aL] 24, both (ow [aQ] aK.2) (ow [(sV aM 0 1 1)] ([aC.1] : List Expr_))]) [1, 2] rfl rfl
    refine gf rfl (fun a hf => e_appendD (xs := aK.2) (ys := ([aC.1] : List Expr_)) 1 et_22 hf hm rfl rfl rfl rfl ai) ?_
    rintro aH w hm
    rw [b6] at hm
    refine gA rfl (gE (gS (gS (gJ hm (fun ae => [(0, v1), (6, aH), (8, (nV aC.2)), (32, (.bool (ae)))]) (fun ae => [ow [aH] b5]) (fun ae => ?_) ?_))))
    ·
     refine gR (gM rfl (gB rfl (gM rfl (gsd 28 rfl (fun ag => ?_) fun ag => ?_))))
     ·
      exact gO rfl (gO rfl (gO rfl (gKt rfl (gE (gz hm [1] rfl)))))
     exact gM rfl (gM rfl (gC hm rfl call156 (spec_l2Is_ok _ list v1 (hm.now h1) aC.2 (mkS [41])) fun ah bK w hm => gKf rfl (gE (gz hm [1] rfl))))
    repeat clear hm
    intro ae w hm
    refine gs 32 rfl (fun aj => ?_) fun aj => ?_
    ·
     exact gct rfl (gS (gR (gM rfl (gM rfl (gM rfl (gC hm rfl call180 (spec_l1Step_ok _ aC.2) fun bO bP w hm => gB rfl (gA rfl (gA rfl (gE (gRt (gLp bE a7 (gr2 results158 rfl ⟨aH, rfl, hm.pk [0] rfl rfl⟩))))))))))))
    refine gcf rfl (gSk (gS (gS (gR (gM rfl (gM rfl (gC hm rfl call156 (spec_l2Is_ok _ list v1 (hm.now h1) aC.2 (mkS [44])) fun aD bQ w hm => gN rfl (gE (gsn 41 rfl (fun ak => ?_) fun ak => ?_)))))))))
    ·
     exact gct rfl (gS (gR (gM rfl (gA rfl (gA rfl (gE (gRt (gLp bE a7 (gr2 results158 rfl ⟨aH, rfl, hm.pk [0] rfl rfl⟩)))))))))
    exact gcf rfl (gSk (gR (gM rfl (gB rfl (gA rfl (gE (gZe fun a hf => ⟨aH, hf.sb rfl, hm.pk [0] rfl rfl⟩)))))))
theorem spec_l2Read_ok (w0 : World) (list : List Word_) (v1 : Value) (h1 : GT.rep (hp w0) [v1] list) (at_ : Int) (level : Int) (r : Expr_ × Int) (hq : spec_l2Read list at_ level = some r) : Con Tryz.prog 45 [v1, (nV at_), (nV level)] w0 (fun v w' => ∃ (x1 : Value), v = (.tuple #[(.agg #[(nV r.1.op), (nV r.1.n_), (.string ⟨(r.1.name).b.toArray⟩), x1]), (nV r.2)]) ∧ Mem w0 (hp w0) w' [ow [x1] r.1.kids]) := (spec_l2Read_all list).1 at_ level r hq w0 v1 h1
theorem spec_l2Kids_ok (w0 : World) (op : Int) :
    ConM Tryz.prog 111 [(nV op)] w0 (spec_l2Kids op) fun r v w' => v = (.tuple #[(nV r.1), (nV r.2)]) ∧ Below w0.heap.size w0 w' := by
  unfold spec_l2Kids
  refine gcon func111 rfl fun r => ?_
  have hm := Mem.start w0
  refine gS (gR (gA rfl (gA rfl (gE (gS (gS (gR (gM rfl (gE (gBk (gS (gS (gR (gB rfl (gA rfl (gE (gJ hm (fun aA => [(4, (nV op)), (5, (.bool (aA)))]) (fun aA => []) (fun aA => ?_) ?_)))))))))))))))))
  ·
   refine gsd 5 rfl (fun aC => ?_) fun aC => ?_
   ·
    exact gct rfl (gSk (gz hm [] rfl))
   exact gcf rfl (gR (gB rfl (gA rfl (gE (gz hm [] rfl)))))
  repeat clear hm
  intro aA w hm
  refine gs 5 rfl (fun aD => ?_) fun aD => ?_
  ·
   exact gct rfl (gS (gR (gA rfl (gA rfl (gE (gRt (gr2 results111 rfl ⟨rfl, hm.below⟩)))))))
  refine gcf rfl (gS (gS (gR (gB rfl (gA rfl (gE (gJ hm (fun aB => [(4, (nV op)), (8, (.bool (aB)))]) (fun aB => []) (fun aB => ?_) ?_)))))))
  ·
   refine gsd 8 rfl (fun aE => ?_) fun aE => ?_
   ·
    exact gct rfl (gSk (gz hm [] rfl))
   exact gcf rfl (gR (gB rfl (gA rfl (gE (gz hm [] rfl)))))
  repeat clear hm
  intro aB w hm
  refine gs 8 rfl (fun aF => ?_) fun aF => ?_
  ·
   exact gct rfl (gS (gR (gA rfl (gA rfl (gE (gRt (gr2 results111 rfl ⟨rfl, hm.below⟩)))))))
  refine gcf rfl (gS (gR (gB rfl (gA rfl (gE (gsd 11 rfl (fun aG => ?_) fun aG => ?_))))))
  ·
   exact gct rfl (gS (gR (gA rfl (gA rfl (gE (gRt (gr2 results111 rfl ⟨rfl, hm.below⟩)))))))
  exact gcf rfl (gSk (gS (gR (gA rfl (gA rfl (gE (gRt (gr2 results111 rfl ⟨rfl, hm.below⟩))))))))
theorem spec_l2Form_all  : ∀ (e : Expr_) (deep : Int) (r : Bool), spec_l2Form e deep = some r → ∀ (w0 : World) (v1 : Value) (h1 : GT.rep (hp w0) [v1] e.kids), Con Tryz.prog 58 [(.agg #[(nV e.op), (nV e.n_), (.string ⟨(e.name).b.toArray⟩), v1]), (nV deep)] w0 (fun v w' => v = (.bool (r)) ∧ Below w0.heap.size w0 w') := by
  refine spec_l2Form.partial_correctness  (motive := fun e deep r => ∀ (w0 : World) (v1 : Value) (h1 : GT.rep (hp w0) [v1] e.kids), Con Tryz.prog 58 [(.agg #[(nV e.op), (nV e.n_), (.string ⟨(e.name).b.toArray⟩), v1]), (nV deep)] w0 (fun v w' => v = (.bool (r)) ∧ Below w0.heap.size w0 w')) ?_
  intro rec_ ih_ e deep r hq w0 v1 h1
  have spec_l2Form_rec : ∀ (w0 : World) (e : Expr_) (v1 : Value) (h1 : GT.rep (hp w0) [v1] e.kids) (deep : Int) (r : Bool) (hq : rec_ e deep = some r), Con Tryz.prog 58 [(.agg #[(nV e.op), (nV e.n_), (.string ⟨(e.name).b.toArray⟩), v1]), (nV deep)] w0 (fun v w' => v = (.bool (r)) ∧ Below w0.heap.size w0 w') := fun w0 e v1 h1 deep r hq => ih_ e deep r hq w0 v1 h1
  refine gconr (ρ := Bool) (R := fun r v w' => v = (.bool (r)) ∧ Below w0.heap.size w0 w') func58 rfl hq ?_
  have hm := Mem.start w0
  refine gS (gR (gBx hm rfl fun aA w hm => gA rfl (gE (gS (gR (gF fo_24_0 rfl (gL hm 0 isAgg3 rfl (gC hm rfl call111 (spec_l2Kids_ok _ e.op) fun aG ab w hm => gM rfl (gX rfl (gX rfl (gA rfl (gA rfl (gE (gS (gS (gJ hm (fun aB => [(1, (nV deep)), (2, (pV aA)), (31, (.bool (aB)))]) (fun aB => [blk aA [(nV e.op), (nV e.n_), (.string ⟨(e.name).b.toArray⟩), v1] 24]) (fun aB => ?_) ?_))))))))))))))))
  ·
   refine gR (gM rfl (gB rfl (gM rfl (gsd 17 rfl (fun aI => ?_) fun aI => ?_))))
   ·
    exact gO rfl (gO rfl (gO rfl (gO rfl (gKt rfl (gM rfl (gO rfl (gO rfl (gO rfl (gO rfl (gO rfl (gO rfl (gO rfl (gKt rfl (gE (gz hm [0] rfl)))))))))))))))
   refine gF fo_24_0 rfl (gL hm 0 isAgg3 rfl (gC hm rfl call112 (spec_l1In_ok _ e.op 1 13) fun ac ae w hm => gN rfl (gKf rfl (gM rfl (gsn 23 rfl (fun aJ => ?_) fun aJ => ?_)))))
   ·
    exact gO rfl (gO rfl (gO rfl (gO rfl (gO rfl (gO rfl (gO rfl (gKt rfl (gE (gz hm [0] rfl)))))))))
   refine gF fo_24_3 rfl (gL hm 0 isAgg22 rfl ?_)
   obtain ⟨af, ag, rfl, ah⟩ := ro_slice h1
   exact gY (yV st_22 rfl) (gM rfl (gM rfl (gC hm rfl call112 (spec_l1In_ok _ (e.kids.length : Int) aG.1 aG.2) fun ai aj w hm => gN rfl (gKf rfl (gE (gz hm [0] rfl))))))
  repeat clear hm
  intro aB w hm
  refine gs 31 rfl (fun aK => ?_) fun aK => ?_
  ·
   exact gct rfl (gS (gR (gA rfl (gE (gRt (gr1 results58 rfl ⟨rfl, hm.below⟩))))))
  refine gcf rfl (gSk (gS (gJ hm (fun aC => [(1, (nV deep)), (2, (pV aA)), (7, (.bool (aC)))]) (fun aC => [blk aA [(nV e.op), (nV e.n_), (.string ⟨(e.name).b.toArray⟩), v1] 24]) (fun aC => ?_) ?_)))
  ·
   refine gR (gF fo_24_0 rfl (gL hm 0 isAgg3 rfl (gB rfl (gM rfl (gsd 35 rfl (fun aL => ?_) fun aL => ?_)))))
   ·
    exact gO rfl (gO rfl (gO rfl (gKt rfl (gA rfl (gE (gz hm [0] rfl))))))
   exact gF fo_24_0 rfl (gL hm 0 isAgg3 rfl (gB rfl (gKf rfl (gA rfl (gE (gz hm [0] rfl))))))
  repeat clear hm
  intro aC w hm
  refine gS (gS (gJ hm (fun aD => [(1, (nV deep)), (2, (pV aA)), (69, (.bool (aD)))]) (fun aD => [blk aA [(nV e.op), (nV e.n_), (.string ⟨(e.name).b.toArray⟩), v1] 24]) (fun aD => ?_) ?_))
  ·
   refine gR (gM rfl (gF fo_24_2 rfl (gL hm 0 isAgg9 rfl (gC hm rfl call113 (spec_IsName_ok _ e.name) fun ak al w hm => gY (yG rfl (y_neqb underlying4 rfl rfl rfl)) (gM rfl (gsd 45 rfl (fun aM => ?_) fun aM => ?_))))))
   ·
    exact gO rfl (gO rfl (gO rfl (gO rfl (gO rfl (gO rfl (gO rfl (gKt rfl (gM rfl (gO rfl (gO rfl (gO rfl (gO rfl (gKt rfl (gM rfl (gO rfl (gO rfl (gO rfl (gO rfl (gO rfl (gO rfl (gO rfl (gO rfl (gKt rfl (gE (gz hm [0] rfl)))))))))))))))))))))))))
   refine gM rfl (gN rfl (gM rfl (gsn 48 rfl (fun aN => ?_) fun aN => ?_)))
   ·
    refine gF fo_24_2 rfl (gL hm 0 isAgg9 rfl (gY (yG rfl (y_neqs (p := e.name) (q := (mkS [])) rfl rfl rfl)) (gKt rfl (gKf rfl (gM rfl (gsd 54 rfl (fun aO => ?_) fun aO => ?_))))))
    ·
     exact gO rfl (gO rfl (gO rfl (gO rfl (gKt rfl (gM rfl (gO rfl (gO rfl (gO rfl (gO rfl (gO rfl (gO rfl (gO rfl (gO rfl (gKt rfl (gE (gz hm [0] rfl))))))))))))))))
    refine gF fo_24_1 rfl (gL hm 0 isAgg3 rfl (gC hm rfl call112 (spec_l1In_ok _ e.n_ 0 255) fun am an w hm => gN rfl (gKf rfl (gM rfl (gsn 60 rfl (fun aP => ?_) fun aP => ?_)))))
    ·
     exact gO rfl (gO rfl (gO rfl (gO rfl (gO rfl (gO rfl (gO rfl (gO rfl (gKt rfl (gE (gz hm [0] rfl))))))))))
    refine gF fo_24_0 rfl (gL hm 0 isAgg3 rfl (gB rfl (gM rfl (gsd 64 rfl (fun aQ => ?_) fun aQ => ?_))))
    ·
     exact gF fo_24_1 rfl (gL hm 0 isAgg3 rfl (gB rfl (gKt rfl (gKf rfl (gE (gz hm [0] rfl))))))
    exact gO rfl (gO rfl (gO rfl (gKf rfl (gKf rfl (gE (gz hm [0] rfl))))))
   refine gO rfl (gO rfl (gO rfl (gKf rfl (gKf rfl (gM rfl (gF fo_24_1 rfl (gL hm 0 isAgg3 rfl (gC hm rfl call112 (spec_l1In_ok _ e.n_ 0 255) fun ao ap w hm => gN rfl (gKf rfl (gM rfl (gsn 60 rfl (fun aR => ?_) fun aR => ?_)))))))))))
   ·
    exact gO rfl (gO rfl (gO rfl (gO rfl (gO rfl (gO rfl (gO rfl (gO rfl (gKt rfl (gE (gz hm [0] rfl))))))))))
   refine gF fo_24_0 rfl (gL hm 0 isAgg3 rfl (gB rfl (gM rfl (gsd 64 rfl (fun aT => ?_) fun aT => ?_))))
   ·
    exact gF fo_24_1 rfl (gL hm 0 isAgg3 rfl (gB rfl (gKt rfl (gKf rfl (gE (gz hm [0] rfl))))))
   exact gO rfl (gO rfl (gO rfl (gKf rfl (gKf rfl (gE (gz hm [0] rfl))))))
  repeat clear hm
  intro aD w hm
  refine gs 69 rfl (fun aU => ?_) fun aU => ?_
  ·
   exact gct rfl (gS (gR (gA rfl (gE (gRt (gr1 results58 rfl ⟨rfl, hm.below⟩))))))
  refine gcf rfl (gSk (gS (gS (gR (gA rfl (gE (gBk (gNf hm (fun aE aH => [(1, (nV deep)), (2, (pV aA)), (8, (nV aE))]) (fun aE aH => [blk aA [(nV e.op), (nV e.n_), (.string ⟨(e.name).b.toArray⟩), v1] 24]) [0] rfl ?_ ?_))))))))
  ·
   repeat clear hm
   intro aq aV aE aH w hm ar au av aW
   refine gS (gS (gR (gM rfl (gF fo_24_3 rfl (gL hm 0 isAgg22 rfl ?_)))))
   obtain ⟨aw, ax, rfl, ay⟩ := ro_slice h1
   refine gY (yV st_22 rfl) (gB rfl (gE (go _ 74 rfl (decide_eq_true (by omega)) (gct rfl (gSk (gS (gBk (gS (gR (gF fo_24_3 rfl (gL hm 0 isAgg22 rfl (gM rfl (gg fun aX aY aF => ?_)))))))))))))
   obtain ⟨az, bA, bB, he⟩ := idx_form' h1 aF
   obtain ⟨rfl, _, rfl⟩ := sl3 he
   obtain ⟨aZ, a7, a8⟩ := rk_Expr_ h1 aF
   refine gI st_22 aY (idx_lt aF) rfl (gY (yn (a7.mono hm.lez) isAgg24 sizeOf24 rfl) (gM rfl (gB rfl (gC hm rfl call58 (spec_l2Form_rec _ aX aZ (hm.now a8) (w64 (deep - 1))) fun bC bD w hm => gN rfl (gE (gsn 85 rfl (fun aa => ?_) fun aa => ?_))))))
   ·
    exact gct rfl (gS (gR (gA rfl (gE (gRt (gLr aW aV (gr1 results58 rfl ⟨rfl, hm.below⟩)))))))
   exact gcf rfl (gSk (gR (gM rfl (gP (by omega) (by omega) rfl (gA rfl (gE (gze hm [0] rfl)))))))
  repeat clear hm
  intro bE bF w hm bG bH
  refine gS (gS (gR (gM rfl (gF fo_24_3 rfl (gL hm 0 isAgg22 rfl ?_)))))
  obtain ⟨bJ, bK, rfl, bL⟩ := ro_slice h1
  exact gY (yV st_22 rfl) (gB rfl (gE (go _ 74 rfl (decide_eq_false (by omega)) (gcf rfl (gXt (gHh (gS (gR (gA rfl (gE (gRt (gr1 results58 rfl ⟨rfl, hm.below⟩))))))))))))
theorem spec_l2Form_ok (w0 : World) (e : Expr_) (v1 : Value) (h1 : GT.rep (hp w0) [v1] e.kids) (deep : Int) (r : Bool) (hq : spec_l2Form e deep = some r) : Con Tryz.prog 58 [(.agg #[(nV e.op), (nV e.n_), (.string ⟨(e.name).b.toArray⟩), v1]), (nV deep)] w0 (fun v w' => v = (.bool (r)) ∧ Below w0.heap.size w0 w') := spec_l2Form_all e deep r hq w0 v1 h1
theorem spec_l2Parts_all  : ∀ (e : Expr_) (r : Int), spec_l2Parts e = some r → ∀ (w0 : World) (v1 : Value) (h1 : GT.rep (hp w0) [v1] e.kids), Con Tryz.prog 59 [(.agg #[(nV e.op), (nV e.n_), (.string ⟨(e.name).b.toArray⟩), v1])] w0 (fun v w' => v = (nV r) ∧ Below w0.heap.size w0 w') := by
  refine spec_l2Parts.partial_correctness  (motive := fun e r => ∀ (w0 : World) (v1 : Value) (h1 : GT.rep (hp w0) [v1] e.kids), Con Tryz.prog 59 [(.agg #[(nV e.op), (nV e.n_), (.string ⟨(e.name).b.toArray⟩), v1])] w0 (fun v w' => v = (nV r) ∧ Below w0.heap.size w0 w')) ?_
  intro rec_ ih_ e r hq w0 v1 h1
  have spec_l2Parts_rec : ∀ (w0 : World) (e : Expr_) (v1 : Value) (h1 : GT.rep (hp w0) [v1] e.kids) (r : Int) (hq : rec_ e = some r), Con Tryz.prog 59 [(.agg #[(nV e.op), (nV e.n_), (.string ⟨(e.name).b.toArray⟩), v1])] w0 (fun v w' => v = (nV r) ∧ Below w0.heap.size w0 w') := fun w0 e v1 h1 r hq => ih_ e r hq w0 v1 h1
  refine gconr (ρ := Int) (R := fun r v w' => v = (nV r) ∧ Below w0.heap.size w0 w') func59 rfl hq ?_
  have hm := Mem.start w0
  refine gS (gR (gBx hm rfl fun aD w hm => gA rfl (gE (gS (gR (gA rfl (gE (gS (gS (gR (gA rfl (gE (gBk (gNf hm (fun aA aB => [(1, (pV aD)), (3, (nV aB)), (4, (nV aA))]) (fun aA aB => [blk aD [(nV e.op), (nV e.n_), (.string ⟨(e.name).b.toArray⟩), v1] 24]) [0] rfl ?_ ?_))))))))))))))
  ·
   repeat clear hm
   intro _ _ aA aB w hm aJ aK aL _
   refine gS (gS (gR (gM rfl (gF fo_24_3 rfl (gL hm 0 isAgg22 rfl ?_)))))
   obtain ⟨aM, aN, rfl, aO⟩ := ro_slice h1
   refine gY (yV st_22 rfl) (gB rfl (gE (go _ 9 rfl (decide_eq_true (by omega)) (gct rfl (gSk (gS (gBk (gR (gM rfl (gF fo_24_3 rfl (gL hm 0 isAgg22 rfl (gM rfl (gg fun aE aF aC => ?_)))))))))))))
   obtain ⟨aP, aQ, aR, he⟩ := idx_form' h1 aC
   obtain ⟨rfl, _, rfl⟩ := sl3 he
   obtain ⟨aG, aH, aI⟩ := rk_Expr_ h1 aC
   exact gI st_22 aF (idx_lt aC) rfl (gY (yn (aH.mono hm.lez) isAgg24 sizeOf24 rfl) (gC hm rfl call59 (spec_l2Parts_rec _ aE aG (hm.now aI)) fun aT aU w hm => gB rfl (gA rfl (gE (gR (gM rfl (gP (by omega) (by omega) rfl (gA rfl (gE (gze hm [0] rfl))))))))))
  repeat clear hm
  intro aV aW w hm aX aY
  refine gS (gS (gR (gM rfl (gF fo_24_3 rfl (gL hm 0 isAgg22 rfl ?_)))))
  obtain ⟨aZ, a7, rfl, a8⟩ := ro_slice h1
  exact gY (yV st_22 rfl) (gB rfl (gE (go _ 9 rfl (decide_eq_false (by omega)) (gcf rfl (gXt (gHh (gS (gR (gM rfl (gA rfl (gE (gRt (gr1 results59 rfl ⟨rfl, hm.below⟩)))))))))))))
theorem spec_l2Parts_ok (w0 : World) (e : Expr_) (v1 : Value) (h1 : GT.rep (hp w0) [v1] e.kids) (r : Int) (hq : spec_l2Parts e = some r) : Con Tryz.prog 59 [(.agg #[(nV e.op), (nV e.n_), (.string ⟨(e.name).b.toArray⟩), v1])] w0 (fun v w' => v = (nV r) ∧ Below w0.heap.size w0 w') := spec_l2Parts_all e r hq w0 v1 h1
theorem spec_ExprValid_ok (w0 : World) (e : Expr_) (v1 : Value) (h1 : GT.rep (hp w0) [v1] e.kids) :
    ConM Tryz.prog 22 [(.agg #[(nV e.op), (nV e.n_), (.string ⟨(e.name).b.toArray⟩), v1])] w0 (spec_ExprValid e) fun r v w' => v = (.bool (r)) ∧ Below w0.heap.size w0 w' := by
  unfold spec_ExprValid
  refine gcon func22 rfl fun r => ?_
  have hm := Mem.start w0
  refine gS (gR (gBx hm rfl fun aC w hm => gA rfl (gE (gS (gJ hm (fun aA => [(2, (.bool (aA)))]) (fun aA => []) (fun aA => ?_) ?_)))))
  ·
   refine gR (gY (yn (hm.blk_at 0 rfl) isAgg24 sizeOf24 rfl) (gC hm rfl call58 (spec_l2Form_ok _ e v1 (hm.now h1) 6) fun aD aE w hm => gM rfl (gs 5 rfl (fun aB => ?_) fun aB => ?_)))
   ·
    exact gY (yn (hm.blk_at 0 rfl) isAgg24 sizeOf24 rfl) (gC hm rfl call59 (spec_l2Parts_ok _ e v1 (hm.now h1)) fun aF aG w hm => gB rfl (gKt rfl (gA rfl (gE (gz hm [] rfl)))))
   exact gO rfl (gO rfl (gO rfl (gKf rfl (gA rfl (gE (gz hm [] rfl))))))
  repeat clear hm
  intro aA w hm
  exact gRt (gr1 results22 rfl ⟨rfl, hm.below⟩)
theorem spec_ReadExpr_ok (w0 : World) (s_ : Str) :
    ConM Tryz.prog 13 [(.string ⟨(s_).b.toArray⟩)] w0 (spec_ReadExpr s_) fun r v w' => ∃ (x1 : Value), v = (.tuple #[(.agg #[(nV r.1.op), (nV r.1.n_), (.string ⟨(r.1.name).b.toArray⟩), x1]), (.bool (r.2))]) ∧ Mem w0 (hp w0) w' [ow [x1] r.1.kids] := by
  unfold spec_ReadExpr
  refine gcon func13 rfl fun r => ?_
  have hm := Mem.start w0
  refine gS (gR (gAl hm zeroValue24 rfl fun aD w hm => gA rfl (gE (gS (gR (gM rfl (gCg rfl call44 (spec_CutWords_ok _ s_) ?_)))))))
  rintro aF aK aL w ⟨aG, rfl, hB⟩
  replace hm := hm.give hB; clear hB
  refine gM rfl (gX rfl (gX rfl (gA rfl (gA rfl (gE (gS (gS (gR (gM rfl (gN rfl (gE (gsn 14 rfl (fun aH => ?_) fun aH => ?_))))))))))))
  ·
   refine gct rfl (gS (gR (gY (yG rfl (y_build (vs := []) (cs := #[(nV 0), (nV 0), (.string ⟨((mkS [])).b.toArray⟩), (.slice none 0 0)]) rfl rfl (by kernel_rfl))) (gSN hm 1 sizeOf24 (one_cons rfl (one_cons rfl (one_cons rfl (one_cons rfl one_nil)))) rfl fun w hm => gA rfl (gE (gRt ?_))))))
   replace hm := hm.nilow (α := Expr_)
   exact grct 2 results13 hm rfl isAgg24 sizeOf24 ⟨(.slice none 0 0), rfl, hm.pk [0] rfl rfl⟩
  refine gcf rfl (gSk (gS (gR (gM rfl (gCg rfl call45 (spec_l2Read_ok _ aF.1 aG (hm.ow_rep 0 rfl) 0 1) ?_)))))
  rintro aA aM aN w ⟨aB, rfl, hB⟩
  replace hm := hm.give hB; clear hB
  refine gM rfl (gX rfl (gX rfl (gAl hm zeroValue24 rfl fun aE w hm => gSN hm 0 sizeOf24 (one_cons rfl (one_cons rfl (one_cons rfl (one_cons (rep_one (hm.ow_rep 1 rfl)) one_nil)))) rfl fun w hm => gA rfl (gE (gS (gS (gJ hm (fun aC => [(2, (pV aD)), (6, (pV aE)), (29, (.bool (aC)))]) (fun aC => [blk aD [(nV 0), (nV 0), (.string ⟨((mkS [])).b.toArray⟩), (.slice none 0 0)] 24, blk aE [(nV aA.1.op), (nV aA.1.n_), (.string ⟨(aA.1.name).b.toArray⟩), aB] 24, ow [aB] aA.1.kids]) (fun aC => ?_) ?_)))))))
  ·
   refine gR (gM rfl (gM rfl ?_))
   obtain ⟨aO, aP, rfl, aQ⟩ := ro_slice (hm.ow_rep 2 rfl)
   refine gY (yV st_41 rfl) (gB rfl (gM rfl (gsd 25 rfl (fun aI => ?_) fun aI => ?_)))
   ·
    exact gO rfl (gO rfl (gO rfl (gKt rfl (gE (gz hm [3, 0, 1] rfl)))))
   exact gY (yn (hm.blk_at 0 rfl) isAgg24 sizeOf24 rfl) (gC hm rfl call22 (spec_ExprValid_ok _ aA.1 aB (hm.ow_rep 1 rfl)) fun aR aT w hm => gN rfl (gKf rfl (gE (gz hm [3, 0, 1] rfl))))
  repeat clear hm
  intro aC w hm
  refine gs 29 rfl (fun aJ => ?_) fun aJ => ?_
  ·
   refine gct rfl (gS (gR (gY (yG rfl (y_build (vs := []) (cs := #[(nV 0), (nV 0), (.string ⟨((mkS [])).b.toArray⟩), (.slice none 0 0)]) rfl rfl (by kernel_rfl))) (gSN hm 0 sizeOf24 (one_cons rfl (one_cons rfl (one_cons rfl (one_cons rfl one_nil)))) rfl fun w hm => gA rfl (gE (gRt ?_))))))
   replace hm := hm.nilow (α := Expr_)
   exact grct 1 results13 hm rfl isAgg24 sizeOf24 ⟨(.slice none 0 0), rfl, hm.pk [0] rfl rfl⟩
  exact gcf rfl (gSk (gS (gR (gY (yn (hm.blk_at 1 rfl) isAgg24 sizeOf24 rfl) (gSN hm 0 sizeOf24 (one_cons rfl (one_cons rfl (one_cons rfl (one_cons (rep_one (hm.ow_rep 2 rfl)) one_nil)))) rfl fun w hm => gA rfl (gE (gRt (grct 0 results13 hm rfl isAgg24 sizeOf24 ⟨aB, rfl, hm.pk [2] rfl rfl⟩))))))))
theorem impl_CutWords_1_ok (w0 : World) (p0 : UInt8) :
    ConM Tryz.prog 66 [(.int .u8 ((p0).toNat : Int))] w0 (impl_CutWords_1 p0) fun r v w' => v = (.bool (r)) ∧ Below w0.heap.size w0 w' := by
  unfold impl_CutWords_1
  refine gcon func66 rfl fun r => ?_
  have hm := Mem.start w0
  exact gS (gR (gA rfl (gE (gS (gR (gA rfl (gE (gRt (gr1 results66 rfl ⟨rfl, hm.below⟩)))))))))
theorem impl_isLetter_ok (w0 : World) (b_ : UInt8) :
    ConM Tryz.prog 67 [(.int .u8 ((b_).toNat : Int))] w0 (impl_isLetter b_) fun r v w' => v = (.bool (r)) ∧ Below w0.heap.size w0 w' := by
  unfold impl_isLetter
  refine gcon func67 rfl fun r => ?_
  have hm := Mem.start w0
  refine gS (gR (gA rfl (gE (gS (gJ hm (fun aA => [(2, (.bool (aA)))]) (fun aA => []) (fun aA => ?_) ?_)))))
  ·
   refine gR (gM rfl (gY (yG rfl (y_leq8 (b := (97 : UInt8)) (c := b_) rfl rfl rfl)) (gM rfl (gsd 5 rfl (fun aB => ?_) fun aB => ?_))))
   ·
    exact gM rfl (gY (yG rfl (y_leq8 (b := b_) (c := (122 : UInt8)) rfl rfl rfl)) (gKt rfl (gA rfl (gE (gz hm [] rfl)))))
   exact gO rfl (gO rfl (gKf rfl (gA rfl (gE (gz hm [] rfl)))))
  repeat clear hm
  intro aA w hm
  exact gRt (gr1 results67 rfl ⟨rfl, hm.below⟩)
theorem impl_isDigit_ok (w0 : World) (b_ : UInt8) :
    ConM Tryz.prog 68 [(.int .u8 ((b_).toNat : Int))] w0 (impl_isDigit b_) fun r v w' => v = (.bool (r)) ∧ Below w0.heap.size w0 w' := by
  unfold impl_isDigit
  refine gcon func68 rfl fun r => ?_
  have hm := Mem.start w0
  refine gS (gR (gA rfl (gE (gS (gJ hm (fun aA => [(2, (.bool (aA)))]) (fun aA => []) (fun aA => ?_) ?_)))))
  ·
   refine gR (gM rfl (gY (yG rfl (y_leq8 (b := (48 : UInt8)) (c := b_) rfl rfl rfl)) (gM rfl (gsd 5 rfl (fun aB => ?_) fun aB => ?_))))
   ·
    exact gM rfl (gY (yG rfl (y_leq8 (b := b_) (c := (57 : UInt8)) rfl rfl rfl)) (gKt rfl (gA rfl (gE (gz hm [] rfl)))))
   exact gO rfl (gO rfl (gKf rfl (gA rfl (gE (gz hm [] rfl)))))
  repeat clear hm
  intro aA w hm
  exact gRt (gr1 results68 rfl ⟨rfl, hm.below⟩)
theorem slices_Index_S_string_string_ok (w0 : World) (s_ : List Str) (v1 : Value) (h1 : GT.rep (hp w0) [v1] s_) (v_ : Str) :
    ConM Tryz.prog 163 [v1, (.string ⟨(v_).b.toArray⟩)] w0 (slices_Index_S_string_string s_ v_) fun r v w' => v = (nV r) ∧ Below w0.heap.size w0 w' := by
  unfold slices_Index_S_string_string
  refine gcon func163 rfl fun r => ?_
  have hm := Mem.start w0
  refine gS (gR (gA rfl (gE (gS (gS (gR (gM rfl ?_)))))))
  obtain ⟨aE, aF, rfl, aK⟩ := ro_slice h1
  refine gY (yV st_74 rfl) (gM rfl (gE (gBk (gNf hm (fun aA aC => [(0, (.slice aE s_.length aF)), (1, (.string ⟨(v_).b.toArray⟩)), (7, (nV ((s_.length : Int)))), (8, (nV aA))]) (fun aA aC => []) [] rfl ?_ ?_))))
  ·
   repeat clear hm
   intro aL aG aA aC w hm aM aN aO aH
   refine gS (gR (gB rfl (gE (gS (go _ 9 rfl (decide_eq_true (by omega)) (gct rfl (gSk (gS (gBk (gS (gR (gM rfl (gA rfl (gE (gS (gR (gM rfl (gM rfl (gM rfl (gg fun aD aI aB => ?_))))))))))))))))))))
   obtain ⟨aP, aQ, aR, he⟩ := idx_form h1 aB
   obtain ⟨rfl, _, rfl⟩ := sl3 he
   refine gI st_74 aI (idx_lt aB) rfl (gY (yl isAgg9 ((flat_cells (cs := [(.string ⟨(aD).b.toArray⟩)]) (hm.now h1) aB rfl).cell (j := 0) rfl) rfl) (gY (yG rfl (y_eqls (p := v_) (q := aD) rfl rfl rfl)) (gE (gsd 16 rfl (fun aJ => ?_) fun aJ => ?_))))
   ·
    exact gct rfl (gS (gR (gM rfl (gA rfl (gE (gRt (gLr aH aG (gr1 results163 rfl ⟨rfl, hm.below⟩))))))))
   exact gcf rfl (gSk (gR (gP (by omega) (by omega) rfl (gM rfl (gE (gze hm [] rfl))))))
  repeat clear hm
  intro aT aU w hm aV aW
  exact gS (gR (gB rfl (gE (gS (go _ 9 rfl (decide_eq_false (by omega)) (gcf rfl (gXt (gHh (gS (gR (gA rfl (gE (gRt (gr1 results163 rfl ⟨rfl, hm.below⟩))))))))))))))
theorem slices_Contains_S_string_string_ok (w0 : World) (s_ : List Str) (v1 : Value) (h1 : GT.rep (hp w0) [v1] s_) (v_ : Str) :
    ConM Tryz.prog 120 [v1, (.string ⟨(v_).b.toArray⟩)] w0 (slices_Contains_S_string_string s_ v_) fun r v w' => v = (.bool (r)) ∧ Below w0.heap.size w0 w' := by
  unfold slices_Contains_S_string_string
  refine gcon func120 rfl fun r => ?_
  have hm := Mem.start w0
  exact gS (gR (gA rfl (gE (gS (gR (gM rfl (gM rfl (gC hm rfl call163 (slices_Index_S_string_string_ok _ s_ v1 (hm.now h1) v_) fun aA aB w hm => gB rfl (gA rfl (gE (gRt (gr1 results120 rfl ⟨rfl, hm.below⟩))))))))))))
theorem impl_wordOf_ok (w0 : World) (s_ : Str) (hG1 : GT.rep (hp w0) [.slice (some ⟨1, 0, none⟩) 9 9] glob_impl_keys) :
    ConM Tryz.prog 69 [(.string ⟨(s_).b.toArray⟩)] w0 (impl_wordOf s_) fun r v w' => v = (.agg #[(nV r.kind), (.string ⟨(r.text).b.toArray⟩)]) ∧ Below w0.heap.size w0 w' := by
  unfold impl_wordOf
  refine gcon func69 rfl fun r => ?_
  have hm := Mem.start w0
  refine gS (gR (gAl hm zeroValue56 rfl fun aJ w hm => gE (gS (gBk (gS (gR (gM rfl (gg fun aA aB aC => gY (yG rfl (y_idx_str (p := s_) underlying9 rfl rfl rfl aB aC)) (gC hm rfl call68 (impl_isDigit_ok _ aA) fun aK aL w hm => gA rfl (gE (gs 3 rfl (fun aD => ?_) fun aD => ?_)))))))))))
  ·
   exact gct rfl (gS (gR (gM rfl (gY (yG rfl (y_build (vs := [(0, (nV 2)), (1, (.string ⟨(s_).b.toArray⟩))]) (cs := #[(nV 2), (.string ⟨(s_).b.toArray⟩)]) rfl rfl (by kernel_rfl))) (gSN hm 0 sizeOf56 (one_cons rfl (one_cons rfl one_nil)) rfl fun w hm => gE (gRt (grc 0 results69 hm rfl isAgg56 sizeOf56 ⟨rfl, hm.below⟩)))))))
  refine gcf rfl (gS (gR (gY (yG rfl (y_slcArr (n := 9) underlying129 rfl rfl sizeOf9)) (gM rfl (gC hm rfl call120 (slices_Contains_S_string_string_ok _ glob_impl_keys (sV 1 0 9 9) (hm.now hG1) s_) fun aM aN w hm => gA rfl (gE (gs 9 rfl (fun aE => ?_) fun aE => ?_)))))))
  ·
   exact gct rfl (gS (gR (gM rfl (gY (yG rfl (y_build (vs := [(0, (nV 4)), (1, (.string ⟨(s_).b.toArray⟩))]) (cs := #[(nV 4), (.string ⟨(s_).b.toArray⟩)]) rfl rfl (by kernel_rfl))) (gSN hm 0 sizeOf56 (one_cons rfl (one_cons rfl one_nil)) rfl fun w hm => gE (gRt (grc 0 results69 hm rfl isAgg56 sizeOf56 ⟨rfl, hm.below⟩)))))))
  refine gcf rfl (gS (gR (gM rfl (gg fun aF aG aH => gY (yG rfl (y_idx_str (p := s_) underlying9 rfl rfl rfl aG aH)) (gC hm rfl call67 (impl_isLetter_ok _ aF) fun aO aP w hm => gA rfl (gE (gs 15 rfl (fun aI => ?_) fun aI => ?_)))))))
  ·
   exact gct rfl (gS (gR (gM rfl (gY (yG rfl (y_build (vs := [(0, (nV 1)), (1, (.string ⟨(s_).b.toArray⟩))]) (cs := #[(nV 1), (.string ⟨(s_).b.toArray⟩)]) rfl rfl (by kernel_rfl))) (gSN hm 0 sizeOf56 (one_cons rfl (one_cons rfl one_nil)) rfl fun w hm => gE (gRt (grc 0 results69 hm rfl isAgg56 sizeOf56 ⟨rfl, hm.below⟩)))))))
  exact gcf rfl (gSk (gS (gR (gM rfl (gY (yG rfl (y_build (vs := [(0, (nV 3)), (1, (.string ⟨(s_).b.toArray⟩))]) (cs := #[(nV 3), (.string ⟨(s_).b.toArray⟩)]) rfl rfl (by kernel_rfl))) (gSN hm 0 sizeOf56 (one_cons rfl (one_cons rfl one_nil)) rfl fun w hm => gE (gRt (grc 0 results69 hm rfl isAgg56 sizeOf56 ⟨rfl, hm.below⟩))))))))
theorem impl_within_ok (w0 : World) (n_ : Int) (low : Int) (high : Int) :
    ConM Tryz.prog 89 [(nV n_), (nV low), (nV high)] w0 (impl_within n_ low high) fun r v w' => v = (.bool (r)) ∧ Below w0.heap.size w0 w' := by
  unfold impl_within
  refine gcon func89 rfl fun r => ?_
  have hm := Mem.start w0
  refine gS (gR (gA rfl (gE (gS (gJ hm (fun aA => [(6, (.bool (aA)))]) (fun aA => []) (fun aA => ?_) ?_)))))
  ·
   refine gR (gM rfl (gM rfl (gB rfl (gM rfl (gsd 10 rfl (fun aB => ?_) fun aB => ?_)))))
   ·
    exact gM rfl (gM rfl (gB rfl (gKt rfl (gA rfl (gE (gz hm [] rfl))))))
   exact gO rfl (gO rfl (gO rfl (gKf rfl (gA rfl (gE (gz hm [] rfl))))))
  repeat clear hm
  intro aA w hm
  exact gRt (gr1 results89 rfl ⟨rfl, hm.below⟩)
theorem strings_IndexFunc_ok (w0 : World) (s_ : Str) (f : Int → Option Bool) (fv1 : Value) (hfn1 : ∀ (w : World) (y0 : Int) (r : Bool), Below w0.heap.size w0 w → f y0 = some r → FnOk Tryz.prog fv1 [(.int .i32 (y0))] w (fun v w' => v = (.bool (r)) ∧ Below w.heap.size w w')) :
    ConM Tryz.prog 141 [(.string ⟨(s_).b.toArray⟩), fv1] w0 (strings_IndexFunc s_ f) fun r v w' => v = (nV r) ∧ Below w0.heap.size w0 w' := idxFunc_con laysGw15 w0 s_ f fv1 hfn1
theorem impl_IsName_1_ok (w0 : World) (r_ : Int) :
    ConM Tryz.prog 142 [(.int .i32 (r_))] w0 (impl_IsName_1 r_) fun r v w' => v = (.bool (r)) ∧ Below w0.heap.size w0 w' := by
  unfold impl_IsName_1
  refine gcon func142 rfl fun r => ?_
  have hm := Mem.start w0
  refine gS (gR (gA rfl (gE (gS (gJ hm (fun aA => [(2, (.bool (aA)))]) (fun aA => []) (fun aA => ?_) ?_)))))
  ·
   refine gR (gM rfl (gB rfl (gM rfl (gsd 5 rfl (fun aB => ?_) fun aB => ?_))))
   ·
    exact gO rfl (gO rfl (gKt rfl (gA rfl (gE (gz hm [] rfl)))))
   exact gM rfl (gB rfl (gKf rfl (gA rfl (gE (gz hm [] rfl)))))
  repeat clear hm
  intro aA w hm
  exact gRt (gr1 results142 rfl ⟨rfl, hm.below⟩)
theorem impl_IsName_ok (w0 : World) (s_ : Str) (hG1 : GT.rep (hp w0) [.slice (some ⟨1, 0, none⟩) 9 9] glob_impl_keys) :
    ConM Tryz.prog 90 [(.string ⟨(s_).b.toArray⟩)] w0 (impl_IsName s_) fun r v w' => v = (.bool (r)) ∧ Below w0.heap.size w0 w' := by
  unfold impl_IsName
  refine gcon func90 rfl fun r => ?_
  have hm := Mem.start w0
  refine gS (gR (gA rfl (gE (gS (gJ hm (fun aA => [(2, (.bool (aA)))]) (fun aA => []) (fun aA => ?_) ?_)))))
  ·
   refine gR (gM rfl (gY (yG rfl (y_len_str (p := s_) underlying9 rfl rfl)) ?_))
   have aD := (s_).h
   refine gC hm rfl call89 (impl_within_ok _ ((s_).b.length : Int) 1 4) fun aE aF w hm => gM rfl (gs 6 rfl (fun aB => ?_) fun aB => ?_)
   ·
    refine gM rfl (gC hm rfl call141 (strings_IndexFunc_ok _ s_ (fun y0 => impl_IsName_1 y0) (.func (.func 142) #[] #[]) (fun w y0 r hB hq => ⟨142, [], rfl, call142, impl_IsName_1_ok w y0  r hq⟩)) fun aG aH w hm => gB rfl (gKt rfl (gM rfl (gsd 11 rfl (fun aC => ?_) fun aC => ?_))))
    ·
     exact gY (yG rfl (y_slcArr (n := 9) underlying129 rfl rfl sizeOf9)) (gM rfl (gC hm rfl call120 (slices_Contains_S_string_string_ok _ glob_impl_keys (sV 1 0 9 9) (hm.now hG1) s_) fun aI aJ w hm => gN rfl (gKt rfl (gA rfl (gE (gz hm [] rfl))))))
    exact gO rfl (gO rfl (gO rfl (gO rfl (gKf rfl (gA rfl (gE (gz hm [] rfl)))))))
   exact gO rfl (gO rfl (gO rfl (gKf rfl (gM rfl (gO rfl (gO rfl (gO rfl (gO rfl (gKf rfl (gA rfl (gE (gz hm [] rfl))))))))))))
  repeat clear hm
  intro aA w hm
  exact gRt (gr1 results90 rfl ⟨rfl, hm.below⟩)
theorem strconv_Atoi_ok (w0 : World) (s_ : Str) :
    ConM Tryz.prog 164 [(.string ⟨(s_).b.toArray⟩)] w0 (strconv_Atoi s_) fun r v w' => v = (.tuple #[(nV r.1), .nilIface]) ∧ Below w0.heap.size w0 w' := atoi_con lays172 w0 s_
theorem impl_decimal_ok (w0 : World) (s_ : Str) (most : Int) :
    ConM Tryz.prog 121 [(.string ⟨(s_).b.toArray⟩), (nV most)] w0 (impl_decimal s_ most) fun r v w' => v = (nV r) ∧ Below w0.heap.size w0 w' := by
  unfold impl_decimal
  refine gcon func121 rfl fun r => ?_
  have hm := Mem.start w0
  refine gS (gR (gA rfl (gE (gS (gS (gJ hm (fun aA => [(0, (.string ⟨(s_).b.toArray⟩)), (1, (nV most)), (24, (.bool (aA)))]) (fun aA => []) (fun aA => ?_) ?_))))))
  ·
   refine gR (gM rfl (gY (yG rfl (y_eqls (p := s_) (q := (mkS [])) rfl rfl rfl)) (gM rfl (gsd 10 rfl (fun aD => ?_) fun aD => ?_))))
   ·
    exact gO rfl (gO rfl (gO rfl (gKt rfl (gM rfl (gO rfl (gO rfl (gO rfl (gO rfl (gO rfl (gO rfl (gO rfl (gO rfl (gKt rfl (gE (gz hm [] rfl)))))))))))))))
   refine gM rfl (gY (yG rfl (y_len_str (p := s_) underlying9 rfl rfl)) ?_)
   have aR := (s_).h
   refine gB rfl (gKf rfl (gM rfl (gsd 15 rfl (fun aE => ?_) fun aE => ?_)))
   ·
    exact gO rfl (gO rfl (gO rfl (gO rfl (gO rfl (gO rfl (gO rfl (gO rfl (gKt rfl (gE (gz hm [] rfl))))))))))
   refine gM rfl (gY (yG rfl (y_len_str (p := s_) underlying9 rfl rfl)) (gB rfl (gM rfl (gsd 19 rfl (fun aF => ?_) fun aF => ?_))))
   ·
    exact gM rfl (gg fun aG aH aI => gY (yG rfl (y_idx_str (p := s_) underlying9 rfl rfl rfl aH aI)) (gY (yG rfl (y_eql8 (b := aG) (c := (48 : UInt8)) rfl rfl rfl)) (gKt rfl (gKf rfl (gE (gz hm [] rfl))))))
   exact gO rfl (gO rfl (gO rfl (gKf rfl (gKf rfl (gE (gz hm [] rfl))))))
  repeat clear hm
  intro aA w hm
  refine gs 24 rfl (fun aJ => ?_) fun aJ => ?_
  ·
   exact gct rfl (gS (gR (gA rfl (gE (gRt (gr1 results121 rfl ⟨rfl, hm.below⟩))))))
  refine gcf rfl (gSk (gS (gS (gR (gM rfl (gY (yG rfl (y_len_str (p := s_) underlying9 rfl rfl)) ?_))))))
  have aT := (s_).h
  refine gM rfl (gE (gBk (gNf hm (fun aB aC => [(0, (.string ⟨(s_).b.toArray⟩)), (1, (nV most)), (26, (nV (((s_).b.length : Int)))), (27, (nV aB))]) (fun aB aC => []) [] rfl ?_ ?_)))
  ·
   repeat clear hm
   intro aU aK aB aC w hm aV aW aX aL
   refine gS (gR (gB rfl (gE (gS (go _ 28 rfl (decide_eq_true (by omega)) (gct rfl (gSk (gS (gBk (gS (gR (gM rfl (gA rfl (gE (gS (gR (gM rfl (gM rfl (gg fun aM aN aO => gY (yG rfl (y_idx_str (p := s_) underlying9 rfl rfl rfl aN aO)) (gC hm rfl call68 (impl_isDigit_ok _ aM) fun aY aZ w hm => gN rfl (gE (gsn 34 rfl (fun aP => ?_) fun aP => ?_))))))))))))))))))))))
   ·
    exact gct rfl (gS (gR (gA rfl (gE (gRt (gLr aL aK (gr1 results121 rfl ⟨rfl, hm.below⟩)))))))
   exact gcf rfl (gSk (gR (gP (by omega) (by omega) rfl (gM rfl (gE (gze hm [] rfl))))))
  repeat clear hm
  intro a7 a8 w hm aa ab
  refine gS (gR (gB rfl (gE (gS (go _ 28 rfl (decide_eq_false (by omega)) (gcf rfl (gXt (gHh (gS (gR (gM rfl (gC hm rfl call164 (strconv_Atoi_ok _ s_) fun ac ae w hm => gM rfl (gX rfl (gX rfl (gA rfl (gA rfl (gE (gS (gS (gR (gM rfl (gM rfl (gB rfl (gE (gsd 43 rfl (fun aQ => ?_) fun aQ => ?_)))))))))))))))))))))))))
  ·
   exact gct rfl (gS (gR (gA rfl (gE (gRt (gr1 results121 rfl ⟨rfl, hm.below⟩))))))
  exact gcf rfl (gSk (gS (gR (gM rfl (gA rfl (gE (gRt (gr1 results121 rfl ⟨rfl, hm.below⟩))))))))
theorem strings_Contains_ok (w0 : World) (s_ : Str) (substr : Str) :
    ConM Tryz.prog 122 [(.string ⟨(s_).b.toArray⟩), (.string ⟨(substr).b.toArray⟩)] w0 (strings_Contains s_ substr) fun r v w' => v = (.bool (r)) ∧ Below w0.heap.size w0 w' := contains_con lays144 w0 s_ substr
theorem impl_WordValid_ok (w0 : World) (w_ : Word_) (hG1 : GT.rep (hp w0) [.slice (some ⟨1, 0, none⟩) 9 9] glob_impl_keys) :
    ConM Tryz.prog 70 [(.agg #[(nV w_.kind), (.string ⟨(w_.text).b.toArray⟩)])] w0 (impl_WordValid w_) fun r v w' => v = (.bool (r)) ∧ Below w0.heap.size w0 w' := by
  unfold impl_WordValid
  refine gcon func70 rfl fun r => ?_
  have hm := Mem.start w0
  refine gS (gR (gBx hm rfl fun aB w hm => gA rfl (gE (gS (gS (gR (gF fo_56_0 rfl (gL hm 0 isAgg3 rfl (gE (gBk (gS (gR (gB rfl (gA rfl (gE (gsd 5 rfl (fun aC => ?_) fun aC => ?_))))))))))))))))
  ·
   exact gct rfl (gS (gR (gF fo_56_1 rfl (gL hm 0 isAgg9 rfl (gC hm rfl call90 (impl_IsName_ok _ w_.text (hm.now hG1)) fun aI aJ w hm => gA rfl (gE (gRt (gr1 results70 rfl ⟨rfl, hm.below⟩))))))))
  refine gcf rfl (gS (gR (gB rfl (gA rfl (gE (gsd 10 rfl (fun aD => ?_) fun aD => ?_))))))
  ·
   exact gct rfl (gS (gR (gF fo_56_1 rfl (gL hm 0 isAgg9 rfl (gC hm rfl call121 (impl_decimal_ok _ w_.text 255) fun aK aL w hm => gB rfl (gA rfl (gE (gRt (gr1 results70 rfl ⟨rfl, hm.below⟩)))))))))
  refine gcf rfl (gS (gR (gB rfl (gA rfl (gE (gsd 16 rfl (fun aE => ?_) fun aE => ?_))))))
  ·
   refine gct rfl (gS (gJ hm (fun aA => [(2, (.bool (aA)))]) (fun aA => []) (fun aA => ?_) ?_))
   ·
    refine gR (gF fo_56_1 rfl (gL hm 0 isAgg9 rfl (gY (yG rfl (y_len_str (p := w_.text) underlying9 rfl rfl)) ?_)))
    have aM := (w_.text).h
    refine gB rfl (gM rfl (gsd 22 rfl (fun aF => ?_) fun aF => ?_))
    ·
     exact gF fo_56_1 rfl (gL hm 0 isAgg9 rfl (gC hm rfl call122 (strings_Contains_ok _ (mkS [40, 41, 123, 125, 59, 44, 43, 45, 42, 47, 37, 60, 61, 38, 33, 64]) w_.text) fun aN aO w hm => gKt rfl (gA rfl (gE (gz hm [] rfl)))))
    exact gO rfl (gO rfl (gO rfl (gKf rfl (gA rfl (gE (gz hm [] rfl))))))
   repeat clear hm
   intro aA w hm
   exact gRt (gr1 results70 rfl ⟨rfl, hm.below⟩)
  refine gcf rfl (gS (gR (gB rfl (gA rfl (gE (gsd 27 rfl (fun aG => ?_) fun aG => ?_))))))
  ·
   refine gct rfl (gS (gW (.p 0 (.p 1 (.e 2 (.e 3 (.p 4 .fin) .nil) .nil))) [] [0, 1, 4] hm [0] [blk aB [(nV w_.kind), (.string ⟨(w_.text).b.toArray⟩)] 56] rfl mxo (by kernel_rfl) (fun _ _ _ h => h.2) fun w hm hS => tP rfl (fun w => yG rfl (y_slcArr (n := 9) underlying129 rfl rfl sizeOf9)) (tP rfl (fun w => yF fo_56_1 rfl) (tO (tY rfl (yL hm 0 isAgg9 rfl) (tAn rfl (tO (gb fun aP aH => tf rfl rfl (fun a hf => e_call hf rfl call120 rfl (slices_Contains_S_string_string_ok _ glob_impl_keys (sV 1 0 9 9) (hm.now hG1) w_.text _ aH)) ?_))))))))
   rintro aQ w ⟨rfl, hB⟩
   replace hm := hm.below' hB; clear hB
   exact tAn rfl (tP rfl (fun w => yA rfl) (tE (gRt (gr1 results70 rfl ⟨rfl, hm.below⟩))))
  exact gcf rfl (gSk (gS (gR (gA rfl (gE (gRt (gr1 results70 rfl ⟨rfl, hm.below⟩)))))))
theorem impl_CutWords_ok (w0 : World) (s_ : Str) (hG1 : GT.rep (hp w0) [.slice (some ⟨1, 0, none⟩) 9 9] glob_impl_keys) :
    ConM Tryz.prog 29 [(.string ⟨(s_).b.toArray⟩)] w0 (impl_CutWords s_) fun r v w' => ∃ (x1 : Value), v = (.tuple #[x1, (.bool (r.2))]) ∧ Mem w0 (hp w0) w' [ow [x1] r.1] := by
  unfold impl_CutWords
  refine gcon func29 rfl fun r => ?_
  have hm := Mem.start w0
  refine gS (gR (gA rfl (gA rfl (gE (gS (gS (gR (gM rfl (gY (yG rfl (y_len_str (p := s_) underlying9 rfl rfl)) ?_)))))))))
  have bP := (s_).h
  refine gB rfl (gE (gsd 11 rfl (fun aY => ?_) fun aY => ?_))
  ·
   refine gct rfl (gS (gR (gA rfl (gA rfl (gE (gRt ?_))))))
   replace hm := hm.nilow (α := Word_)
   exact gr2 results29 rfl ⟨(.slice none 0 0), rfl, hm.pk [0] rfl rfl⟩
  refine gcf rfl (gSk (gS (gR (gA rfl (gE (gS (gS (gR (gA rfl (gE (gJge (fun aU a w => ∃ (aH : Value), St 72 [(4, aH)] w0 (hp w0) [ow [aH] aU] a w) (fun bQ aZ => ?_) ?_)))))))))))
  ·
   refine gBk ?_
   replace hm := hm.nilow (α := Word_)
   refine gMg (fun aA a w => ∃ (aB : Value), St 72 [(0, (.string ⟨(s_).b.toArray⟩)), (4, aB), (5, (nV aA.2))] w0 (hp w0) [ow [aB] aA.1] a w) (fun a hf => ⟨(.slice none 0 0), hf.sb rfl, hm.pk [0] rfl rfl⟩) ?_
   repeat clear hm
   rintro bR aV aA a w ⟨aB, hf, hm⟩ bS aW
   refine gv hf (gS (gS (gR (gM rfl (gM rfl (gY (yG rfl (y_len_str (p := s_) underlying9 rfl rfl)) (gB rfl (gE (gsd 15 rfl (fun a7 => ?_) fun a7 => ?_)))))))))
   ·
    refine gct rfl (gSk (gJge (fun aP a w => ∃ (aI : Value), St 72 [(0, (.string ⟨(s_).b.toArray⟩)), (4, aI), (5, (nV aP.2))] w0 (hp w0) [ow [aI] aP.1] a w) (fun bT a8 => ?_) ?_))
    ·
     refine gBk (gS (gS (gJ hm (fun aJ => [(0, (.string ⟨(s_).b.toArray⟩)), (4, aB), (5, (nV aA.2)), (25, (.bool (aJ)))]) (fun aJ => [ow [aB] aA.1]) (fun aJ => ?_) ?_)))
     ·
      refine gR (gM rfl (gM rfl (gg fun aa ab ac => gY (yG rfl (y_idx_str (p := s_) underlying9 rfl rfl rfl ab ac)) (gY (yG rfl (y_eql8 (b := aa) (c := (32 : UInt8)) rfl rfl rfl)) (gM rfl (gsd 20 rfl (fun ae => ?_) fun ae => ?_))))))
      ·
       exact gO rfl (gO rfl (gO rfl (gO rfl (gKt rfl (gE (gz hm [0] rfl))))))
      exact gM rfl (gM rfl (gg fun af ag ah => gY (yG rfl (y_idx_str (p := s_) underlying9 rfl rfl rfl ag ah)) (gY (yG rfl (y_eql8 (b := af) (c := (10 : UInt8)) rfl rfl rfl)) (gKf rfl (gE (gz hm [0] rfl))))))
     repeat clear hm
     intro aJ w hm
     refine gs 25 rfl (fun ai => ?_) fun ai => ?_
     ·
      exact gct rfl (gS (gR (gM rfl (gB rfl (gA rfl (gE (gXt (gHh (gZe fun a hf => ⟨aB, hf.sb rfl, hm.pk [0] rfl rfl⟩)))))))))
     refine gcf rfl (gSk (gS (gR (gA rfl (gE (gS (gJg (fun aQ a w => ∃ (aF : Value), (∀ (w : World) (y0 : UInt8) (r : Bool), Below w0.heap.size w0 w → aQ y0 = some r → FnOk Tryz.prog aF [(.int .u8 ((y0).toNat : Int))] w (fun v w' => v = (.bool (r)) ∧ Below w.heap.size w w')) ∧ St 72 [(0, (.string ⟨(s_).b.toArray⟩)), (4, aB), (5, (nV aA.2)), (6, aF)] w0 (hp w0) [ow [aB] aA.1] a w) (fun aQ => ?_) ?_)))))))
     ·
      refine gBk (gS (gR (gM rfl (gM rfl (gg fun aj ak al => gY (yG rfl (y_idx_str (p := s_) underlying9 rfl rfl rfl ak al)) (gC hm rfl call67 (impl_isLetter_ok _ aj) fun bU bV w hm => gA rfl (gE (gJg (fun aR a w => ∃ (aK : Value), (∀ (w : World) (y0 : UInt8) (r : Bool), Below w0.heap.size w0 w → aR y0 = some r → FnOk Tryz.prog aK [(.int .u8 ((y0).toNat : Int))] w (fun v w' => v = (.bool (r)) ∧ Below w.heap.size w w')) ∧ St 72 [(0, (.string ⟨(s_).b.toArray⟩)), (4, aB), (5, (nV aA.2)), (6, aK)] w0 (hp w0) [ow [aB] aA.1] a w) (fun aR => ?_) ?_))))))))
      ·
       refine gs 28 rfl (fun am => ?_) fun am => ?_
       ·
        exact gct rfl (gR (gA rfl (gE (gZ fun a hf => ⟨(.func (.func 67) #[] #[]), (fun w y0 r _ hq => ⟨67, [], rfl, call67, impl_isLetter_ok w y0 r hq⟩), hf.sb rfl, hm.pk [0] rfl rfl⟩))))
       refine gcf rfl (gS (gR (gM rfl (gM rfl (gg fun an ao ap => gY (yG rfl (y_idx_str (p := s_) underlying9 rfl rfl rfl ao ap)) (gC hm rfl call68 (impl_isDigit_ok _ an) fun bW bX w hm => gA rfl (gE (gJg (fun aT a w => ∃ (aL : Value), (∀ (w : World) (y0 : UInt8) (r : Bool), Below w0.heap.size w0 w → aT y0 = some r → FnOk Tryz.prog aL [(.int .u8 ((y0).toNat : Int))] w (fun v w' => v = (.bool (r)) ∧ Below w.heap.size w w')) ∧ St 72 [(0, (.string ⟨(s_).b.toArray⟩)), (4, aB), (5, (nV aA.2)), (6, aL)] w0 (hp w0) [ow [aB] aA.1] a w) (fun aT => ?_) ?_))))))))
       ·
        refine gs 33 rfl (fun aq => ?_) fun aq => ?_
        ·
         exact gct rfl (gR (gA rfl (gE (gZ fun a hf => ⟨(.func (.func 68) #[] #[]), (fun w y0 r _ hq => ⟨68, [], rfl, call68, impl_isDigit_ok w y0 r hq⟩), hf.sb rfl, hm.pk [0] rfl rfl⟩))))
        exact gcf rfl (gSk (gZ fun a hf => ⟨(.func (.func 66) #[] #[]), (fun w y0 r _ hq => ⟨66, [], rfl, call66, impl_CutWords_1_ok w y0 r hq⟩), hf.sb rfl, hm.pk [0] rfl rfl⟩))
       repeat clear hm
       rintro aT a w ⟨aL, ar, hf, hm⟩
       exact gv hf (gZ fun a hf => ⟨aL, ar, hf.sb rfl, hm.pk [0] rfl rfl⟩)
      repeat clear hm
      rintro aR a w ⟨aK, au, hf, hm⟩
      exact gv hf (gZ fun a hf => ⟨aK, au, hf.sb rfl, hm.pk [0] rfl rfl⟩)
     repeat clear hm
     rintro aQ a w ⟨aF, av, hf, hm⟩
     refine gv hf (gS (gR (gM rfl (gB rfl (gA rfl (gE (gS ?_)))))))
     obtain ⟨aC, aD, rfl, bY⟩ := ro_slice (hm.ow_rep 0 rfl)
     refine gJ hm (fun aG => [(0, (.string ⟨(s_).b.toArray⟩)), (4, (.slice aC aA.1.length aD)), (5, (nV aA.2)), (7, (nV aG))]) (fun aG => [ow [(.slice aC aA.1.length aD)] aA.1]) (fun aG => ?_) ?_
     ·
      refine gBk (gMf hm (fun aM => [(0, (.string ⟨(s_).b.toArray⟩)), (4, (.slice aC aA.1.length aD)), (5, (nV aA.2)), (6, aF), (7, (nV aM))]) (fun aM => [ow [(.slice aC aA.1.length aD)] aA.1]) [0] rfl ?_)
      repeat clear hm
      intro bZ aw aM w hm b4 ax
      refine gS (gS (gJ hm (fun aN => [(0, (.string ⟨(s_).b.toArray⟩)), (4, (.slice aC aA.1.length aD)), (5, (nV aA.2)), (6, aF), (7, (nV aM)), (50, (.bool (aN)))]) (fun aN => [ow [(.slice aC aA.1.length aD)] aA.1]) (fun aN => ?_) ?_))
      ·
       refine gR (gM rfl (gM rfl (gY (yG rfl (y_len_str (p := s_) underlying9 rfl rfl)) (gB rfl (gM rfl (gsd 44 rfl (fun ay => ?_) fun ay => ?_))))))
       ·
        refine gM rfl (gM rfl (gM rfl (gg fun az bA bB => gY (yG rfl (y_idx_str (p := s_) underlying9 rfl rfl rfl bA bB)) (gb fun b5 bC => gf rfl (fun a hf => e_callv hf rfl rfl rfl (av _ az _ hm.below bC)) ?_))))
        rintro b6 w ⟨rfl, hB⟩
        replace hm := hm.below' hB; clear hB
        exact gKt rfl (gE (gz hm [0] rfl))
       exact gO rfl (gO rfl (gO rfl (gO rfl (gO rfl (gKf rfl (gE (gz hm [0] rfl)))))))
      repeat clear hm
      intro aN w hm
      refine gs 50 rfl (fun bD => ?_) fun bD => ?_
      ·
       exact gct rfl (gSk (gBk (gR (gM rfl (gB rfl (gA rfl (gE (gze hm [0] rfl))))))))
      exact gcf rfl (gXt (gHh (gLp ax aw (gz hm [0] rfl))))
     repeat clear hm
     intro aG w hm
     refine gS (gR (gM rfl (gM rfl (gM rfl (gb fun bE bF => ?_)))))
     obtain ⟨bG, bH⟩ := subS_some.1 bF
     refine gY (yG rfl (y_subs (s := s_) underlying9 rfl rfl rfl rfl bG _)) ?_
     rw [bH]
     refine gC hm rfl call69 (impl_wordOf_ok _ bE (hm.now hG1)) fun aE b7 w hm => gAl hm zeroValue56 rfl fun aX w hm => gSN hm 0 sizeOf56 (one_cons rfl (one_cons rfl one_nil)) rfl fun w hm => gE (gS (gS (gJ hm (fun aO => [(0, (.string ⟨(s_).b.toArray⟩)), (4, (.slice aC aA.1.length aD)), (7, (nV aG)), (8, (pV aX)), (65, (.bool (aO)))]) (fun aO => [ow [(.slice aC aA.1.length aD)] aA.1, blk aX [(nV aE.kind), (.string ⟨(aE.text).b.toArray⟩)] 56]) (fun aO => ?_) ?_)))
     ·
      refine gR (gY (yn (hm.blk_at 0 rfl) isAgg56 sizeOf56 rfl) (gC hm rfl call70 (impl_WordValid_ok _ aE (hm.now hG1)) fun b8 b9 w hm => gN rfl (gM rfl (gsn 61 rfl (fun bJ => ?_) fun bJ => ?_))))
      ·
       exact gO rfl (gO rfl (gO rfl (gKt rfl (gE (gz hm [1, 0] rfl)))))
      exact gM rfl (gY (yV st_41 rfl) (gB rfl (gKf rfl (gE (gz hm [1, 0] rfl)))))
     repeat clear hm
     intro aO w hm
     refine gs 65 rfl (fun bK => ?_) fun bK => ?_
     ·
      refine gct rfl (gS (gR (gA rfl (gA rfl (gE (gRt (gEr a8 (gLp aW aV (gl (gEr aZ ?_))))))))))
      replace hm := hm.nilow (α := Word_)
      exact gr2 results29 rfl ⟨(.slice none 0 0), rfl, hm.pk [0] rfl rfl⟩
     refine gcf rfl (gSk (gS (gR (gM rfl (gY (yn (hm.blk_at 1 rfl) isAgg56 sizeOf56 rfl) (gf rfl (fun a hf => e_build (vs := #[(0, (.agg #[(nV aE.kind), (.string ⟨(aE.text).b.toArray⟩)]))]) (cs := [(nV aE.kind), (.string ⟨(aE.text).b.toArray⟩)]) et_41 hf hm rfl rfl (by kernel_rfl) rfl rfl) ?_))))))
     rintro _ w ⟨ba, rfl, hm⟩
     replace hm := hm.lit (xs := ([aE] : List Word_)) 0 rfl rfl rfl rfl
     refine gb fun bb bL => ?_
     obtain ⟨bM, bN⟩ := appM_some.1 bL
     refine gf rfl (fun a hf => e_append 1 et_41 hf hm rfl (hm.ow_rep 0 rfl) rfl rfl rfl bM) ?_
     rintro bO w hm
     rw [bN] at hm
     exact gA rfl (gE (gR (gM rfl (gA rfl (gE (gZe fun a hf => ⟨bO, hf.sb rfl, hm.pk [1] rfl rfl⟩))))))
    repeat clear hm
    rintro aP a w ⟨aI, hf, hm⟩
    exact gv hf (gZe fun a hf => ⟨aI, hf.sb rfl, hm.pk [0] rfl rfl⟩)
   exact gcf rfl (gXt (gHh (gLp aW aV (gr (gZe fun a hf => ⟨aB, hf.sb rfl, hm.pk [0] rfl rfl⟩)))))
  repeat clear hm
  rintro aU a w ⟨aH, hf, hm⟩
  exact gv hf (gS (gR (gM rfl (gA rfl (gA rfl (gE (gRt (gr2 results29 rfl ⟨aH, rfl, hm.pk [0] rfl rfl⟩))))))))
theorem pimpl_wordReader__peek_ok (w0 : World) (r_ : wordReader) (bp0 : Nat) (v1p : Value) (h1p : GT.rep (hp w0) [v1p] r_.list) (hbbp0 : (hp w0) bp0 = some (.cells ([v1p, (.bool (r_.bad))] : List Value).toArray 63 (0, 0))) :
    ConM Tryz.prog 105 [(pV bp0)] w0 (pimpl_wordReader__peek r_) fun r v w' => v = (.agg #[(nV r.kind), (.string ⟨(r.text).b.toArray⟩)]) ∧ Below w0.heap.size w0 w' := by
  unfold pimpl_wordReader__peek
  refine gcon func105 rfl fun r => ?_
  have hm := Mem.start w0
  refine gS (gR (gAl hm zeroValue56 rfl fun aE w hm => gE (gS (gS (gR (gM rfl (gY (yG rfl (y_nilptr rfl rfl)) (gF fo_63_0 rfl (gY (yl isAgg41 (hm.hz_cell hbbp0 rfl) rfl) ?_)))))))))
  obtain ⟨aF, aG, rfl, aH⟩ := ro_slice h1p
  refine gY (yV st_41 rfl) (gB rfl (gE (gsd 8 rfl (fun aC => ?_) fun aC => ?_)))
  ·
   exact gct rfl (gS (gR (gY (yG rfl (y_build (vs := []) (cs := #[(nV 0), (.string ⟨((mkS [])).b.toArray⟩)]) rfl rfl (by kernel_rfl))) (gSN hm 0 sizeOf56 (one_cons rfl (one_cons rfl one_nil)) rfl fun w hm => gE (gRt (grc 0 results105 hm rfl isAgg56 sizeOf56 ⟨rfl, hm.below⟩))))))
  refine gcf rfl (gSk (gS (gR (gM rfl (gY (yG rfl (y_nilptr rfl rfl)) (gF fo_63_0 rfl (gY (yl isAgg41 (hm.hz_cell hbbp0 rfl) rfl) (gg fun aB aD aA => ?_))))))))
  obtain ⟨aI, aJ, aK, he⟩ := idx_form h1p aA
  obtain ⟨rfl, _, rfl⟩ := sl3 he
  exact gI st_41 aD (idx_lt aA) rfl (gY (yn (flat_cells (cs := [(nV aB.kind), (.string ⟨(aB.text).b.toArray⟩)]) (hm.now h1p) aA rfl) isAgg56 sizeOf56 rfl) (gSN hm 0 sizeOf56 (one_cons rfl (one_cons rfl one_nil)) rfl fun w hm => gE (gRt (grc 0 results105 hm rfl isAgg56 sizeOf56 ⟨rfl, hm.below⟩))))
theorem impl_signWord_ok (w0 : World) (s_ : Str) :
    ConM Tryz.prog 80 [(.string ⟨(s_).b.toArray⟩)] w0 (impl_signWord s_) fun r v w' => v = (.agg #[(nV r.kind), (.string ⟨(r.text).b.toArray⟩)]) ∧ Below w0.heap.size w0 w' := by
  unfold impl_signWord
  refine gcon func80 rfl fun r => ?_
  have hm := Mem.start w0
  exact gS (gR (gAl hm zeroValue56 rfl fun aA w hm => gE (gS (gR (gM rfl (gY (yG rfl (y_build (vs := [(0, (nV 3)), (1, (.string ⟨(s_).b.toArray⟩))]) (cs := #[(nV 3), (.string ⟨(s_).b.toArray⟩)]) rfl rfl (by kernel_rfl))) (gSN hm 0 sizeOf56 (one_cons rfl (one_cons rfl one_nil)) rfl fun w hm => gE (gRt (grc 0 results80 hm rfl isAgg56 sizeOf56 ⟨rfl, hm.below⟩)))))))))
theorem pimpl_wordReader__next_ok (w0 : World) (hz : Heap) (r_ : wordReader) (bp0 : Nat) (v1p : Value) (hm0 : Mem w0 hz w0 [blk bp0 [v1p, (.bool (r_.bad))] 63, ow [v1p] r_.list]) :
    ConM Tryz.prog 106 [(pV bp0)] w0 (pimpl_wordReader__next r_) fun r v w' => ∃ (x1 : Value), v = (.agg #[(nV r.1.kind), (.string ⟨(r.1.text).b.toArray⟩)]) ∧ Mem w0 hz w' [blk bp0 [x1, (.bool (r.2.bad))] 63, ow [x1] r.2.list] := by
  unfold pimpl_wordReader__next
  refine gcon func106 rfl fun r => ?_
  have hm := hm0
  refine gS (gR (gAl hm zeroValue56 rfl fun aD w hm => gE (gS (gR (gM rfl (gC hm rfl call105 (pimpl_wordReader__peek_ok _ r_ bp0 v1p (hm.ow_rep 2 rfl) (hm.blk_cells 1 rfl).1) fun aE aP w hm => gAl hm zeroValue56 rfl fun aF w hm => gSN hm 0 sizeOf56 (one_cons rfl (one_cons rfl one_nil)) rfl fun w hm => gE (gS (gS (gR (gM rfl (gY (yG rfl (y_nilptr rfl rfl)) (gF fo_63_0 rfl (gL hm 2 isAgg41 rfl ?_)))))))))))))
  obtain ⟨aG, aH, rfl, aQ⟩ := ro_slice (hm.ow_rep 3 rfl)
  refine gY (yV st_41 rfl) (gB rfl (gE (gJg (fun aA a w => ∃ (aB : Value), St 24 [(2, (pV aD)), (3, (pV aF))] w0 hz [blk aD [(nV 0), (.string ⟨((mkS [])).b.toArray⟩)] 56, blk aF [(nV aE.kind), (.string ⟨(aE.text).b.toArray⟩)] 56, blk bp0 [aB, (.bool (aA.2))] 63, ow [aB] aA.1] a w) (fun aA => ?_) ?_)))
  ·
   refine gsd 11 rfl (fun aL => ?_) fun aL => ?_
   ·
    exact gct rfl (gR (gM rfl (gY (yG rfl (y_nilptr rfl rfl)) (gF fo_63_1 rfl (gS1 hm 2 sizeOf4 rfl rfl fun w hm => gE (gZ fun a hf => ⟨(.slice aG r_.list.length aH), hf.sb rfl, hm.pk [1, 0, 2, 3] rfl rfl⟩))))))
   refine gcf rfl (gR (gM rfl (gM rfl (gY (yG rfl (y_nilptr rfl rfl)) (gF fo_63_0 rfl (gL hm 2 isAgg41 rfl (gb fun aM aN => ?_)))))))
   obtain ⟨aI, aJ⟩ := subM_some.1 aN
   have aO := (hm.ow_rep 3 rfl)
   obtain ⟨aK, aC⟩ : ∃ nv, nv = subV (GT.sz (Word_)) (.slice aG r_.list.length aH) (1 : Int).toNat ((r_.list.length : Int) : Int).toNat := ⟨_, rfl⟩
   refine gY (yG rfl (yl_eq aC (y_slcL (α := Word_) st_41 aO rfl rfl rfl aI _))) (gY (yG rfl (y_nilptr rfl rfl)) (gF fo_63_0 rfl (gS1 hm 2 sizeOf41 (rep_one (view_rep aC aJ aI (hm.ow_rep 3 rfl))) rfl fun w hm => gE ?_)))
   replace hm := hm.imp (c' := ow [aK] aM) 3 rfl (fun F h0 => by rw [aC, ← aJ]; exact own_subV h0 (by omega) (by omega))
   exact gZ fun a hf => ⟨aK, hf.sb rfl, hm.pk [1, 0, 2, 3] rfl rfl⟩
  repeat clear hm
  rintro aA a w ⟨aB, hf, hm⟩
  exact gv hf (gS (gR (gY (yn (hm.blk_at 1 rfl) isAgg56 sizeOf56 rfl) (gSN hm 0 sizeOf56 (one_cons rfl (one_cons rfl one_nil)) rfl fun w hm => gE (gRt (grc 0 results106 hm rfl isAgg56 sizeOf56 ⟨aB, rfl, hm.pk [2, 3] rfl rfl⟩))))))
theorem pimpl_wordReader__take_ok (w0 : World) (hz : Heap) (r_ : wordReader) (bp0 : Nat) (v1p : Value) (kind : Int) (text : Str) (hm0 : Mem w0 hz w0 [blk bp0 [v1p, (.bool (r_.bad))] 63, ow [v1p] r_.list]) :
    ConM Tryz.prog 131 [(pV bp0), (nV kind), (.string ⟨(text).b.toArray⟩)] w0 (pimpl_wordReader__take r_ kind text) fun r v w' => ∃ (x1 : Value), v = (.bool (r.1)) ∧ Mem w0 hz w' [blk bp0 [x1, (.bool (r.2.bad))] 63, ow [x1] r.2.list] := by
  unfold pimpl_wordReader__take
  refine gcon func131 rfl fun r => ?_
  have hm := hm0
  refine gS (gR (gA rfl (gE (gS (gS (gR (gM rfl (gC hm rfl call105 (pimpl_wordReader__peek_ok _ r_ bp0 v1p (hm.ow_rep 1 rfl) (hm.blk_cells 0 rfl).1) fun aF aM w hm => gAl hm zeroValue56 rfl fun aN w hm => gSN hm 0 sizeOf56 (one_cons rfl (one_cons rfl one_nil)) rfl fun w hm => gE (gS (gJ hm (fun aA => [(0, (pV bp0)), (27, (.bool (aA)))]) (fun aA => [blk bp0 [v1p, (.bool (r_.bad))] 63, ow [v1p] r_.list]) (fun aA => ?_) ?_))))))))))
  ·
   refine gR (gM rfl (gY (yG rfl (y_nilptr rfl rfl)) (gF fo_63_0 rfl (gL hm 1 isAgg41 rfl ?_))))
   obtain ⟨aO, aP, rfl, aQ⟩ := ro_slice (hm.ow_rep 2 rfl)
   refine gY (yV st_41 rfl) (gB rfl (gM rfl (gsd 16 rfl (fun aG => ?_) fun aG => ?_)))
   ·
    exact gO rfl (gO rfl (gO rfl (gO rfl (gKt rfl (gM rfl (gO rfl (gO rfl (gO rfl (gO rfl (gKt rfl (gE (gz hm [1, 2] rfl))))))))))))
   refine gF fo_56_0 rfl (gL hm 0 isAgg3 rfl (gM rfl (gB rfl (gKf rfl (gM rfl (gsd 22 rfl (fun aH => ?_) fun aH => ?_))))))
   ·
    exact gO rfl (gO rfl (gO rfl (gO rfl (gKt rfl (gE (gz hm [1, 2] rfl))))))
   exact gF fo_56_1 rfl (gL hm 0 isAgg9 rfl (gM rfl (gY (yG rfl (y_neqs (p := aF.text) (q := text) rfl rfl rfl)) (gKf rfl (gE (gz hm [1, 2] rfl))))))
  repeat clear hm
  intro aA w hm
  refine gs 27 rfl (fun aI => ?_) fun aI => ?_
  ·
   exact gct rfl (gS (gR (gA rfl (gE (gRt (gr1 results131 rfl ⟨v1p, rfl, hm.pk [0, 1] rfl rfl⟩))))))
  refine gcf rfl (gSk (gS (gR (gM rfl (gM rfl (gY (yG rfl (y_nilptr rfl rfl)) (gF fo_63_0 rfl (gL hm 0 isAgg41 rfl (gb fun aJ aK => ?_)))))))))
  obtain ⟨aC, aD⟩ := subM_some.1 aK
  have aL := (hm.ow_rep 1 rfl)
  obtain ⟨aE, aB⟩ : ∃ nv, nv = subV (GT.sz (Word_)) v1p (1 : Int).toNat ((r_.list.length : Int) : Int).toNat := ⟨_, rfl⟩
  refine gY (yG rfl (yl_eq aB (y_slcL (α := Word_) st_41 aL rfl rfl rfl aC _))) (gY (yG rfl (y_nilptr rfl rfl)) (gF fo_63_0 rfl (gS1 hm 0 sizeOf41 (rep_one (view_rep aB aD aC (hm.ow_rep 1 rfl))) rfl fun w hm => gE (gS (gR (gA rfl (gE (gRt ?_))))))))
  replace hm := hm.imp (c' := ow [aE] aJ) 1 rfl (fun F h0 => by rw [aB, ← aD]; exact own_subV h0 (by omega) (by omega))
  exact gr1 results131 rfl ⟨aE, rfl, hm.pk [0, 1] rfl rfl⟩
theorem pimpl_wordReader__want_ok (w0 : World) (hz : Heap) (r_ : wordReader) (bp0 : Nat) (v1p : Value) (kind : Int) (text : Str) (hm0 : Mem w0 hz w0 [blk bp0 [v1p, (.bool (r_.bad))] 63, ow [v1p] r_.list]) :
    ConM Tryz.prog 129 [(pV bp0), (nV kind), (.string ⟨(text).b.toArray⟩)] w0 (pimpl_wordReader__want r_ kind text) fun r v w' => ∃ (x1 : Value), v = (.tuple #[]) ∧ Mem w0 hz w' [blk bp0 [x1, (.bool (r.bad))] 63, ow [x1] r.list] := by
  unfold pimpl_wordReader__want
  refine gcon func129 rfl fun r => ?_
  have hm := hm0
  refine gS (gR (gM rfl (gM rfl (gM rfl ?_))))
  obtain ⟨aC, hle, hm1, hsub, aD⟩ := hm.take2 (L1 := [blk bp0 [v1p, (.bool (r_.bad))] 63, ow [v1p] r_.list]) (L2 := []) [0, 1] [] (by decide) rfl rfl
  refine gCg rfl call131 (pimpl_wordReader__take_ok _ aC r_ bp0 v1p kind text hm1 ) ?_
  rintro aE aG aH w ⟨aB, rfl, hB⟩
  replace hm := aD _ _ hB; clear hB
  refine gN rfl (gE (gJ hm (fun aA => []) (fun aA => [blk bp0 [aB, (.bool (aA))] 63, ow [aB] aE.2.list]) (fun aA => ?_) ?_))
  ·
   refine gsn 10 rfl (fun aF => ?_) fun aF => ?_
   ·
    exact gct rfl (gR (gM rfl (gY (yG rfl (y_nilptr rfl rfl)) (gF fo_63_1 rfl (gS1 hm 0 sizeOf4 rfl rfl fun w hm => gE (gz hm [0, 1] rfl))))))
   exact gcf rfl (gSk (gz hm [0, 1] rfl))
  repeat clear hm
  intro aA w hm
  exact gre results129 ⟨aB, rfl, hm.pk [0, 1] rfl rfl⟩
theorem impl_NumberOf_ok (w0 : World) (w_ : Word_) :
    ConM Tryz.prog 159 [(.agg #[(nV w_.kind), (.string ⟨(w_.text).b.toArray⟩)])] w0 (impl_NumberOf w_) fun r v w' => v = (nV r) ∧ Below w0.heap.size w0 w' := by
  unfold impl_NumberOf
  refine gcon func159 rfl fun r => ?_
  have hm := Mem.start w0
  refine gS (gR (gBx hm rfl fun aB w hm => gA rfl (gE (gS (gS (gR (gF fo_56_0 rfl (gL hm 0 isAgg3 rfl (gB rfl (gE (gsd 5 rfl (fun aA => ?_) fun aA => ?_)))))))))))
  ·
   exact gct rfl (gS (gR (gA rfl (gE (gRt (gr1 results159 rfl ⟨rfl, hm.below⟩))))))
  exact gcf rfl (gSk (gS (gR (gF fo_56_1 rfl (gL hm 0 isAgg9 rfl (gC hm rfl call121 (impl_decimal_ok _ w_.text 255) fun aC aD w hm => gA rfl (gE (gRt (gr1 results159 rfl ⟨rfl, hm.below⟩)))))))))
theorem pimpl_wordReader__expr_all  : (∀ (r_ : wordReader) (level : Int) (r : Expr_ × wordReader), pimpl_wordReader__expr r_ level = some r → ∀ (w0 : World) (hz : Heap) (bp0 : Nat) (v1p : Value) (hm0 : Mem w0 hz w0 [blk bp0 [v1p, (.bool (r_.bad))] 63, ow [v1p] r_.list]) (hG0 : GT.rep hz [.slice (some ⟨0, 0, none⟩) 1 1] [glob_impl_opSign]), Con Tryz.prog 46 [(pV bp0), (nV level)] w0 (fun v w' => ∃ (x1 : Value) (x2 : Value), v = (.agg #[(nV r.1.op), (nV r.1.n_), (.string ⟨(r.1.name).b.toArray⟩), x1]) ∧ Mem w0 hz w' [blk bp0 [x2, (.bool (r.2.bad))] 63, ow [x1] r.1.kids, ow [x2] r.2.list])) ∧
    (∀ (r_ : wordReader) (r : Expr_ × wordReader), pimpl_wordReader__single r_ = some r → ∀ (w0 : World) (hz : Heap) (bp0 : Nat) (v1p : Value) (hm0 : Mem w0 hz w0 [blk bp0 [v1p, (.bool (r_.bad))] 63, ow [v1p] r_.list]) (hG0 : GT.rep hz [.slice (some ⟨0, 0, none⟩) 1 1] [glob_impl_opSign]), Con Tryz.prog 104 [(pV bp0)] w0 (fun v w' => ∃ (x1 : Value) (x2 : Value), v = (.agg #[(nV r.1.op), (nV r.1.n_), (.string ⟨(r.1.name).b.toArray⟩), x1]) ∧ Mem w0 hz w' [blk bp0 [x2, (.bool (r.2.bad))] 63, ow [x1] r.1.kids, ow [x2] r.2.list])) := by
  refine pimpl_wordReader__expr.mutual_partial_correctness  (motive_1 := fun r_ level r => ∀ (w0 : World) (hz : Heap) (bp0 : Nat) (v1p : Value) (hm0 : Mem w0 hz w0 [blk bp0 [v1p, (.bool (r_.bad))] 63, ow [v1p] r_.list]) (hG0 : GT.rep hz [.slice (some ⟨0, 0, none⟩) 1 1] [glob_impl_opSign]), Con Tryz.prog 46 [(pV bp0), (nV level)] w0 (fun v w' => ∃ (x1 : Value) (x2 : Value), v = (.agg #[(nV r.1.op), (nV r.1.n_), (.string ⟨(r.1.name).b.toArray⟩), x1]) ∧ Mem w0 hz w' [blk bp0 [x2, (.bool (r.2.bad))] 63, ow [x1] r.1.kids, ow [x2] r.2.list])) (motive_2 := fun r_ r => ∀ (w0 : World) (hz : Heap) (bp0 : Nat) (v1p : Value) (hm0 : Mem w0 hz w0 [blk bp0 [v1p, (.bool (r_.bad))] 63, ow [v1p] r_.list]) (hG0 : GT.rep hz [.slice (some ⟨0, 0, none⟩) 1 1] [glob_impl_opSign]), Con Tryz.prog 104 [(pV bp0)] w0 (fun v w' => ∃ (x1 : Value) (x2 : Value), v = (.agg #[(nV r.1.op), (nV r.1.n_), (.string ⟨(r.1.name).b.toArray⟩), x1]) ∧ Mem w0 hz w' [blk bp0 [x2, (.bool (r.2.bad))] 63, ow [x1] r.1.kids, ow [x2] r.2.list])) ?_ ?_
  · intro rec_1 rec_2 ih_1 ih_2 r_ level r hq w0 hz bp0 v1p hm0 hG0
    have pimpl_wordReader__expr_rec : ∀ (w0 : World) (hz : Heap) (r_ : wordReader) (bp0 : Nat) (v1p : Value) (level : Int) (hm0 : Mem w0 hz w0 [blk bp0 [v1p, (.bool (r_.bad))] 63, ow [v1p] r_.list]) (hG0 : GT.rep hz [.slice (some ⟨0, 0, none⟩) 1 1] [glob_impl_opSign]) (r : Expr_ × wordReader) (hq : rec_1 r_ level = some r), Con Tryz.prog 46 [(pV bp0), (nV level)] w0 (fun v w' => ∃ (x1 : Value) (x2 : Value), v = (.agg #[(nV r.1.op), (nV r.1.n_), (.string ⟨(r.1.name).b.toArray⟩), x1]) ∧ Mem w0 hz w' [blk bp0 [x2, (.bool (r.2.bad))] 63, ow [x1] r.1.kids, ow [x2] r.2.list]) := fun w0 hz r_ bp0 v1p level hm0 hG0 r hq => ih_1 r_ level r hq w0 hz bp0 v1p hm0 hG0
    have pimpl_wordReader__single_rec : ∀ (w0 : World) (hz : Heap) (r_ : wordReader) (bp0 : Nat) (v1p : Value) (hm0 : Mem w0 hz w0 [blk bp0 [v1p, (.bool (r_.bad))] 63, ow [v1p] r_.list]) (hG0 : GT.rep hz [.slice (some ⟨0, 0, none⟩) 1 1] [glob_impl_opSign]) (r : Expr_ × wordReader) (hq : rec_2 r_ = some r), Con Tryz.prog 104 [(pV bp0)] w0 (fun v w' => ∃ (x1 : Value) (x2 : Value), v = (.agg #[(nV r.1.op), (nV r.1.n_), (.string ⟨(r.1.name).b.toArray⟩), x1]) ∧ Mem w0 hz w' [blk bp0 [x2, (.bool (r.2.bad))] 63, ow [x1] r.1.kids, ow [x2] r.2.list]) := fun w0 hz r_ bp0 v1p hm0 hG0 r hq => ih_2 r_ r hq w0 hz bp0 v1p hm0 hG0
    refine gconr (ρ := Expr_ × wordReader) (R := fun r v w' => ∃ (x1 : Value) (x2 : Value), v = (.agg #[(nV r.1.op), (nV r.1.n_), (.string ⟨(r.1.name).b.toArray⟩), x1]) ∧ Mem w0 hz w' [blk bp0 [x2, (.bool (r.2.bad))] 63, ow [x1] r.1.kids, ow [x2] r.2.list]) func46 rfl hq ?_
    have hm := hm0
    refine gS (gR (gAl hm zeroValue24 rfl fun aC w hm => gE (gS (gS (gR (gM rfl (gB rfl (gE (gsd 10 rfl (fun aw => ?_) fun aw => ?_)))))))))
    ·
     refine gct rfl (gS (gR (gM rfl ?_)))
     obtain ⟨ax, hle, hm1, hsub, ay⟩ := hm.take2 (L1 := [blk bp0 [v1p, (.bool (r_.bad))] 63, ow [v1p] r_.list]) (L2 := [blk aC [(nV 0), (nV 0), (.string ⟨((mkS [])).b.toArray⟩), (.slice none 0 0)] 24]) [1, 2] [0] (by decide) rfl rfl
     refine gCg rfl call104 (pimpl_wordReader__single_rec _ ax r_ bp0 v1p hm1 (GT.mono hle hG0)) ?_
     rintro aB bU bV w ⟨aM, bN, rfl, hB⟩
     replace hm := ay _ _ hB; clear hB
     exact gSN hm 3 sizeOf24 (one_cons rfl (one_cons rfl (one_cons rfl (one_cons (rep_one (hm.ow_rep 1 rfl)) one_nil)))) rfl fun w hm => gE (gRt (grc 3 results46 hm rfl isAgg24 sizeOf24 ⟨aM, bN, rfl, hm.pk [0, 1, 2] rfl rfl⟩))
    refine gcf rfl (gSk (gS (gR (gM rfl (gM rfl (gB rfl ?_))))))
    obtain ⟨az, hle, hm1, hsub, bA⟩ := hm.take2 (L1 := [blk bp0 [v1p, (.bool (r_.bad))] 63, ow [v1p] r_.list]) (L2 := [blk aC [(nV 0), (nV 0), (.string ⟨((mkS [])).b.toArray⟩), (.slice none 0 0)] 24]) [1, 2] [0] (by decide) rfl rfl
    refine gCg rfl call46 (pimpl_wordReader__expr_rec _ az r_ bp0 v1p (w64 (level + 1)) hm1 (GT.mono hle hG0)) ?_
    rintro bB bO bW w ⟨a7, aX, rfl, hB⟩
    replace hm := bA _ _ hB; clear hB
    refine gAl hm zeroValue24 rfl fun aE w hm => gSN hm 0 sizeOf24 (one_cons rfl (one_cons rfl (one_cons rfl (one_cons (rep_one (hm.ow_rep 2 rfl)) one_nil)))) rfl fun w hm => gE (gS ?_)
    obtain ⟨bC, bD, rfl, bX⟩ := ro_slice (hm.ow_rep 3 rfl)
    obtain ⟨bY, bZ, rfl, cL⟩ := ro_slice (hm.ow_rep 2 rfl)
    refine gJge (fun aT a w => ∃ (ai aj : Value), St 56 [(4, (pV aC)), (5, (pV aE))] w0 hz [blk aC [(nV 0), (nV 0), (.string ⟨((mkS [])).b.toArray⟩), (.slice none 0 0)] 24, blk aE [(nV aT.1), (nV aT.2.1), (.string ⟨(aT.2.2.1).b.toArray⟩), ai] 24, ow [ai] aT.2.2.2.1, blk bp0 [aj, (.bool (aT.2.2.2.2.2))] 63, ow [aj] aT.2.2.2.2.1] a w) (fun cM b4 => ?_) ?_
    ·
     refine gBk (gMg (fun aA a w => ∃ (aW aU : Value), St 56 [(0, (pV bp0)), (1, (nV level)), (4, (pV aC)), (5, (pV aE))] w0 hz [blk bp0 [aW, (.bool (aA.2.1))] 63, ow [aW] aA.1, blk aC [(nV 0), (nV 0), (.string ⟨((mkS [])).b.toArray⟩), (.slice none 0 0)] 24, blk aE [(nV aA.2.2.1), (nV aA.2.2.2.1), (.string ⟨(aA.2.2.2.2.1).b.toArray⟩), aU] 24, ow [aU] aA.2.2.2.2.2] a w) (fun a hf => ⟨(.slice bC bB.2.list.length bD), (.slice bY bB.1.kids.length bZ), hf.sb rfl, hm.pk [1, 3, 4, 0, 2] rfl rfl⟩) ?_)
     repeat clear hm
     rintro b5 ak aA a w ⟨aW, aU, hf, hm⟩ b6 al
     refine gv hf (gS (gS (gR (gM rfl (gY (yG rfl (y_nilptr rfl rfl)) (gF fo_63_1 rfl (gL hm 0 isAgg4 rfl (gN rfl (gE (gsn 21 rfl (fun bE => ?_) fun bE => ?_))))))))))
     ·
      refine gct rfl (gSk (gBk (gS (gR (gA rfl (gE (gS (gS (gR ?_)))))))))
      obtain ⟨aQ, b7, bP⟩ := glob_map hG0 rfl
      refine gY (yl isAgg119 ((CellsAt.mono hm.lez (b7)).cell (j := 0) rfl) rfl) (gf rfl (fun a hf => e_rangeS (m := (glob_impl_opSign : MapS St_sign_level)) hf hm underlying119 bP rfl rfl) ?_)
      rintro _ w ⟨aR, rfl, hm⟩
      refine gE ?_
      obtain ⟨aG, aH, rfl, b8⟩ := ro_slice (hm.ow_rep 2 rfl)
      obtain ⟨aI, aJ, rfl, cN⟩ := ro_slice (hm.ow_rep 5 rfl)
      refine gJ hm (fun aO => [(0, (pV bp0)), (1, (nV level)), (4, (pV aC)), (5, (pV aE)), (6, (nV aO))]) (fun aO => [blk bp0 [(.slice aG aA.1.length aH), (.bool (aA.2.1))] 63, ow [(.slice aG aA.1.length aH)] aA.1, blk aC [(nV 0), (nV 0), (.string ⟨((mkS [])).b.toArray⟩), (.slice none 0 0)] 24, blk aE [(nV aA.2.2.1), (nV aA.2.2.2.1), (.string ⟨(aA.2.2.2.2.1).b.toArray⟩), (.slice aI aA.2.2.2.2.2.length aJ)] 24, ow [(.slice aI aA.2.2.2.2.2.length aJ)] aA.2.2.2.2.2]) (fun aO => ?_) ?_
      ·
       refine gBk (gRngP (m := (glob_impl_opSign : MapS St_sign_level)) bP (fun ae bF a w => St 56 [(0, (pV bp0)), (1, (nV level)), (4, (pV aC)), (5, (pV aE)), (6, (nV bF)), (23, (pV aR))] w0 hz [blk bp0 [(.slice aG aA.1.length aH), (.bool (aA.2.1))] 63, ow [(.slice aG aA.1.length aH)] aA.1, blk aC [(nV 0), (nV 0), (.string ⟨((mkS [])).b.toArray⟩), (.slice none 0 0)] 24, blk aE [(nV aA.2.2.1), (nV aA.2.2.2.1), (.string ⟨(aA.2.2.2.2.1).b.toArray⟩), (.slice aI aA.2.2.2.2.2.length aJ)] 24, ow [(.slice aI aA.2.2.2.2.2.length aJ)] aA.2.2.2.2.2, itc hz aQ aR ae] a w) (fun a hf => ⟨hf.sb rfl, hm.pk [1, 2, 3, 4, 5, 0] rfl rfl⟩) ?_ ?_)
       ·
        repeat clear hm
        rintro ae bF a w ⟨hf, hm⟩ hmo
        refine gv (m := some ()) (r := ()) hf ?_ rfl
        refine gS (gR (gf rfl (fun a hf => e_nextS 5 hf hm rfl hmo rfl rfl) ?_))
        rintro _ w ⟨am, an, cO, rfl, bQ, bR, hm⟩
        refine gSw bQ (gX rfl (gE (gS (gct rfl (gSk (gJ hm (fun ao => [(0, (pV bp0)), (1, (nV level)), (4, (pV aC)), (5, (pV aE)), (6, (nV ao)), (23, (pV aR))]) (fun ao => [blk bp0 [(.slice aG aA.1.length aH), (.bool (aA.2.1))] 63, ow [(.slice aG aA.1.length aH)] aA.1, blk aC [(nV 0), (nV 0), (.string ⟨((mkS [])).b.toArray⟩), (.slice none 0 0)] 24, blk aE [(nV aA.2.2.1), (nV aA.2.2.2.1), (.string ⟨(aA.2.2.2.2.1).b.toArray⟩), (.slice aI aA.2.2.2.2.2.length aJ)] 24, ow [(.slice aI aA.2.2.2.2.2.length aJ)] aA.2.2.2.2.2, itc hz aQ aR (Array.push ae am)]) (fun ao => ?_) ?_))))))
        ·
         refine gBk (gS (gR (gY (yG rfl (y_entryS 5 hm rfl bR rfl rfl)) (gX rfl (gX rfl (gAl hm zeroValue120 rfl fun b9 w hm => gA rfl (gSN hm 0 sizeOf120 (one_cons rfl (one_cons rfl one_nil)) rfl fun w hm => gE (gS (gJ hm (fun ap => [(0, (pV bp0)), (1, (nV level)), (4, (pV aC)), (5, (pV aE)), (6, (nV bF)), (7, (nV an.1)), (23, (pV aR)), (40, (.bool (ap)))]) (fun ap => [blk bp0 [(.slice aG aA.1.length aH), (.bool (aA.2.1))] 63, ow [(.slice aG aA.1.length aH)] aA.1, blk aC [(nV 0), (nV 0), (.string ⟨((mkS [])).b.toArray⟩), (.slice none 0 0)] 24, blk aE [(nV aA.2.2.1), (nV aA.2.2.2.1), (.string ⟨(aA.2.2.2.2.1).b.toArray⟩), (.slice aI aA.2.2.2.2.2.length aJ)] 24, ow [(.slice aI aA.2.2.2.2.2.length aJ)] aA.2.2.2.2.2, itc hz aQ aR (Array.push ae am)]) (fun ap => ?_) ?_)))))))))
         ·
          refine gW (.p 0 (.p 2 (.e 1 (.p 3 (.p 4 (.p 5 (.p 7 (.q 8 (.e 6 (.e 9 (.p 10 (.p 11 .fin)) .nil) .nil)))))) .nil))) [6] [0, 2, 3, 4, 5, 7, 10, 11] hm [0, 1, 2, 3, 4, 5, 6] [blk b9 [(.string ⟨(an.2.sign).b.toArray⟩), (nV an.2.level)] 120, blk bp0 [(.slice aG aA.1.length aH), (.bool (aA.2.1))] 63, ow [(.slice aG aA.1.length aH)] aA.1, blk aC [(nV 0), (nV 0), (.string ⟨((mkS [])).b.toArray⟩), (.slice none 0 0)] 24, blk aE [(nV aA.2.2.1), (nV aA.2.2.2.1), (.string ⟨(aA.2.2.2.2.1).b.toArray⟩), (.slice aI aA.2.2.2.2.2.length aJ)] 24, ow [(.slice aI aA.2.2.2.2.2.length aJ)] aA.2.2.2.2.2, itc hz aQ aR (Array.push ae am)] rfl mxo (by kernel_rfl) (fun _ _ _ h => h.2) fun w hm hS => tP rfl (fun w => yF fo_120_1 rfl) (tP rfl (fun w => yM rfl) (tO (tY rfl (yL hm 0 isAgg3 rfl) (tAn rfl (tP rfl (fun w => yB rfl) (tP rfl (fun w => yM rfl) (gsd 33 rfl (fun ba => ?_) fun ba => ?_)))))))
          ·
           refine tP rfl (fun w => yM rfl) (tP rfl (fun w => yF fo_120_0 rfl) (tQ rfl hS (fun w hm => yL hm 0 isAgg9 rfl) (tO (gb fun cP bb => tf rfl rfl (fun a hf => e_call hf rfl call105 rfl (pimpl_wordReader__peek_ok _ (⟨aA.1, aA.2.1⟩ : wordReader) bp0 (.slice aG aA.1.length aH) (hm.ow_rep 2 rfl) (hm.blk_cells 1 rfl).1 _ bb)) ?_))))
           rintro cQ w ⟨rfl, hB⟩
           replace hm := hm.below' hB; clear hB
           refine tAk hm [0, 1, 2, 3, 4, 5, 6] rfl fun hS => tO (gb fun cR bc => tf rfl rfl (fun a hf => e_call hf rfl call80 rfl (impl_signWord_ok _ an.2.sign _ bc)) ?_)
           rintro cS w ⟨rfl, hB⟩
           replace hm := hm.below' hB; clear hB
           exact tAn rfl (tP rfl (fun w => yG rfl (y_eqIS underlying56 (by kernel_rfl) (by kernel_rfl) (by decide) rfl rfl isAgg3 isAgg9 underlying3 underlying9 rfl rfl rfl)) (tP rfl (fun w => yKt rfl) (tE (gz hm [1, 2, 3, 4, 5, 6] rfl))))
          exact tPo rfl rfl (tPo rfl rfl (tQo rfl hS rfl (tO (tEo rfl rfl (tAs hS (tO (tEo rfl rfl (tAn rfl (tPo rfl rfl (tP rfl (fun w => yKf rfl) (tE (gz hm [1, 2, 3, 4, 5, 6] rfl))))))))))))
         repeat clear hm
         intro ap w hm
         refine gJ hm (fun aq => [(0, (pV bp0)), (1, (nV level)), (4, (pV aC)), (5, (pV aE)), (6, (nV aq)), (23, (pV aR))]) (fun aq => [blk bp0 [(.slice aG aA.1.length aH), (.bool (aA.2.1))] 63, ow [(.slice aG aA.1.length aH)] aA.1, blk aC [(nV 0), (nV 0), (.string ⟨((mkS [])).b.toArray⟩), (.slice none 0 0)] 24, blk aE [(nV aA.2.2.1), (nV aA.2.2.2.1), (.string ⟨(aA.2.2.2.2.1).b.toArray⟩), (.slice aI aA.2.2.2.2.2.length aJ)] 24, ow [(.slice aI aA.2.2.2.2.2.length aJ)] aA.2.2.2.2.2, itc hz aQ aR (Array.push ae am)]) (fun aq => ?_) ?_
         ·
          refine gs 40 rfl (fun bd => ?_) fun bd => ?_
          ·
           exact gct rfl (gR (gM rfl (gA rfl (gE (gz hm [0, 1, 2, 3, 4, 5] rfl)))))
          exact gcf rfl (gSk (gz hm [0, 1, 2, 3, 4, 5] rfl))
         repeat clear hm
         intro aq w hm
         exact gz hm [0, 1, 2, 3, 4, 5] rfl
        repeat clear hm
        intro ao w hm
        exact gZr bR bQ fun a hf => ⟨hf.sb rfl, hm.pk [0, 1, 2, 3, 4, 5] rfl rfl⟩
       repeat clear hm
       rintro cT cU a w ⟨hf, hm⟩ hno hk
       refine gv hf ?_ hk
       exact gS (gR (gY (yG rfl (y_nextE 5 hm rfl hno rfl rfl)) (gX rfl (gE (gS (gcf rfl (gXt (gHh (gz hm [0, 1, 2, 3, 4] rfl)))))))))
      repeat clear hm
      intro aO w hm
      refine gS (gS (gR (gM rfl (gB rfl (gE (gsd 43 rfl (fun bG => ?_) fun bG => ?_))))))
      ·
       exact gct rfl (gS (gR (gY (yn (hm.blk_at 3 rfl) isAgg24 sizeOf24 rfl) (gSN hm 2 sizeOf24 (one_cons rfl (one_cons rfl (one_cons rfl (one_cons rfl one_nil)))) rfl fun w hm => gE (gRt (gLp al ak (gl (gEr b4 (grc 2 results46 hm rfl isAgg24 sizeOf24 ⟨(.slice aI aA.2.2.2.2.2.length aJ), (.slice aG aA.1.length aH), rfl, hm.pk [0, 4, 1] rfl rfl⟩)))))))))
      refine gcf rfl (gSk (gS (gR (gM rfl ?_))))
      obtain ⟨bH, hle, hm1, hsub, bJ⟩ := hm.take2 (L1 := [blk bp0 [(.slice aG aA.1.length aH), (.bool (aA.2.1))] 63, ow [(.slice aG aA.1.length aH)] aA.1]) (L2 := [blk aC [(nV 0), (nV 0), (.string ⟨((mkS [])).b.toArray⟩), (.slice none 0 0)] 24, blk aE [(nV aA.2.2.1), (nV aA.2.2.2.1), (.string ⟨(aA.2.2.2.2.1).b.toArray⟩), (.slice aI aA.2.2.2.2.2.length aJ)] 24, ow [(.slice aI aA.2.2.2.2.2.length aJ)] aA.2.2.2.2.2]) [0, 1] [2, 3, 4] (by decide) rfl rfl
      refine gCg rfl call106 (pimpl_wordReader__next_ok _ bH (⟨aA.1, aA.2.1⟩ : wordReader) bp0 (.slice aG aA.1.length aH) hm1 ) ?_
      rintro aF bS a8 w ⟨ar, rfl, hB⟩
      replace hm := bJ _ _ hB; clear hB
      refine gE (gW (.p 0 (.p 2 (.p 3 (.p 4 (.q 1 (.e 5 (.e 6 (.p 7 (.e 8 .fin .nil)) .nil) .nil)))))) [5] [0, 2, 3, 4, 7] hm [2, 3, 4] [blk aC [(nV 0), (nV 0), (.string ⟨((mkS [])).b.toArray⟩), (.slice none 0 0)] 24, blk aE [(nV aA.2.2.1), (nV aA.2.2.2.1), (.string ⟨(aA.2.2.2.2.1).b.toArray⟩), (.slice aI aA.2.2.2.2.2.length aJ)] 24, ow [(.slice aI aA.2.2.2.2.2.length aJ)] aA.2.2.2.2.2] rfl mxo (by kernel_rfl) (fun _ _ _ h => h.2) fun w hm hS => tP rfl (fun w => yM rfl) (tP rfl (fun w => yM rfl) (tP rfl (fun w => yM rfl) (tP rfl (fun w => yB rfl) (tQ rfl hS (fun w hm => yn (hm.blk_at 1 rfl) isAgg24 sizeOf24 rfl) (tO (gb fun aD bK => ?_)))))))
      obtain ⟨be, hle, hm1, hsub, bf⟩ := hm.take2 (L1 := [blk bp0 [ar, (.bool (aF.2.bad))] 63, ow [ar] aF.2.list]) (L2 := [blk aC [(nV 0), (nV 0), (.string ⟨((mkS [])).b.toArray⟩), (.slice none 0 0)] 24, blk aE [(nV aA.2.2.1), (nV aA.2.2.2.1), (.string ⟨(aA.2.2.2.2.1).b.toArray⟩), (.slice aI aA.2.2.2.2.2.length aJ)] 24, ow [(.slice aI aA.2.2.2.2.2.length aJ)] aA.2.2.2.2.2]) [0, 1] [2, 3, 4] (by decide) rfl rfl
      refine tf rfl rfl (fun a hf => e_call hf rfl call46 rfl (pimpl_wordReader__expr_rec _ be aF.2 bp0 ar (w64 (level + 1)) hm1 (GT.mono hle hG0) _ bK)) ?_
      rintro aa w ⟨aN, aV, rfl, hB⟩
      replace hm := bf _ _ hB; clear hB
      refine tAk hm [3, 4, 5] rfl fun hS => tO (tf rfl rfl (fun a hf => e_build (vs := #[(0, (.agg #[(nV aA.2.2.1), (nV aA.2.2.2.1), (.string ⟨(aA.2.2.2.2.1).b.toArray⟩), (.slice aI aA.2.2.2.2.2.length aJ)])), (1, (.agg #[(nV aD.1.op), (nV aD.1.n_), (.string ⟨(aD.1.name).b.toArray⟩), aN]))]) (cs := [(nV aA.2.2.1), (nV aA.2.2.2.1), (.string ⟨(aA.2.2.2.2.1).b.toArray⟩), (.slice aI aA.2.2.2.2.2.length aJ), (nV aD.1.op), (nV aD.1.n_), (.string ⟨(aD.1.name).b.toArray⟩), aN]) et_22 hf hm rfl rfl (by kernel_rfl) rfl rfl) ?_)
      rintro _ w ⟨aY, rfl, hm⟩
      replace hm := hm.els_nil (α := Expr_)
      replace hm : Mem w0 hz _ [els [] ([] : List Expr_), blk aY [(nV aA.2.2.1), (nV aA.2.2.2.1), (.string ⟨(aA.2.2.2.2.1).b.toArray⟩), (.slice aI aA.2.2.2.2.2.length aJ), (nV aD.1.op), (nV aD.1.n_), (.string ⟨(aD.1.name).b.toArray⟩), aN] 24, blk bp0 [aV, (.bool (aD.2.bad))] 63, ow [(nV aD.1.op), (nV aD.1.n_), (.string ⟨(aD.1.name).b.toArray⟩), aN] (aD.1 : Expr_), ow [aV] aD.2.list, blk aC [(nV 0), (nV 0), (.string ⟨((mkS [])).b.toArray⟩), (.slice none 0 0)] 24, blk aE [(nV aA.2.2.1), (nV aA.2.2.2.1), (.string ⟨(aA.2.2.2.2.1).b.toArray⟩), (.slice aI aA.2.2.2.2.2.length aJ)] 24, ow [(.slice aI aA.2.2.2.2.2.length aJ)] aA.2.2.2.2.2] := mkx_Expr_ aD.1 hm 3 rfl
      replace hm := (hm.els_cons 0 3 (by decide) rfl rfl).pk (L' := [els [(nV aD.1.op), (nV aD.1.n_), (.string ⟨(aD.1.name).b.toArray⟩), aN] ([aD.1] : List Expr_), blk aY [(nV aA.2.2.1), (nV aA.2.2.2.1), (.string ⟨(aA.2.2.2.2.1).b.toArray⟩), (.slice aI aA.2.2.2.2.2.length aJ), (nV aD.1.op), (nV aD.1.n_), (.string ⟨(aD.1.name).b.toArray⟩), aN] 24, blk bp0 [aV, (.bool (aD.2.bad))] 63, ow [aV] aD.2.list, blk aC [(nV 0), (nV 0), (.string ⟨((mkS [])).b.toArray⟩), (.slice none 0 0)] 24, blk aE [(nV aA.2.2.1), (nV aA.2.2.2.1), (.string ⟨(aA.2.2.2.2.1).b.toArray⟩), (.slice aI aA.2.2.2.2.2.length aJ)] 24, ow [(.slice aI aA.2.2.2.2.2.length aJ)] aA.2.2.2.2.2]) [0, 1, 2, 4, 5, 6, 7] rfl rfl
      replace hm : Mem w0 hz _ [els [(nV aD.1.op), (nV aD.1.n_), (.string ⟨(aD.1.name).b.toArray⟩), aN] ([aD.1] : List Expr_), blk aY [(nV aA.2.2.1), (nV aA.2.2.2.1), (.string ⟨(aA.2.2.2.2.1).b.toArray⟩), (.slice aI aA.2.2.2.2.2.length aJ), (nV aD.1.op), (nV aD.1.n_), (.string ⟨(aD.1.name).b.toArray⟩), aN] 24, blk bp0 [aV, (.bool (aD.2.bad))] 63, ow [aV] aD.2.list, blk aC [(nV 0), (nV 0), (.string ⟨((mkS [])).b.toArray⟩), (.slice none 0 0)] 24, blk aE [(nV aA.2.2.1), (nV aA.2.2.2.1), (.string ⟨(aA.2.2.2.2.1).b.toArray⟩), (.slice aI aA.2.2.2.2.2.length aJ)] 24, ow [(nV aA.2.2.1), (nV aA.2.2.2.1), (.string ⟨(aA.2.2.2.2.1).b.toArray⟩), (.slice aI aA.2.2.2.2.2.length aJ)] ((⟨aA.2.2.1, aA.2.2.2.1, aA.2.2.2.2.1, aA.2.2.2.2.2⟩ : Expr_) : Expr_)] := mk_Expr_ aA.2.2.1 aA.2.2.2.1 aA.2.2.2.2.1 hm 6 rfl
      replace hm := (hm.els_cons 0 6 (by decide) rfl rfl).pk (L' := [els [(nV aA.2.2.1), (nV aA.2.2.2.1), (.string ⟨(aA.2.2.2.2.1).b.toArray⟩), (.slice aI aA.2.2.2.2.2.length aJ), (nV aD.1.op), (nV aD.1.n_), (.string ⟨(aD.1.name).b.toArray⟩), aN] ([(⟨aA.2.2.1, aA.2.2.2.1, aA.2.2.2.2.1, aA.2.2.2.2.2⟩ : Expr_), aD.1] : List Expr_), blk aY [(nV aA.2.2.1), (nV aA.2.2.2.1), (.string ⟨(aA.2.2.2.2.1).b.toArray⟩), (.slice aI aA.2.2.2.2.2.length aJ), (nV aD.1.op), (nV aD.1.n_), (.string ⟨(aD.1.name).b.toArray⟩), aN] 24, blk bp0 [aV, (.bool (aD.2.bad))] 63, ow [aV] aD.2.list, blk aC [(nV 0), (nV 0), (.string ⟨((mkS [])).b.toArray⟩), (.slice none 0 0)] 24, blk aE [(nV aA.2.2.1), (nV aA.2.2.2.1), (.string ⟨(aA.2.2.2.2.1).b.toArray⟩), (.slice aI aA.2.2.2.2.2.length aJ)] 24]) [0, 1, 2, 3, 4, 5] rfl rfl
      replace hm := (hm.lit_els 1 0 (by decide) rfl rfl rfl rfl).pk (L' := [ow [(sV aY 0 2 2)] ([(⟨aA.2.2.1, aA.2.2.2.1, aA.2.2.2.2.1, aA.2.2.2.2.2⟩ : Expr_), aD.1] : List Expr_), blk bp0 [aV, (.bool (aD.2.bad))] 63, ow [aV] aD.2.list, blk aC [(nV 0), (nV 0), (.string ⟨((mkS [])).b.toArray⟩), (.slice none 0 0)] 24, blk aE [(nV aA.2.2.1), (nV aA.2.2.2.1), (.string ⟨(aA.2.2.2.2.1).b.toArray⟩), (.slice aI aA.2.2.2.2.2.length aJ)] 24]) [1, 2, 3, 4, 5] rfl rfl
      refine tAn rfl (tP rfl (fun w => yG rfl (y_build (vs := [(0, (nV aO)), (3, (sV aY 0 2 2))]) (cs := #[(nV aO), (nV 0), (.string ⟨((mkS [])).b.toArray⟩), (sV aY 0 2 2)]) rfl rfl (by kernel_rfl))) (tO (tf0 rfl rfl (fun a hf => e_storeN 4 hf hm rfl sizeOf24 rfl rfl rfl (one_cons rfl (one_cons rfl (one_cons rfl (one_cons rfl one_nil)))) rfl rfl) ?_)))
      rintro _ w hm
      exact tAn rfl (tE (gZe fun a hf => ⟨aV, (sV aY 0 2 2), hf.sb rfl, hm.pk [1, 2, 3, 4, 0] rfl rfl⟩))
     exact gcf rfl (gXt (gHh (gLp al ak (gr (gZe fun a hf => ⟨aU, aW, hf.sb rfl, hm.pk [2, 3, 4, 0, 1] rfl rfl⟩)))))
    repeat clear hm
    rintro aT a w ⟨ai, aj, hf, hm⟩
    exact gv hf (gS (gR (gY (yn (hm.blk_at 1 rfl) isAgg24 sizeOf24 rfl) (gSN hm 0 sizeOf24 (one_cons rfl (one_cons rfl (one_cons rfl (one_cons (rep_one (hm.ow_rep 2 rfl)) one_nil)))) rfl fun w hm => gE (gRt (grc 0 results46 hm rfl isAgg24 sizeOf24 ⟨ai, aj, rfl, hm.pk [3, 2, 4] rfl rfl⟩))))))
  · intro rec_1 rec_2 ih_1 ih_2 r_ r hq w0 hz bp0 v1p hm0 hG0
    have pimpl_wordReader__expr_rec : ∀ (w0 : World) (hz : Heap) (r_ : wordReader) (bp0 : Nat) (v1p : Value) (level : Int) (hm0 : Mem w0 hz w0 [blk bp0 [v1p, (.bool (r_.bad))] 63, ow [v1p] r_.list]) (hG0 : GT.rep hz [.slice (some ⟨0, 0, none⟩) 1 1] [glob_impl_opSign]) (r : Expr_ × wordReader) (hq : rec_1 r_ level = some r), Con Tryz.prog 46 [(pV bp0), (nV level)] w0 (fun v w' => ∃ (x1 : Value) (x2 : Value), v = (.agg #[(nV r.1.op), (nV r.1.n_), (.string ⟨(r.1.name).b.toArray⟩), x1]) ∧ Mem w0 hz w' [blk bp0 [x2, (.bool (r.2.bad))] 63, ow [x1] r.1.kids, ow [x2] r.2.list]) := fun w0 hz r_ bp0 v1p level hm0 hG0 r hq => ih_1 r_ level r hq w0 hz bp0 v1p hm0 hG0
    have pimpl_wordReader__single_rec : ∀ (w0 : World) (hz : Heap) (r_ : wordReader) (bp0 : Nat) (v1p : Value) (hm0 : Mem w0 hz w0 [blk bp0 [v1p, (.bool (r_.bad))] 63, ow [v1p] r_.list]) (hG0 : GT.rep hz [.slice (some ⟨0, 0, none⟩) 1 1] [glob_impl_opSign]) (r : Expr_ × wordReader) (hq : rec_2 r_ = some r), Con Tryz.prog 104 [(pV bp0)] w0 (fun v w' => ∃ (x1 : Value) (x2 : Value), v = (.agg #[(nV r.1.op), (nV r.1.n_), (.string ⟨(r.1.name).b.toArray⟩), x1]) ∧ Mem w0 hz w' [blk bp0 [x2, (.bool (r.2.bad))] 63, ow [x1] r.1.kids, ow [x2] r.2.list]) := fun w0 hz r_ bp0 v1p hm0 hG0 r hq => ih_2 r_ r hq w0 hz bp0 v1p hm0 hG0
    refine gconr (ρ := Expr_ × wordReader) (R := fun r v w' => ∃ (x1 : Value) (x2 : Value), v = (.agg #[(nV r.1.op), (nV r.1.n_), (.string ⟨(r.1.name).b.toArray⟩), x1]) ∧ Mem w0 hz w' [blk bp0 [x2, (.bool (r.2.bad))] 63, ow [x1] r.1.kids, ow [x2] r.2.list]) func104 rfl hq ?_
    have hm := hm0
    refine gS (gR (gAl hm zeroValue24 rfl fun aC w hm => gE (gS (gR (gM rfl ?_)))))
    obtain ⟨ax, hle, hm1, hsub, ay⟩ := hm.take2 (L1 := [blk bp0 [v1p, (.bool (r_.bad))] 63, ow [v1p] r_.list]) (L2 := [blk aC [(nV 0), (nV 0), (.string ⟨((mkS [])).b.toArray⟩), (.slice none 0 0)] 24]) [1, 2] [0] (by decide) rfl rfl
    refine gCg rfl call106 (pimpl_wordReader__next_ok _ ax r_ bp0 v1p hm1 ) ?_
    rintro aB bU bV w ⟨aM, rfl, hB⟩
    replace hm := ay _ _ hB; clear hB
    refine gAl hm zeroValue56 rfl fun aE w hm => gSN hm 0 sizeOf56 (one_cons rfl (one_cons rfl one_nil)) rfl fun w hm => gE (gS (gBk (gS (gR (gM rfl (gY (yG rfl (y_nilptr rfl rfl)) (gF fo_63_1 rfl (gL hm 1 isAgg4 rfl (gA rfl (gE (gs 8 rfl (fun aw => ?_) fun aw => ?_)))))))))))
    ·
     refine gct rfl (gS (gR (gY (yG rfl (y_build (vs := []) (cs := #[(nV 0), (nV 0), (.string ⟨((mkS [])).b.toArray⟩), (.slice none 0 0)]) rfl rfl (by kernel_rfl))) (gSN hm 3 sizeOf24 (one_cons rfl (one_cons rfl (one_cons rfl (one_cons rfl one_nil)))) rfl fun w hm => gE (gRt ?_)))))
     replace hm := hm.nilow (α := Expr_)
     exact grc 4 results104 hm rfl isAgg24 sizeOf24 ⟨(.slice none 0 0), aM, rfl, hm.pk [2, 0, 3] rfl rfl⟩
    refine gcf rfl (gS (gW (.q 0 (.e 1 (.p 2 (.p 3 .fin)) .nil)) [1] [2, 3] hm [0, 1, 2, 3] [blk aE [(nV aB.1.kind), (.string ⟨(aB.1.text).b.toArray⟩)] 56, blk bp0 [aM, (.bool (aB.2.bad))] 63, ow [aM] aB.2.list, blk aC [(nV 0), (nV 0), (.string ⟨((mkS [])).b.toArray⟩), (.slice none 0 0)] 24] rfl mxo (by kernel_rfl) (fun _ _ _ h => h.2) fun w hm hS => tQ rfl hS (fun w hm => yn (hm.blk_at 0 rfl) isAgg56 sizeOf56 rfl) (tO (gb fun bB bO => tf rfl rfl (fun a hf => e_call hf rfl call80 rfl (impl_signWord_ok _ (mkS [33]) _ bO)) ?_))))
    rintro bN w ⟨rfl, hB⟩
    replace hm := hm.below' hB; clear hB
    refine tAk hm [0, 1, 2, 3] rfl fun hS => tP rfl (fun w => yG rfl (y_eqIS underlying56 (by kernel_rfl) (by kernel_rfl) (by decide) rfl rfl isAgg3 isAgg9 underlying3 underlying9 rfl rfl rfl)) (tP rfl (fun w => yA rfl) (tE (gs 14 rfl (fun bg => ?_) fun bg => ?_)))
    ·
     refine gct rfl (gS (gR (gM rfl ?_)))
     obtain ⟨az, hle, hm1, hsub, bA⟩ := hm.take2 (L1 := [blk bp0 [aM, (.bool (aB.2.bad))] 63, ow [aM] aB.2.list]) (L2 := [blk aE [(nV aB.1.kind), (.string ⟨(aB.1.text).b.toArray⟩)] 56, blk aC [(nV 0), (nV 0), (.string ⟨((mkS [])).b.toArray⟩), (.slice none 0 0)] 24]) [1, 2] [0, 3] (by decide) rfl rfl
     refine gCg rfl call104 (pimpl_wordReader__single_rec _ az aB.2 bp0 aM hm1 (GT.mono hle hG0)) ?_
     rintro aK cV bW w ⟨a7, aX, rfl, hB⟩
     replace hm := bA _ _ hB; clear hB
     refine gf rfl (fun a hf => e_build (vs := #[(0, (.agg #[(nV aK.1.op), (nV aK.1.n_), (.string ⟨(aK.1.name).b.toArray⟩), a7]))]) (cs := [(nV aK.1.op), (nV aK.1.n_), (.string ⟨(aK.1.name).b.toArray⟩), a7]) et_22 hf hm rfl rfl (by kernel_rfl) rfl rfl) ?_
     rintro _ w ⟨af, rfl, hm⟩
     replace hm := hm.els_nil (α := Expr_)
     replace hm : Mem w0 hz _ [els [] ([] : List Expr_), blk af [(nV aK.1.op), (nV aK.1.n_), (.string ⟨(aK.1.name).b.toArray⟩), a7] 24, blk bp0 [aX, (.bool (aK.2.bad))] 63, ow [(nV aK.1.op), (nV aK.1.n_), (.string ⟨(aK.1.name).b.toArray⟩), a7] (aK.1 : Expr_), ow [aX] aK.2.list, blk aE [(nV aB.1.kind), (.string ⟨(aB.1.text).b.toArray⟩)] 56, blk aC [(nV 0), (nV 0), (.string ⟨((mkS [])).b.toArray⟩), (.slice none 0 0)] 24] := mkx_Expr_ aK.1 hm 3 rfl
     replace hm := (hm.els_cons 0 3 (by decide) rfl rfl).pk (L' := [els [(nV aK.1.op), (nV aK.1.n_), (.string ⟨(aK.1.name).b.toArray⟩), a7] ([aK.1] : List Expr_), blk af [(nV aK.1.op), (nV aK.1.n_), (.string ⟨(aK.1.name).b.toArray⟩), a7] 24, blk bp0 [aX, (.bool (aK.2.bad))] 63, ow [aX] aK.2.list, blk aE [(nV aB.1.kind), (.string ⟨(aB.1.text).b.toArray⟩)] 56, blk aC [(nV 0), (nV 0), (.string ⟨((mkS [])).b.toArray⟩), (.slice none 0 0)] 24]) [0, 1, 2, 4, 5, 6] rfl rfl
     replace hm := (hm.lit_els 1 0 (by decide) rfl rfl rfl rfl).pk (L' := [ow [(sV af 0 1 1)] ([aK.1] : List Expr_), blk bp0 [aX, (.bool (aK.2.bad))] 63, ow [aX] aK.2.list, blk aE [(nV aB.1.kind), (.string ⟨(aB.1.text).b.toArray⟩)] 56, blk aC [(nV 0), (nV 0), (.string ⟨((mkS [])).b.toArray⟩), (.slice none 0 0)] 24]) [1, 2, 3, 4, 5] rfl rfl
     exact gY (yG rfl (y_build (vs := [(0, (nV 11)), (3, (sV af 0 1 1))]) (cs := #[(nV 11), (nV 0), (.string ⟨((mkS [])).b.toArray⟩), (sV af 0 1 1)]) rfl rfl (by kernel_rfl))) (gSN hm 4 sizeOf24 (one_cons rfl (one_cons rfl (one_cons rfl (one_cons rfl one_nil)))) rfl fun w hm => gE (gRt (grc 4 results104 hm rfl isAgg24 sizeOf24 ⟨(sV af 0 1 1), aX, rfl, hm.pk [1, 0, 2] rfl rfl⟩)))
    refine gcf rfl (gS (gW (.q 0 (.e 1 (.p 2 (.p 3 .fin)) .nil)) [1] [2, 3] hm [0, 1, 2, 3] [blk aE [(nV aB.1.kind), (.string ⟨(aB.1.text).b.toArray⟩)] 56, blk bp0 [aM, (.bool (aB.2.bad))] 63, ow [aM] aB.2.list, blk aC [(nV 0), (nV 0), (.string ⟨((mkS [])).b.toArray⟩), (.slice none 0 0)] 24] rfl mxo (by kernel_rfl) (fun _ _ _ h => h.2) fun w hm hS => tQ rfl hS (fun w hm => yn (hm.blk_at 0 rfl) isAgg56 sizeOf56 rfl) (tO (gb fun cW bh => tf rfl rfl (fun a hf => e_call hf rfl call80 rfl (impl_signWord_ok _ (mkS [64]) _ bh)) ?_))))
    rintro ai w ⟨rfl, hB⟩
    replace hm := hm.below' hB; clear hB
    refine tAk hm [0, 1, 2, 3] rfl fun hS => tP rfl (fun w => yG rfl (y_eqIS underlying56 (by kernel_rfl) (by kernel_rfl) (by decide) rfl rfl isAgg3 isAgg9 underlying3 underlying9 rfl rfl rfl)) (tP rfl (fun w => yA rfl) (tE (gs 22 rfl (fun bi => ?_) fun bi => ?_)))
    ·
     refine gct rfl (gS (gR (gM rfl ?_)))
     obtain ⟨bj, hle, hm1, hsub, bk⟩ := hm.take2 (L1 := [blk bp0 [aM, (.bool (aB.2.bad))] 63, ow [aM] aB.2.list]) (L2 := [blk aE [(nV aB.1.kind), (.string ⟨(aB.1.text).b.toArray⟩)] 56, blk aC [(nV 0), (nV 0), (.string ⟨((mkS [])).b.toArray⟩), (.slice none 0 0)] 24]) [1, 2] [0, 3] (by decide) rfl rfl
     refine gCg rfl call104 (pimpl_wordReader__single_rec _ bj aB.2 bp0 aM hm1 (GT.mono hle hG0)) ?_
     rintro aL cX aj w ⟨ag, ab, rfl, hB⟩
     replace hm := bk _ _ hB; clear hB
     refine gf rfl (fun a hf => e_build (vs := #[(0, (.agg #[(nV aL.1.op), (nV aL.1.n_), (.string ⟨(aL.1.name).b.toArray⟩), ag]))]) (cs := [(nV aL.1.op), (nV aL.1.n_), (.string ⟨(aL.1.name).b.toArray⟩), ag]) et_22 hf hm rfl rfl (by kernel_rfl) rfl rfl) ?_
     rintro _ w ⟨ah, rfl, hm⟩
     replace hm := hm.els_nil (α := Expr_)
     replace hm : Mem w0 hz _ [els [] ([] : List Expr_), blk ah [(nV aL.1.op), (nV aL.1.n_), (.string ⟨(aL.1.name).b.toArray⟩), ag] 24, blk bp0 [ab, (.bool (aL.2.bad))] 63, ow [(nV aL.1.op), (nV aL.1.n_), (.string ⟨(aL.1.name).b.toArray⟩), ag] (aL.1 : Expr_), ow [ab] aL.2.list, blk aE [(nV aB.1.kind), (.string ⟨(aB.1.text).b.toArray⟩)] 56, blk aC [(nV 0), (nV 0), (.string ⟨((mkS [])).b.toArray⟩), (.slice none 0 0)] 24] := mkx_Expr_ aL.1 hm 3 rfl
     replace hm := (hm.els_cons 0 3 (by decide) rfl rfl).pk (L' := [els [(nV aL.1.op), (nV aL.1.n_), (.string ⟨(aL.1.name).b.toArray⟩), ag] ([aL.1] : List Expr_), blk ah [(nV aL.1.op), (nV aL.1.n_), (.string ⟨(aL.1.name).b.toArray⟩), ag] 24, blk bp0 [ab, (.bool (aL.2.bad))] 63, ow [ab] aL.2.list, blk aE [(nV aB.1.kind), (.string ⟨(aB.1.text).b.toArray⟩)] 56, blk aC [(nV 0), (nV 0), (.string ⟨((mkS [])).b.toArray⟩), (.slice none 0 0)] 24]) [0, 1, 2, 4, 5, 6] rfl rfl
     replace hm := (hm.lit_els 1 0 (by decide) rfl rfl rfl rfl).pk (L' := [ow [(sV ah 0 1 1)] ([aL.1] : List Expr_), blk bp0 [ab, (.bool (aL.2.bad))] 63, ow [ab] aL.2.list, blk aE [(nV aB.1.kind), (.string ⟨(aB.1.text).b.toArray⟩)] 56, blk aC [(nV 0), (nV 0), (.string ⟨((mkS [])).b.toArray⟩), (.slice none 0 0)] 24]) [1, 2, 3, 4, 5] rfl rfl
     exact gY (yG rfl (y_build (vs := [(0, (nV 12)), (3, (sV ah 0 1 1))]) (cs := #[(nV 12), (nV 0), (.string ⟨((mkS [])).b.toArray⟩), (sV ah 0 1 1)]) rfl rfl (by kernel_rfl))) (gSN hm 4 sizeOf24 (one_cons rfl (one_cons rfl (one_cons rfl (one_cons rfl one_nil)))) rfl fun w hm => gE (gRt (grc 4 results104 hm rfl isAgg24 sizeOf24 ⟨(sV ah 0 1 1), ab, rfl, hm.pk [1, 0, 2] rfl rfl⟩)))
    refine gcf rfl (gS (gW (.q 0 (.e 1 (.p 2 (.p 3 .fin)) .nil)) [1] [2, 3] hm [0, 1, 2, 3] [blk aE [(nV aB.1.kind), (.string ⟨(aB.1.text).b.toArray⟩)] 56, blk bp0 [aM, (.bool (aB.2.bad))] 63, ow [aM] aB.2.list, blk aC [(nV 0), (nV 0), (.string ⟨((mkS [])).b.toArray⟩), (.slice none 0 0)] 24] rfl mxo (by kernel_rfl) (fun _ _ _ h => h.2) fun w hm hS => tQ rfl hS (fun w hm => yn (hm.blk_at 0 rfl) isAgg56 sizeOf56 rfl) (tO (gb fun cY bl => tf rfl rfl (fun a hf => e_call hf rfl call80 rfl (impl_signWord_ok _ (mkS [40]) _ bl)) ?_))))
    rintro cZ w ⟨rfl, hB⟩
    replace hm := hm.below' hB; clear hB
    refine tAk hm [0, 1, 2, 3] rfl fun hS => tP rfl (fun w => yG rfl (y_eqIS underlying56 (by kernel_rfl) (by kernel_rfl) (by decide) rfl rfl isAgg3 isAgg9 underlying3 underlying9 rfl rfl rfl)) (tP rfl (fun w => yA rfl) (tE (gs 30 rfl (fun bm => ?_) fun bm => ?_)))
    ·
     refine gct rfl (gS (gR (gM rfl ?_)))
     obtain ⟨bo, hle, hm1, hsub, bp⟩ := hm.take2 (L1 := [blk bp0 [aM, (.bool (aB.2.bad))] 63, ow [aM] aB.2.list]) (L2 := [blk aE [(nV aB.1.kind), (.string ⟨(aB.1.text).b.toArray⟩)] 56, blk aC [(nV 0), (nV 0), (.string ⟨((mkS [])).b.toArray⟩), (.slice none 0 0)] 24]) [1, 2] [0, 3] (by decide) rfl rfl
     refine gCg rfl call46 (pimpl_wordReader__expr_rec _ bo aB.2 bp0 aM 1 hm1 (GT.mono hle hG0)) ?_
     rintro ac c8 c9 w ⟨bL, bM, rfl, hB⟩
     replace hm := bp _ _ hB; clear hB
     refine gAl hm zeroValue24 rfl fun bq w hm => gSN hm 0 sizeOf24 (one_cons rfl (one_cons rfl (one_cons rfl (one_cons (rep_one (hm.ow_rep 2 rfl)) one_nil)))) rfl fun w hm => gE (gS (gR (gM rfl ?_)))
     obtain ⟨br, hle, hm1, hsub, bs⟩ := hm.take2 (L1 := [blk bp0 [bM, (.bool (ac.2.bad))] 63, ow [bM] ac.2.list]) (L2 := [blk bq [(nV ac.1.op), (nV ac.1.n_), (.string ⟨(ac.1.name).b.toArray⟩), bL] 24, ow [bL] ac.1.kids, blk aE [(nV aB.1.kind), (.string ⟨(aB.1.text).b.toArray⟩)] 56, blk aC [(nV 0), (nV 0), (.string ⟨((mkS [])).b.toArray⟩), (.slice none 0 0)] 24]) [1, 3] [0, 2, 4, 5] (by decide) rfl rfl
     refine gCg rfl call129 (pimpl_wordReader__want_ok _ br ac.2 bp0 bM 3 (mkS [41]) hm1 ) ?_
     rintro ca cb cc w ⟨bt, rfl, hB⟩
     replace hm := bs _ _ hB; clear hB
     exact gE (gS (gR (gY (yn (hm.blk_at 2 rfl) isAgg24 sizeOf24 rfl) (gSN hm 5 sizeOf24 (one_cons rfl (one_cons rfl (one_cons rfl (one_cons (rep_one (hm.ow_rep 3 rfl)) one_nil)))) rfl fun w hm => gE (gRt (grc 5 results104 hm rfl isAgg24 sizeOf24 ⟨bL, bt, rfl, hm.pk [0, 3, 1] rfl rfl⟩))))))
    refine gcf rfl (gS (gR (gF fo_56_0 rfl (gL hm 0 isAgg3 rfl (gB rfl (gA rfl (gE (gsd 39 rfl (fun bu => ?_) fun bu => ?_))))))))
    ·
     refine gct rfl (gS (gR (gY (yn (hm.blk_at 0 rfl) isAgg56 sizeOf56 rfl) (gC hm rfl call159 (impl_NumberOf_ok _ aB.1) fun bT cd w hm => gY (yG rfl (y_build (vs := [(0, (nV 1)), (1, (nV bT))]) (cs := #[(nV 1), (nV bT), (.string ⟨((mkS [])).b.toArray⟩), (.slice none 0 0)]) rfl rfl (by kernel_rfl))) (gSN hm 3 sizeOf24 (one_cons rfl (one_cons rfl (one_cons rfl (one_cons rfl one_nil)))) rfl fun w hm => gE (gRt ?_))))))
     replace hm := hm.nilow (α := Expr_)
     exact grc 4 results104 hm rfl isAgg24 sizeOf24 ⟨(.slice none 0 0), aM, rfl, hm.pk [2, 0, 3] rfl rfl⟩
    refine gcf rfl (gS (gR (gF fo_56_0 rfl (gL hm 0 isAgg3 rfl (gB rfl (gA rfl (gE (gsd 46 rfl (fun bv => ?_) fun bv => ?_))))))))
    ·
     refine gct rfl (gS (gR (gM rfl (gY (yG rfl (y_nilptr rfl rfl)) (gF fo_63_1 rfl (gS1 hm 1 sizeOf4 rfl rfl fun w hm => gE (gS (gR (gY (yG rfl (y_build (vs := []) (cs := #[(nV 0), (nV 0), (.string ⟨((mkS [])).b.toArray⟩), (.slice none 0 0)]) rfl rfl (by kernel_rfl))) (gSN hm 3 sizeOf24 (one_cons rfl (one_cons rfl (one_cons rfl (one_cons rfl one_nil)))) rfl fun w hm => gE (gRt ?_)))))))))))
     replace hm := hm.nilow (α := Expr_)
     exact grc 4 results104 hm rfl isAgg24 sizeOf24 ⟨(.slice none 0 0), aM, rfl, hm.pk [2, 0, 3] rfl rfl⟩
    refine gcf rfl (gS (gR (gM rfl ?_)))
    obtain ⟨bw, hle, hm1, hsub, bx⟩ := hm.take2 (L1 := [blk bp0 [aM, (.bool (aB.2.bad))] 63, ow [aM] aB.2.list]) (L2 := [blk aE [(nV aB.1.kind), (.string ⟨(aB.1.text).b.toArray⟩)] 56, blk aC [(nV 0), (nV 0), (.string ⟨((mkS [])).b.toArray⟩), (.slice none 0 0)] 24]) [1, 2] [0, 3] (by decide) rfl rfl
    refine gCg rfl call131 (pimpl_wordReader__take_ok _ bw aB.2 bp0 aM 3 (mkS [40]) hm1 ) ?_
    rintro bz ce cf w ⟨cA, rfl, hB⟩
    replace hm := bx _ _ hB; clear hB
    refine gN rfl (gA rfl (gE (gsn 54 rfl (fun cB => ?_) fun cB => ?_)))
    ·
     refine gct rfl (gS (gR (gF fo_56_1 rfl (gL hm 2 isAgg9 rfl (gY (yG rfl (y_build (vs := [(0, (nV 2)), (2, (.string ⟨(aB.1.text).b.toArray⟩))]) (cs := #[(nV 2), (nV 0), (.string ⟨(aB.1.text).b.toArray⟩), (.slice none 0 0)]) rfl rfl (by kernel_rfl))) (gSN hm 3 sizeOf24 (one_cons rfl (one_cons rfl (one_cons rfl (one_cons rfl one_nil)))) rfl fun w hm => gE (gRt ?_)))))))
     replace hm := hm.nilow (α := Expr_)
     exact grc 4 results104 hm rfl isAgg24 sizeOf24 ⟨(.slice none 0 0), cA, rfl, hm.pk [1, 0, 2] rfl rfl⟩
    refine gcf rfl (gSk (gS (gR (gF fo_56_1 rfl (gL hm 2 isAgg9 rfl (gY (yG rfl (y_build (vs := [(0, (nV 13)), (2, (.string ⟨(aB.1.text).b.toArray⟩))]) (cs := #[(nV 13), (nV 0), (.string ⟨(aB.1.text).b.toArray⟩), (.slice none 0 0)]) rfl rfl (by kernel_rfl))) (gAl hm zeroValue24 rfl fun aP w hm => gSN hm 0 sizeOf24 (one_cons rfl (one_cons rfl (one_cons rfl (one_cons rfl one_nil)))) rfl fun w hm => gE (gS ?_))))))))
    obtain ⟨bC, bD, rfl, bX⟩ := ro_slice (hm.ow_rep 2 rfl)
    refine gJg (fun aT a w => ∃ (au av : Value), St 88 [(2, (pV aC)), (5, (pV aP))] w0 hz [blk aC [(nV 0), (nV 0), (.string ⟨((mkS [])).b.toArray⟩), (.slice none 0 0)] 24, blk aP [(nV 13), (nV 0), (.string ⟨(aB.1.text).b.toArray⟩), au] 24, ow [au] aT.1, blk bp0 [av, (.bool (aT.2.2))] 63, ow [av] aT.2.1] a w) (fun aT => ?_) ?_
    ·
     refine gBk ?_
     replace hm := hm.nilow (α := Expr_)
     refine gMg (fun aA a w => ∃ (aW aU : Value), St 88 [(0, (pV bp0)), (2, (pV aC)), (5, (pV aP))] w0 hz [blk bp0 [aW, (.bool (aA.2.1))] 63, ow [aW] aA.1, blk aC [(nV 0), (nV 0), (.string ⟨((mkS [])).b.toArray⟩), (.slice none 0 0)] 24, blk aP [(nV 13), (nV 0), (.string ⟨(aB.1.text).b.toArray⟩), aU] 24, ow [aU] aA.2.2] a w) (fun a hf => ⟨(.slice bC bz.2.list.length bD), (.slice none 0 0), hf.sb rfl, hm.pk [2, 3, 5, 1, 0] rfl rfl⟩) ?_
     repeat clear hm
     rintro b5 ak aA a w ⟨aW, aU, hf, hm⟩ b6 al
     refine gv hf (gS (gS (gJg (fun aO a w => ∃ (aQ : Value), St 88 [(0, (pV bp0)), (2, (pV aC)), (5, (pV aP)), (73, (.bool (aO.2.2)))] w0 hz [blk bp0 [aQ, (.bool (aO.2.1))] 63, ow [aQ] aO.1, blk aC [(nV 0), (nV 0), (.string ⟨((mkS [])).b.toArray⟩), (.slice none 0 0)] 24, blk aP [(nV 13), (nV 0), (.string ⟨(aB.1.text).b.toArray⟩), aU] 24, ow [aU] aA.2.2] a w) (fun aO => ?_) ?_)))
     ·
      refine gR (gM rfl (gY (yG rfl (y_nilptr rfl rfl)) (gF fo_63_1 rfl (gL hm 0 isAgg4 rfl (gN rfl (gM rfl (gsn 69 rfl (fun cC => ?_) fun cC => ?_)))))))
      ·
       refine gM rfl ?_
       obtain ⟨cD, hle, hm1, hsub, cE⟩ := hm.take2 (L1 := [blk bp0 [aW, (.bool (aA.2.1))] 63, ow [aW] aA.1]) (L2 := [blk aC [(nV 0), (nV 0), (.string ⟨((mkS [])).b.toArray⟩), (.slice none 0 0)] 24, blk aP [(nV 13), (nV 0), (.string ⟨(aB.1.text).b.toArray⟩), aU] 24, ow [aU] aA.2.2]) [0, 1] [2, 3, 4] (by decide) rfl rfl
       refine gCg rfl call131 (pimpl_wordReader__take_ok _ cD (⟨aA.1, aA.2.1⟩ : wordReader) bp0 aW 3 (mkS [41]) hm1 ) ?_
       rintro cg ci cj w ⟨cF, rfl, hB⟩
       replace hm := cE _ _ hB; clear hB
       exact gN rfl (gKt rfl (gE (gZ fun a hf => ⟨cF, hf.sb rfl, hm.pk [0, 1, 2, 3, 4] rfl rfl⟩)))
      exact gO rfl (gO rfl (gO rfl (gKf rfl (gE (gZ fun a hf => ⟨aW, hf.sb rfl, hm.pk [0, 1, 2, 3, 4] rfl rfl⟩)))))
     repeat clear hm
     rintro aO a w ⟨aQ, hf, hm⟩
     refine gv hf (gs 73 rfl (fun bE => ?_) fun bE => ?_)
     ·
      refine gct rfl (gSk (gBk (gS (gS (gR (gF fo_24_3 rfl (gL hm 3 isAgg22 rfl ?_)))))))
      obtain ⟨aG, aH, rfl, b8⟩ := ro_slice (hm.ow_rep 4 rfl)
      refine gY (yV st_22 rfl) (gB rfl (gE (gJg (fun aZ a w => ∃ (a8 : Value), St 88 [(0, (pV bp0)), (2, (pV aC)), (5, (pV aP))] w0 hz [blk bp0 [a8, (.bool (aZ.2))] 63, ow [a8] aZ.1, blk aC [(nV 0), (nV 0), (.string ⟨((mkS [])).b.toArray⟩), (.slice none 0 0)] 24, blk aP [(nV 13), (nV 0), (.string ⟨(aB.1.text).b.toArray⟩), (.slice aG aA.2.2.length aH)] 24, ow [(.slice aG aA.2.2.length aH)] aA.2.2] a w) (fun aZ => ?_) ?_)))
      ·
       refine gsd 77 rfl (fun cG => ?_) fun cG => ?_
       ·
        refine gct rfl (gR (gM rfl ?_))
        obtain ⟨cH, hle, hm1, hsub, cI⟩ := hm.take2 (L1 := [blk bp0 [aQ, (.bool (aO.2.1))] 63, ow [aQ] aO.1]) (L2 := [blk aC [(nV 0), (nV 0), (.string ⟨((mkS [])).b.toArray⟩), (.slice none 0 0)] 24, blk aP [(nV 13), (nV 0), (.string ⟨(aB.1.text).b.toArray⟩), (.slice aG aA.2.2.length aH)] 24, ow [(.slice aG aA.2.2.length aH)] aA.2.2]) [0, 1] [2, 3, 4] (by decide) rfl rfl
        refine gCg rfl call129 (pimpl_wordReader__want_ok _ cH (⟨aO.1, aO.2.1⟩ : wordReader) bp0 aQ 3 (mkS [44]) hm1 ) ?_
        rintro ck cl cm w ⟨cJ, rfl, hB⟩
        replace hm := cI _ _ hB; clear hB
        exact gE (gZ fun a hf => ⟨cJ, hf.sb rfl, hm.pk [0, 1, 2, 3, 4] rfl rfl⟩)
       exact gcf rfl (gSk (gZ fun a hf => ⟨aQ, hf.sb rfl, hm.pk [0, 1, 2, 3, 4] rfl rfl⟩))
      repeat clear hm
      rintro aZ a w ⟨a8, hf, hm⟩
      refine gv hf (gW (.p 0 (.p 2 (.q 1 (.e 3 (.e 4 (.e 5 (.p 6 (.e 7 .fin .nil)) .nil) .nil) .nil)))) [3, 4] [0, 2, 6] hm [2, 3, 4] [blk aC [(nV 0), (nV 0), (.string ⟨((mkS [])).b.toArray⟩), (.slice none 0 0)] 24, blk aP [(nV 13), (nV 0), (.string ⟨(aB.1.text).b.toArray⟩), (.slice aG aA.2.2.length aH)] 24, ow [(.slice aG aA.2.2.length aH)] aA.2.2] rfl mxo (by kernel_rfl) (fun _ _ _ h => h.2) fun w hm hS => tP rfl (fun w => yF fo_24_3 rfl) (tP rfl (fun w => yM rfl) (tQ rfl hS (fun w hm => yL hm 1 isAgg22 rfl) (tO (gb fun aF bS => ?_)))))
      obtain ⟨bH, hle, hm1, hsub, bJ⟩ := hm.take2 (L1 := [blk bp0 [a8, (.bool (aZ.2))] 63, ow [a8] aZ.1]) (L2 := [blk aC [(nV 0), (nV 0), (.string ⟨((mkS [])).b.toArray⟩), (.slice none 0 0)] 24, blk aP [(nV 13), (nV 0), (.string ⟨(aB.1.text).b.toArray⟩), (.slice aG aA.2.2.length aH)] 24, ow [(.slice aG aA.2.2.length aH)] aA.2.2]) [0, 1] [2, 3, 4] (by decide) rfl rfl
      refine tf rfl rfl (fun a hf => e_call hf rfl call46 rfl (pimpl_wordReader__expr_rec _ bH (⟨aZ.1, aZ.2⟩ : wordReader) bp0 a8 1 hm1 (GT.mono hle hG0) _ bS)) ?_
      rintro ar w ⟨aa, aN, rfl, hB⟩
      replace hm := bJ _ _ hB; clear hB
      refine tAk hm [3, 4, 5] rfl fun hS => tO (tf rfl rfl (fun a hf => e_build (vs := #[(0, (.agg #[(nV aF.1.op), (nV aF.1.n_), (.string ⟨(aF.1.name).b.toArray⟩), aa]))]) (cs := [(nV aF.1.op), (nV aF.1.n_), (.string ⟨(aF.1.name).b.toArray⟩), aa]) et_22 hf hm rfl rfl (by kernel_rfl) rfl rfl) ?_)
      rintro _ w ⟨aR, rfl, hm⟩
      replace hm := hm.els_nil (α := Expr_)
      replace hm : Mem w0 hz _ [els [] ([] : List Expr_), blk aR [(nV aF.1.op), (nV aF.1.n_), (.string ⟨(aF.1.name).b.toArray⟩), aa] 24, blk bp0 [aN, (.bool (aF.2.bad))] 63, ow [(nV aF.1.op), (nV aF.1.n_), (.string ⟨(aF.1.name).b.toArray⟩), aa] (aF.1 : Expr_), ow [aN] aF.2.list, blk aC [(nV 0), (nV 0), (.string ⟨((mkS [])).b.toArray⟩), (.slice none 0 0)] 24, blk aP [(nV 13), (nV 0), (.string ⟨(aB.1.text).b.toArray⟩), (.slice aG aA.2.2.length aH)] 24, ow [(.slice aG aA.2.2.length aH)] aA.2.2] := mkx_Expr_ aF.1 hm 3 rfl
      replace hm := (hm.els_cons 0 3 (by decide) rfl rfl).pk (L' := [els [(nV aF.1.op), (nV aF.1.n_), (.string ⟨(aF.1.name).b.toArray⟩), aa] ([aF.1] : List Expr_), blk aR [(nV aF.1.op), (nV aF.1.n_), (.string ⟨(aF.1.name).b.toArray⟩), aa] 24, blk bp0 [aN, (.bool (aF.2.bad))] 63, ow [aN] aF.2.list, blk aC [(nV 0), (nV 0), (.string ⟨((mkS [])).b.toArray⟩), (.slice none 0 0)] 24, blk aP [(nV 13), (nV 0), (.string ⟨(aB.1.text).b.toArray⟩), (.slice aG aA.2.2.length aH)] 24, ow [(.slice aG aA.2.2.length aH)] aA.2.2]) [0, 1, 2, 4, 5, 6, 7] rfl rfl
      replace hm := (hm.lit_els 1 0 (by decide) rfl rfl rfl rfl).pk (L' := [ow [(sV aR 0 1 1)] ([aF.1] : List Expr_), blk bp0 [aN, (.bool (aF.2.bad))] 63, ow [aN] aF.2.list, blk aC [(nV 0), (nV 0), (.string ⟨((mkS [])).b.toArray⟩), (.slice none 0 0)] 24, blk aP [(nV 13), (nV 0), (.string ⟨(aB.1.text).b.toArray⟩), (.slice aG aA.2.2.length aH)] 24, ow [(.slice aG aA.2.2.length aH)] aA.2.2]) [1, 2, 3, 4, 5, 6] rfl rfl
      refine tAk hm [3, 4, 5] rfl fun hS => tO (gb fun cn bK => ?_)
      obtain ⟨bG, cK⟩ := appM_some.1 bK
      replace hm := (hm.both 5 0 (by decide) rfl rfl).pk (L' := [blk bp0 [aN, (.bool (aF.2.bad))] 63, ow [aN] aF.2.list, blk aC [(nV 0), (nV 0), (.string ⟨((mkS [])).b.toArray⟩), (.slice none 0 0)] 24, blk aP [(nV 13), (nV 0), (.string ⟨(aB.1.text).b.toArray⟩), (.slice aG aA.2.2.length aH)] 24, both (ow [(.slice aG aA.2.2.length aH)] aA.2.2) (ow [(sV aR 0 1 1)] ([aF.1] : List Expr_))]) [1, 2, 3, 4, 5] rfl rfl
      refine tf rfl rfl (fun a hf => e_appendD (xs := aA.2.2) (ys := ([aF.1] : List Expr_)) 4 et_22 hf hm rfl rfl rfl rfl bG) ?_
      rintro aV w hm
      rw [cK] at hm
      refine tAn rfl (tP rfl (fun w => yF fo_24_3 rfl) (tO (tf0 rfl rfl (fun a hf => e_store1 3 hf hm rfl sizeOf22 rfl rfl rfl (rep_one (hm.ow_rep 4 rfl)) rfl) ?_)))
      rintro _ w hm
      exact tAn rfl (tE (gZe fun a hf => ⟨aN, aV, hf.sb rfl, hm.pk [0, 1, 2, 3, 4] rfl rfl⟩))
     exact gcf rfl (gXt (gHh (gLp al ak (gZ fun a hf => ⟨aU, aQ, hf.sb rfl, hm.pk [2, 3, 4, 0, 1] rfl rfl⟩))))
    repeat clear hm
    rintro aT a w ⟨au, av, hf, hm⟩
    exact gv hf (gS (gR (gY (yn (hm.blk_at 1 rfl) isAgg24 sizeOf24 rfl) (gSN hm 0 sizeOf24 (one_cons rfl (one_cons rfl (one_cons rfl (one_cons (rep_one (hm.ow_rep 2 rfl)) one_nil)))) rfl fun w hm => gE (gRt (grc 0 results104 hm rfl isAgg24 sizeOf24 ⟨au, av, rfl, hm.pk [3, 2, 4] rfl rfl⟩))))))
theorem pimpl_wordReader__expr_ok (w0 : World) (hz : Heap) (r_ : wordReader) (bp0 : Nat) (v1p : Value) (level : Int) (hm0 : Mem w0 hz w0 [blk bp0 [v1p, (.bool (r_.bad))] 63, ow [v1p] r_.list]) (hG0 : GT.rep hz [.slice (some ⟨0, 0, none⟩) 1 1] [glob_impl_opSign]) (r : Expr_ × wordReader) (hq : pimpl_wordReader__expr r_ level = some r) : Con Tryz.prog 46 [(pV bp0), (nV level)] w0 (fun v w' => ∃ (x1 : Value) (x2 : Value), v = (.agg #[(nV r.1.op), (nV r.1.n_), (.string ⟨(r.1.name).b.toArray⟩), x1]) ∧ Mem w0 hz w' [blk bp0 [x2, (.bool (r.2.bad))] 63, ow [x1] r.1.kids, ow [x2] r.2.list]) := (pimpl_wordReader__expr_all ).1 r_ level r hq w0 hz bp0 v1p hm0 hG0
theorem impl_isByte_ok (w0 : World) (n_ : Int) :
    ConM Tryz.prog 109 [(nV n_)] w0 (impl_isByte n_) fun r v w' => v = (.bool (r)) ∧ Below w0.heap.size w0 w' := by
  unfold impl_isByte
  refine gcon func109 rfl fun r => ?_
  have hm := Mem.start w0
  exact gS (gR (gA rfl (gE (gS (gR (gM rfl (gC hm rfl call89 (impl_within_ok _ n_ 0 255) fun aA aB w hm => gA rfl (gE (gRt (gr1 results109 rfl ⟨rfl, hm.below⟩))))))))))
theorem impl_levelOf_ok (w0 : World) (op : Int) (hG0 : GT.rep (hp w0) [.slice (some ⟨0, 0, none⟩) 1 1] [glob_impl_opSign]) :
    ConM Tryz.prog 110 [(nV op)] w0 (impl_levelOf op) fun r v w' => v = (nV r) ∧ Below w0.heap.size w0 w' := by
  unfold impl_levelOf
  refine gcon func110 rfl fun r => ?_
  have hm := Mem.start w0
  refine gS (gR (gA rfl (gE (gS (gBk (gS (gR ?_)))))))
  obtain ⟨aI, aB, aC⟩ := glob_map hG0 rfl
  refine gY (yl isAgg119 ((CellsAt.mono hm.lez (aB)).cell (j := 0) rfl) rfl) (gM rfl (gY (yG rfl (y_lookA (key := op) (m := (glob_impl_opSign : MapS St_sign_level)) (z := (⟨(mkS []), 0⟩ : St_sign_level)) (v2 := (.agg #[(.string ⟨(((MapS.get glob_impl_opSign op).getD (⟨(mkS []), 0⟩ : St_sign_level)).sign).b.toArray⟩), (nV (((MapS.get glob_impl_opSign op).getD (⟨(mkS []), 0⟩ : St_sign_level)).level))])) underlying3 underlying119 zeroValue120 (hm.now aC) rfl rfl rfl rfl rfl)) (gY (yG rfl (y_field1 underlying120 rfl rfl isAgg3 rfl rfl rfl)) (gB rfl (gA rfl (gE (gsd 3 rfl (fun aD => ?_) fun aD => ?_)))))))
  ·
   refine gct rfl (gS (gR ?_))
   obtain ⟨aJ, aE, aF⟩ := glob_map hG0 rfl
   exact gY (yl isAgg119 ((CellsAt.mono hm.lez (aE)).cell (j := 0) rfl) rfl) (gM rfl (gY (yG rfl (y_lookA (key := op) (m := (glob_impl_opSign : MapS St_sign_level)) (z := (⟨(mkS []), 0⟩ : St_sign_level)) (v2 := (.agg #[(.string ⟨(((MapS.get glob_impl_opSign op).getD (⟨(mkS []), 0⟩ : St_sign_level)).sign).b.toArray⟩), (nV (((MapS.get glob_impl_opSign op).getD (⟨(mkS []), 0⟩ : St_sign_level)).level))])) underlying3 underlying119 zeroValue120 (hm.now aF) rfl rfl rfl rfl rfl)) (gY (yG rfl (y_field1 underlying120 rfl rfl isAgg3 rfl rfl rfl)) (gA rfl (gE (gRt (gr1 results110 rfl ⟨rfl, hm.below⟩)))))))
  refine gcf rfl (gS (gJ hm (fun aA => [(13, (.bool (aA)))]) (fun aA => []) (fun aA => ?_) ?_))
  ·
   refine gR (gM rfl (gB rfl (gM rfl (gsd 16 rfl (fun aG => ?_) fun aG => ?_))))
   ·
    exact gO rfl (gO rfl (gKt rfl (gA rfl (gE (gz hm [] rfl)))))
   exact gM rfl (gB rfl (gKf rfl (gA rfl (gE (gz hm [] rfl)))))
  repeat clear hm
  intro aA w hm
  refine gs 13 rfl (fun aH => ?_) fun aH => ?_
  ·
   exact gct rfl (gS (gR (gA rfl (gE (gRt (gr1 results110 rfl ⟨rfl, hm.below⟩))))))
  exact gcf rfl (gSk (gS (gR (gA rfl (gE (gRt (gr1 results110 rfl ⟨rfl, hm.below⟩)))))))
theorem impl_exprSize_all  : ∀ (e : Expr_) (most : Int) (r : Int × Int × Bool), impl_exprSize e most = some r → ∀ (w0 : World) (v1 : Value) (h1 : GT.rep (hp w0) [v1] e.kids) (hG0 : GT.rep (hp w0) [.slice (some ⟨0, 0, none⟩) 1 1] [glob_impl_opSign]) (hG1 : GT.rep (hp w0) [.slice (some ⟨1, 0, none⟩) 9 9] glob_impl_keys), Con Tryz.prog 57 [(.agg #[(nV e.op), (nV e.n_), (.string ⟨(e.name).b.toArray⟩), v1]), (nV most)] w0 (fun v w' => v = (.tuple #[(nV r.1), (nV r.2.1), (.bool (r.2.2))]) ∧ Below w0.heap.size w0 w') := by
  refine impl_exprSize.partial_correctness  (motive := fun e most r => ∀ (w0 : World) (v1 : Value) (h1 : GT.rep (hp w0) [v1] e.kids) (hG0 : GT.rep (hp w0) [.slice (some ⟨0, 0, none⟩) 1 1] [glob_impl_opSign]) (hG1 : GT.rep (hp w0) [.slice (some ⟨1, 0, none⟩) 9 9] glob_impl_keys), Con Tryz.prog 57 [(.agg #[(nV e.op), (nV e.n_), (.string ⟨(e.name).b.toArray⟩), v1]), (nV most)] w0 (fun v w' => v = (.tuple #[(nV r.1), (nV r.2.1), (.bool (r.2.2))]) ∧ Below w0.heap.size w0 w')) ?_
  intro rec_ ih_ e most r hq w0 v1 h1 hG0 hG1
  have impl_exprSize_rec : ∀ (w0 : World) (e : Expr_) (v1 : Value) (h1 : GT.rep (hp w0) [v1] e.kids) (most : Int) (hG0 : GT.rep (hp w0) [.slice (some ⟨0, 0, none⟩) 1 1] [glob_impl_opSign]) (hG1 : GT.rep (hp w0) [.slice (some ⟨1, 0, none⟩) 9 9] glob_impl_keys) (r : Int × Int × Bool) (hq : rec_ e most = some r), Con Tryz.prog 57 [(.agg #[(nV e.op), (nV e.n_), (.string ⟨(e.name).b.toArray⟩), v1]), (nV most)] w0 (fun v w' => v = (.tuple #[(nV r.1), (nV r.2.1), (.bool (r.2.2))]) ∧ Below w0.heap.size w0 w') := fun w0 e v1 h1 most hG0 hG1 r hq => ih_ e most r hq w0 v1 h1 hG0 hG1
  refine gconr (ρ := Int × Int × Bool) (R := fun r v w' => v = (.tuple #[(nV r.1), (nV r.2.1), (.bool (r.2.2))]) ∧ Below w0.heap.size w0 w') func57 rfl hq ?_
  have hm := Mem.start w0
  refine gS (gR (gBx hm rfl fun aA w hm => gA rfl (gA rfl (gA rfl (gE (gS (gR (gA rfl (gA rfl (gE (gS (gJge (fun aB a w => 0 ≤ aB.1 ∧ aB.1 ≤ 2 ∧ 0 ≤ aB.2 ∧ aB.2 ≤ 3 ∧ St 127 [(1, (nV most)), (2, (pV aA)), (7, (nV aB.1)), (8, (nV aB.2))] w0 (hp w0) [blk aA [(nV e.op), (nV e.n_), (.string ⟨(e.name).b.toArray⟩), v1] 24] a w) (fun bA aH => ?_) ?_))))))))))))
  ·
   refine gBk (gS (gR (gF fo_24_0 rfl (gL hm 0 isAgg3 rfl (gB rfl (gA rfl (gE (gJge (fun aC a w => 0 ≤ aC.1 ∧ aC.1 ≤ 2 ∧ 0 ≤ aC.2 ∧ aC.2 ≤ 3 ∧ St 127 [(1, (nV most)), (2, (pV aA)), (7, (nV aC.1)), (8, (nV aC.2))] w0 (hp w0) [blk aA [(nV e.op), (nV e.n_), (.string ⟨(e.name).b.toArray⟩), v1] 24] a w) (fun bB aI => ?_) ?_))))))))
   ·
    refine gsd 16 rfl (fun aV => ?_) fun aV => ?_
    ·
     refine gct rfl (gS (gJ hm (fun aJ => [(1, (nV most)), (2, (pV aA)), (7, (nV 0)), (8, (nV 0)), (28, (.bool (aJ)))]) (fun aJ => [blk aA [(nV e.op), (nV e.n_), (.string ⟨(e.name).b.toArray⟩), v1] 24]) (fun aJ => ?_) ?_))
     ·
      refine gR (gF fo_24_1 rfl (gL hm 0 isAgg3 rfl (gC hm rfl call109 (impl_isByte_ok _ e.n_) fun bC bD w hm => gN rfl (gM rfl (gsn 24 rfl (fun aW => ?_) fun aW => ?_)))))
      ·
       exact gO rfl (gO rfl (gO rfl (gKt rfl (gE (gz hm [0] rfl)))))
      exact gF fo_24_2 rfl (gL hm 0 isAgg9 rfl (gY (yG rfl (y_neqs (p := e.name) (q := (mkS [])) rfl rfl rfl)) (gKf rfl (gE (gz hm [0] rfl)))))
     repeat clear hm
     intro aJ w hm
     refine gs 28 rfl (fun aX => ?_) fun aX => ?_
     ·
      exact gct rfl (gS (gR (gA rfl (gA rfl (gA rfl (gE (gRt (gEr aI (gEr aH (gr3 results57 rfl ⟨rfl, hm.below⟩))))))))))
     exact gcf rfl (gSk (gZe fun a hf => ⟨(by first | omega | (dsimp only; omega)), (by first | omega | (dsimp only; omega)), (by first | omega | (dsimp only; omega)), (by first | omega | (dsimp only; omega)), hf.sb rfl, hm.pk [0] rfl rfl⟩))
    refine gcf rfl (gS (gR (gF fo_24_0 rfl (gL hm 0 isAgg3 rfl (gB rfl (gA rfl (gE (gJge (fun aD a w => 0 ≤ aD.1 ∧ aD.1 ≤ 2 ∧ 0 ≤ aD.2 ∧ aD.2 ≤ 3 ∧ St 127 [(1, (nV most)), (2, (pV aA)), (7, (nV aD.1)), (8, (nV aD.2))] w0 (hp w0) [blk aA [(nV e.op), (nV e.n_), (.string ⟨(e.name).b.toArray⟩), v1] 24] a w) (fun bE aO => ?_) ?_))))))))
    ·
     refine gsd 29 rfl (fun aY => ?_) fun aY => ?_
     ·
      refine gct rfl (gS (gJ hm (fun aK => [(1, (nV most)), (2, (pV aA)), (7, (nV 0)), (8, (nV 0)), (41, (.bool (aK)))]) (fun aK => [blk aA [(nV e.op), (nV e.n_), (.string ⟨(e.name).b.toArray⟩), v1] 24]) (fun aK => ?_) ?_))
      ·
       refine gR (gF fo_24_2 rfl (gL hm 0 isAgg9 rfl (gC hm rfl call90 (impl_IsName_ok _ e.name (hm.now hG1)) fun bF bG w hm => gN rfl (gM rfl (gsn 37 rfl (fun aZ => ?_) fun aZ => ?_)))))
       ·
        exact gO rfl (gO rfl (gO rfl (gKt rfl (gE (gz hm [0] rfl)))))
       exact gF fo_24_1 rfl (gL hm 0 isAgg3 rfl (gB rfl (gKf rfl (gE (gz hm [0] rfl)))))
      repeat clear hm
      intro aK w hm
      refine gs 41 rfl (fun a7 => ?_) fun a7 => ?_
      ·
       exact gct rfl (gS (gR (gA rfl (gA rfl (gA rfl (gE (gRt (gEr aO (gEr aI (gEr aH (gr3 results57 rfl ⟨rfl, hm.below⟩)))))))))))
      exact gcf rfl (gSk (gZe fun a hf => ⟨(by first | omega | (dsimp only; omega)), (by first | omega | (dsimp only; omega)), (by first | omega | (dsimp only; omega)), (by first | omega | (dsimp only; omega)), hf.sb rfl, hm.pk [0] rfl rfl⟩))
     refine gcf rfl (gS (gR (gF fo_24_0 rfl (gL hm 0 isAgg3 rfl (gB rfl (gA rfl (gE (gJge (fun aE a w => 0 ≤ aE.1 ∧ aE.1 ≤ 2 ∧ 0 ≤ aE.2 ∧ aE.2 ≤ 3 ∧ St 127 [(1, (nV most)), (2, (pV aA)), (7, (nV aE.1)), (8, (nV aE.2))] w0 (hp w0) [blk aA [(nV e.op), (nV e.n_), (.string ⟨(e.name).b.toArray⟩), v1] 24] a w) (fun bH aQ => ?_) ?_))))))))
     ·
      refine gsd 42 rfl (fun a8 => ?_) fun a8 => ?_
      ·
       refine gct rfl (gS (gR (gA rfl (gE (gS (gJ hm (fun aL => [(1, (nV most)), (2, (pV aA)), (7, (nV 0)), (8, (nV 3)), (54, (.bool (aL)))]) (fun aL => [blk aA [(nV e.op), (nV e.n_), (.string ⟨(e.name).b.toArray⟩), v1] 24]) (fun aL => ?_) ?_))))))
       ·
        refine gR (gF fo_24_2 rfl (gL hm 0 isAgg9 rfl (gC hm rfl call90 (impl_IsName_ok _ e.name (hm.now hG1)) fun bJ bK w hm => gN rfl (gM rfl (gsn 50 rfl (fun aa => ?_) fun aa => ?_)))))
        ·
         exact gO rfl (gO rfl (gO rfl (gKt rfl (gE (gz hm [0] rfl)))))
        exact gF fo_24_1 rfl (gL hm 0 isAgg3 rfl (gB rfl (gKf rfl (gE (gz hm [0] rfl)))))
       repeat clear hm
       intro aL w hm
       refine gs 54 rfl (fun ab => ?_) fun ab => ?_
       ·
        exact gct rfl (gS (gR (gA rfl (gA rfl (gA rfl (gE (gRt (gEr aQ (gEr aO (gEr aI (gEr aH (gr3 results57 rfl ⟨rfl, hm.below⟩))))))))))))
       exact gcf rfl (gSk (gZe fun a hf => ⟨(by first | omega | (dsimp only; omega)), (by first | omega | (dsimp only; omega)), (by first | omega | (dsimp only; omega)), (by first | omega | (dsimp only; omega)), hf.sb rfl, hm.pk [0] rfl rfl⟩))
      refine gcf rfl (gS (gR ?_))
      obtain ⟨bL, ac, ae⟩ := glob_map hG0 rfl
      refine gY (yl isAgg119 ((CellsAt.mono hm.lez (ac)).cell (j := 0) rfl) rfl) (gF fo_24_0 rfl (gL hm 0 isAgg3 rfl (gY (yG rfl (y_lookA (key := e.op) (m := (glob_impl_opSign : MapS St_sign_level)) (z := (⟨(mkS []), 0⟩ : St_sign_level)) (v2 := (.agg #[(.string ⟨(((MapS.get glob_impl_opSign e.op).getD (⟨(mkS []), 0⟩ : St_sign_level)).sign).b.toArray⟩), (nV (((MapS.get glob_impl_opSign e.op).getD (⟨(mkS []), 0⟩ : St_sign_level)).level))])) underlying3 underlying119 zeroValue120 (hm.now ae) rfl rfl rfl rfl rfl)) (gY (yG rfl (y_field1 underlying120 rfl rfl isAgg3 rfl rfl rfl)) (gB rfl (gA rfl (gE (gJge (fun aF a w => 0 ≤ aF.1 ∧ aF.1 ≤ 2 ∧ 0 ≤ aF.2 ∧ aF.2 ≤ 2 ∧ St 127 [(1, (nV most)), (2, (pV aA)), (7, (nV aF.1)), (8, (nV aF.2))] w0 (hp w0) [blk aA [(nV e.op), (nV e.n_), (.string ⟨(e.name).b.toArray⟩), v1] 24] a w) (fun bM af => ?_) ?_))))))))
      ·
       refine gsd 55 rfl (fun ag => ?_) fun ag => ?_
       ·
        exact gct rfl (gR (gA rfl (gA rfl (gE (gZe fun a hf => ⟨(by first | omega | (dsimp only; omega)), (by first | omega | (dsimp only; omega)), (by first | omega | (dsimp only; omega)), (by first | omega | (dsimp only; omega)), hf.sb rfl, hm.pk [0] rfl rfl⟩)))))
       refine gcf rfl (gS (gJ hm (fun aM => [(1, (nV most)), (2, (pV aA)), (62, (.bool (aM)))]) (fun aM => [blk aA [(nV e.op), (nV e.n_), (.string ⟨(e.name).b.toArray⟩), v1] 24]) (fun aM => ?_) ?_))
       ·
        refine gR (gF fo_24_0 rfl (gL hm 0 isAgg3 rfl (gB rfl (gM rfl (gsd 66 rfl (fun ah => ?_) fun ah => ?_)))))
        ·
         exact gO rfl (gO rfl (gO rfl (gKt rfl (gA rfl (gE (gz hm [0] rfl))))))
        exact gF fo_24_0 rfl (gL hm 0 isAgg3 rfl (gB rfl (gKf rfl (gA rfl (gE (gz hm [0] rfl))))))
       repeat clear hm
       intro aM w hm
       refine gs 62 rfl (fun ai => ?_) fun ai => ?_
       ·
        exact gct rfl (gR (gA rfl (gA rfl (gE (gZe fun a hf => ⟨(by first | omega | (dsimp only; omega)), (by first | omega | (dsimp only; omega)), (by first | omega | (dsimp only; omega)), (by first | omega | (dsimp only; omega)), hf.sb rfl, hm.pk [0] rfl rfl⟩)))))
       exact gcf rfl (gS (gR (gA rfl (gA rfl (gA rfl (gE (gRt (gEr af (gEr aQ (gEr aO (gEr aI (gEr aH (gr3 results57 rfl ⟨rfl, hm.below⟩)))))))))))))
      repeat clear hm
      rintro aF a w ⟨bN, bO, bP, bQ, hf, hm⟩
      exact gv hf (gZe fun a hf => ⟨(by first | omega | (dsimp only; omega)), (by first | omega | (dsimp only; omega)), (by first | omega | (dsimp only; omega)), (by first | omega | (dsimp only; omega)), hf.sb rfl, hm.pk [0] rfl rfl⟩)
     repeat clear hm
     rintro aE a w ⟨bR, bS, bT, bU, hf, hm⟩
     exact gv hf (gZe fun a hf => ⟨(by first | omega | (dsimp only; omega)), (by first | omega | (dsimp only; omega)), (by first | omega | (dsimp only; omega)), (by first | omega | (dsimp only; omega)), hf.sb rfl, hm.pk [0] rfl rfl⟩)
    repeat clear hm
    rintro aD a w ⟨bV, bW, bX, bY, hf, hm⟩
    exact gv hf (gZe fun a hf => ⟨(by first | omega | (dsimp only; omega)), (by first | omega | (dsimp only; omega)), (by first | omega | (dsimp only; omega)), (by first | omega | (dsimp only; omega)), hf.sb rfl, hm.pk [0] rfl rfl⟩)
   repeat clear hm
   rintro aC a w ⟨bZ, b4, b5, b6, hf, hm⟩
   exact gv hf (gZe fun a hf => ⟨(by first | omega | (dsimp only; omega)), (by first | omega | (dsimp only; omega)), (by first | omega | (dsimp only; omega)), (by first | omega | (dsimp only; omega)), hf.sb rfl, hm.pk [0] rfl rfl⟩)
  repeat clear hm
  rintro aB a w ⟨b7, b8, b9, ba, hf, hm⟩
  refine gv hf (gS (gS (gJ hm (fun aN => [(1, (nV most)), (2, (pV aA)), (97, (.bool (aN)))]) (fun aN => [blk aA [(nV e.op), (nV e.n_), (.string ⟨(e.name).b.toArray⟩), v1] 24]) (fun aN => ?_) ?_)))
  ·
   refine gR (gF fo_24_0 rfl (gL hm 0 isAgg3 rfl (gC hm rfl call110 (impl_levelOf_ok _ e.op (hm.now hG0)) fun bb bc w hm => gB rfl (gM rfl (gsd 75 rfl (fun aj => ?_) fun aj => ?_)))))
   ·
    refine gF fo_24_1 rfl (gL hm 0 isAgg3 rfl (gB rfl (gM rfl (gsd 79 rfl (fun ak => ?_) fun ak => ?_))))
    ·
     exact gO rfl (gO rfl (gO rfl (gKt rfl (gKt rfl (gM rfl (gO rfl (gO rfl (gO rfl (gO rfl (gO rfl (gO rfl (gO rfl (gKt rfl (gM rfl (gO rfl (gO rfl (gKt rfl (gE (gz hm [0] rfl)))))))))))))))))))
    refine gF fo_24_2 rfl (gL hm 0 isAgg9 rfl (gY (yG rfl (y_neqs (p := e.name) (q := (mkS [])) rfl rfl rfl)) (gKf rfl (gKt rfl (gM rfl (gsd 85 rfl (fun al => ?_) fun al => ?_))))))
    ·
     exact gO rfl (gO rfl (gO rfl (gO rfl (gO rfl (gO rfl (gO rfl (gKt rfl (gM rfl (gO rfl (gO rfl (gKt rfl (gE (gz hm [0] rfl)))))))))))))
    refine gF fo_24_3 rfl (gL hm 0 isAgg22 rfl ?_)
    obtain ⟨bd, be, rfl, bf⟩ := ro_slice h1
    refine gY (yV st_22 rfl) (gM rfl (gM rfl (gC hm rfl call89 (impl_within_ok _ (e.kids.length : Int) aB.1 aB.2) fun bg bh w hm => gN rfl (gKf rfl (gM rfl (gsn 94 rfl (fun am => ?_) fun am => ?_))))))
    ·
     exact gO rfl (gO rfl (gKt rfl (gE (gz hm [0] rfl))))
    exact gM rfl (gB rfl (gKf rfl (gE (gz hm [0] rfl))))
   refine gO rfl (gO rfl (gO rfl (gO rfl (gO rfl (gO rfl (gO rfl (gO rfl (gKf rfl (gM rfl (gF fo_24_3 rfl (gL hm 0 isAgg22 rfl ?_)))))))))))
   obtain ⟨bi, bj, rfl, bk⟩ := ro_slice h1
   refine gY (yV st_22 rfl) (gM rfl (gM rfl (gC hm rfl call89 (impl_within_ok _ (e.kids.length : Int) aB.1 aB.2) fun bl bm w hm => gN rfl (gKf rfl (gM rfl (gsn 94 rfl (fun an => ?_) fun an => ?_))))))
   ·
    exact gO rfl (gO rfl (gKt rfl (gE (gz hm [0] rfl))))
   exact gM rfl (gB rfl (gKf rfl (gE (gz hm [0] rfl))))
  repeat clear hm
  intro aN w hm
  refine gs 97 rfl (fun ao => ?_) fun ao => ?_
  ·
   exact gct rfl (gS (gR (gA rfl (gA rfl (gA rfl (gE (gRt (gr3 results57 rfl ⟨rfl, hm.below⟩))))))))
  refine gcf rfl (gSk (gS (gR (gA rfl (gA rfl (gE (gS (gS (gR (gF fo_24_3 rfl (gL hm 0 isAgg22 rfl ?_)))))))))))
  obtain ⟨ap, aq, rfl, bo⟩ := ro_slice h1
  refine gY (yV st_22 rfl) (gM rfl (gE (gBk (gNg (fun aR aG a w => 0 ≤ aG.2 ∧ St 127 [(1, (nV most)), (9, (nV aG.1)), (10, (nV aG.2)), (99, (.slice ap e.kids.length aq)), (100, (nV ((e.kids.length : Int)))), (101, (nV aR))] w0 (hp w0) [] a w) (fun a hf => ⟨(by first | omega | (dsimp only; omega)), hf.sb rfl, hm.pk [] rfl rfl⟩) ?_ ?_))))
  ·
   repeat clear hm
   rintro bp ar aR aG a w ⟨bq, hf, hm⟩ br bs bt au
   refine gv hf (gS (gR (gB rfl (gE (gS (go _ 102 rfl (decide_eq_true (by omega)) (gct rfl (gSk (gS (gBk (gS (gR (gg fun av aw aP => ?_)))))))))))))
   obtain ⟨bu, bv, bw, he⟩ := idx_form' h1 aP
   obtain ⟨rfl, _, rfl⟩ := sl3 he
   obtain ⟨ax, ay, aT⟩ := rk_Expr_ h1 aP
   refine gI st_22 aw (idx_lt aP) rfl (gY (yn (ay.mono hm.lez) isAgg24 sizeOf24 rfl) (gAl hm zeroValue24 rfl fun bx w hm => gSN hm 0 sizeOf24 (one_cons rfl (one_cons rfl (one_cons rfl (one_cons (rep_one aT) one_nil)))) rfl fun w hm => gE (gS (gR (gY (yn (hm.blk_at 0 rfl) isAgg24 sizeOf24 rfl) (gM rfl (gB rfl (gC hm rfl call57 (impl_exprSize_rec _ av ax (hm.now aT) (w64 (most - 1)) (hm.now hG0) (hm.now hG1)) fun aU bz w hm => gM rfl (gX rfl (gX rfl (gX rfl (gA rfl (gA rfl (gA rfl (gE (gS (gS (gR (gM rfl (gN rfl (gE (gsn 114 rfl (fun az => ?_) fun az => ?_))))))))))))))))))))))
   ·
    exact gct rfl (gS (gR (gA rfl (gA rfl (gA rfl (gE (gRt (gLr au ar (gr3 results57 rfl ⟨rfl, hm.below⟩)))))))))
   refine gcf rfl (gSk (gS (gR (gM rfl (gM rfl (gB rfl (gA rfl (gE (gR (gM rfl (gM rfl (gB rfl (gY (yG rfl (y_max rfl rfl rfl)) ?_)))))))))))))
   have cA : maxI aG.2 (w64 (aU.2.1 + 1)) = max aG.2 (w64 (aU.2.1 + 1)) := maxI_eq _ _
   exact gA rfl (gE (gR (gP (by omega) (by omega) rfl (gM rfl (gE (gZe fun a hf => ⟨(by first | omega | (dsimp only; omega)), hf.sb rfl, hm.pk [] rfl rfl⟩))))))
  repeat clear hm
  rintro cB cC a w ⟨cD, hf, hm⟩ cE cF
  exact gv hf (gS (gR (gB rfl (gE (gS (go _ 102 rfl (decide_eq_false (by omega)) (gcf rfl (gXt (gHh (gS (gR (gM rfl (gM rfl (gM rfl (gB rfl (gA rfl (gA rfl (gA rfl (gE (gRt (gr3 results57 rfl ⟨rfl, hm.below⟩)))))))))))))))))))))
theorem impl_exprSize_ok (w0 : World) (e : Expr_) (v1 : Value) (h1 : GT.rep (hp w0) [v1] e.kids) (most : Int) (hG0 : GT.rep (hp w0) [.slice (some ⟨0, 0, none⟩) 1 1] [glob_impl_opSign]) (hG1 : GT.rep (hp w0) [.slice (some ⟨1, 0, none⟩) 9 9] glob_impl_keys) (r : Int × Int × Bool) (hq : impl_exprSize e most = some r) : Con Tryz.prog 57 [(.agg #[(nV e.op), (nV e.n_), (.string ⟨(e.name).b.toArray⟩), v1]), (nV most)] w0 (fun v w' => v = (.tuple #[(nV r.1), (nV r.2.1), (.bool (r.2.2))]) ∧ Below w0.heap.size w0 w') := impl_exprSize_all e most r hq w0 v1 h1 hG0 hG1
theorem impl_ExprValid_ok (w0 : World) (e : Expr_) (v1 : Value) (h1 : GT.rep (hp w0) [v1] e.kids) (hG0 : GT.rep (hp w0) [.slice (some ⟨0, 0, none⟩) 1 1] [glob_impl_opSign]) (hG1 : GT.rep (hp w0) [.slice (some ⟨1, 0, none⟩) 9 9] glob_impl_keys) :
    ConM Tryz.prog 21 [(.agg #[(nV e.op), (nV e.n_), (.string ⟨(e.name).b.toArray⟩), v1])] w0 (impl_ExprValid e) fun r v w' => v = (.bool (r)) ∧ Below w0.heap.size w0 w' := by
  unfold impl_ExprValid
  refine gcon func21 rfl fun r => ?_
  have hm := Mem.start w0
  exact gS (gR (gBx hm rfl fun aA w hm => gA rfl (gE (gS (gR (gY (yn (hm.blk_at 0 rfl) isAgg24 sizeOf24 rfl) (gC hm rfl call57 (impl_exprSize_ok _ e v1 (hm.now h1) 6 (hm.now hG0) (hm.now hG1)) fun aB aC w hm => gM rfl (gX rfl (gX rfl (gX rfl (gA rfl (gA rfl (gA rfl (gE (gS (gR (gM rfl (gA rfl (gE (gRt (gr1 results21 rfl ⟨rfl, hm.below⟩)))))))))))))))))))))
theorem impl_ReadExpr_ok (w0 : World) (s_ : Str) (hG0 : GT.rep (hp w0) [.slice (some ⟨0, 0, none⟩) 1 1] [glob_impl_opSign]) (hG1 : GT.rep (hp w0) [.slice (some ⟨1, 0, none⟩) 9 9] glob_impl_keys) :
    ConM Tryz.prog 14 [(.string ⟨(s_).b.toArray⟩)] w0 (impl_ReadExpr s_) fun r v w' => ∃ (x1 : Value), v = (.tuple #[(.agg #[(nV r.1.op), (nV r.1.n_), (.string ⟨(r.1.name).b.toArray⟩), x1]), (.bool (r.2))]) ∧ Mem w0 (hp w0) w' [ow [x1] r.1.kids] := by
  unfold impl_ReadExpr
  refine gcon func14 rfl fun r => ?_
  have hm := Mem.start w0
  refine gS (gR (gAl hm zeroValue24 rfl fun aG w hm => gA rfl (gE (gS (gR (gM rfl (gCg rfl call29 (impl_CutWords_ok _ s_ (hm.now hG1)) ?_)))))))
  rintro aA aO aP w ⟨aQ, rfl, hB⟩
  replace hm := hm.give hB; clear hB
  refine gM rfl (gX rfl (gX rfl (gA rfl (gA rfl (gE (gS (gR (gM rfl (gM rfl (gN rfl ?_))))))))))
  obtain ⟨aB, aC, rfl, aR⟩ := ro_slice (hm.ow_rep 0 rfl)
  refine gY (yG rfl (y_build (vs := [(0, (.slice aB aA.1.length aC)), (1, (.bool (!(aA.2))))]) (cs := #[(.slice aB aA.1.length aC), (.bool (!(aA.2)))]) rfl rfl (by kernel_rfl))) (gBx hm rfl fun aH w hm => gA rfl (gE (gS (gR (gM rfl ?_)))))
  obtain ⟨aJ, hle, hm1, hsub, aK⟩ := hm.take2 (L1 := [blk aH [(.slice aB aA.1.length aC), (.bool (!(aA.2)))] 63, ow [(.slice aB aA.1.length aC)] aA.1]) (L2 := [blk aG [(nV 0), (nV 0), (.string ⟨((mkS [])).b.toArray⟩), (.slice none 0 0)] 24]) [0, 1] [2] (by decide) rfl rfl
  refine gCg rfl call46 (pimpl_wordReader__expr_ok _ aJ (⟨aA.1, !(aA.2)⟩ : wordReader) aH (.slice aB aA.1.length aC) 1 hm1 (GT.mono hle hG0)) ?_
  rintro aD aT aU w ⟨aE, aV, rfl, hB⟩
  replace hm := aK _ _ hB; clear hB
  refine gAl hm zeroValue24 rfl fun aI w hm => gSN hm 0 sizeOf24 (one_cons rfl (one_cons rfl (one_cons rfl (one_cons (rep_one (hm.ow_rep 2 rfl)) one_nil)))) rfl fun w hm => gE (gS (gS (gJ hm (fun aF => [(2, (pV aG)), (7, (pV aI)), (36, (.bool (aF)))]) (fun aF => [blk aG [(nV 0), (nV 0), (.string ⟨((mkS [])).b.toArray⟩), (.slice none 0 0)] 24, blk aI [(nV aD.1.op), (nV aD.1.n_), (.string ⟨(aD.1.name).b.toArray⟩), aE] 24, ow [aE] aD.1.kids]) (fun aF => ?_) ?_)))
  ·
   refine gR (gM rfl (gY (yG rfl (y_nilptr rfl rfl)) (gF fo_63_1 rfl (gL hm 1 isAgg4 rfl (gM rfl (gs 24 rfl (fun aL => ?_) fun aL => ?_))))))
   ·
    exact gO rfl (gO rfl (gO rfl (gO rfl (gO rfl (gO rfl (gKt rfl (gM rfl (gO rfl (gO rfl (gO rfl (gKt rfl (gE (gz hm [4, 0, 2] rfl)))))))))))))
   refine gM rfl (gY (yG rfl (y_nilptr rfl rfl)) (gF fo_63_0 rfl (gL hm 1 isAgg41 rfl ?_)))
   obtain ⟨aW, aX, rfl, aY⟩ := ro_slice (hm.ow_rep 3 rfl)
   refine gY (yV st_41 rfl) (gB rfl (gKf rfl (gM rfl (gsd 32 rfl (fun aM => ?_) fun aM => ?_))))
   ·
    exact gO rfl (gO rfl (gO rfl (gKt rfl (gE (gz hm [4, 0, 2] rfl)))))
   exact gY (yn (hm.blk_at 0 rfl) isAgg24 sizeOf24 rfl) (gC hm rfl call21 (impl_ExprValid_ok _ aD.1 aE (hm.ow_rep 2 rfl) (hm.now hG0) (hm.now hG1)) fun aZ a7 w hm => gN rfl (gKf rfl (gE (gz hm [4, 0, 2] rfl))))
  repeat clear hm
  intro aF w hm
  refine gs 36 rfl (fun aN => ?_) fun aN => ?_
  ·
   refine gct rfl (gS (gR (gY (yG rfl (y_build (vs := []) (cs := #[(nV 0), (nV 0), (.string ⟨((mkS [])).b.toArray⟩), (.slice none 0 0)]) rfl rfl (by kernel_rfl))) (gSN hm 0 sizeOf24 (one_cons rfl (one_cons rfl (one_cons rfl (one_cons rfl one_nil)))) rfl fun w hm => gA rfl (gE (gRt ?_))))))
   replace hm := hm.nilow (α := Expr_)
   exact grct 1 results14 hm rfl isAgg24 sizeOf24 ⟨(.slice none 0 0), rfl, hm.pk [0] rfl rfl⟩
  exact gcf rfl (gSk (gS (gR (gY (yn (hm.blk_at 1 rfl) isAgg24 sizeOf24 rfl) (gSN hm 0 sizeOf24 (one_cons rfl (one_cons rfl (one_cons rfl (one_cons (rep_one (hm.ow_rep 2 rfl)) one_nil)))) rfl fun w hm => gA rfl (gE (gRt (grct 0 results14 hm rfl isAgg24 sizeOf24 ⟨aE, rfl, hm.pk [2] rfl rfl⟩))))))))
theorem laws_eqExpr_all  : (∀ (a_ : Expr_) (b_ : Expr_) (r : Bool), laws_eqExpr a_ b_ = some r → ∀ (w0 : World) (v1 : Value) (h1 : GT.rep (hp w0) [v1] a_.kids) (v2 : Value) (h2 : GT.rep (hp w0) [v2] b_.kids), Con Tryz.prog 15 [(.agg #[(nV a_.op), (nV a_.n_), (.string ⟨(a_.name).b.toArray⟩), v1]), (.agg #[(nV b_.op), (nV b_.n_), (.string ⟨(b_.name).b.toArray⟩), v2])] w0 (fun v w' => v = (.bool (r)) ∧ Below w0.heap.size w0 w')) ∧
    (∀ (a_ : List Expr_) (b_ : List Expr_) (r : Bool), laws_eqExprS a_ b_ = some r → ∀ (w0 : World) (v1 : Value) (h1 : GT.rep (hp w0) [v1] a_) (v2 : Value) (h2 : GT.rep (hp w0) [v2] b_), Con Tryz.prog 47 [v1, v2] w0 (fun v w' => v = (.bool (r)) ∧ Below w0.heap.size w0 w')) := by
  refine laws_eqExpr.mutual_partial_correctness  (motive_1 := fun a_ b_ r => ∀ (w0 : World) (v1 : Value) (h1 : GT.rep (hp w0) [v1] a_.kids) (v2 : Value) (h2 : GT.rep (hp w0) [v2] b_.kids), Con Tryz.prog 15 [(.agg #[(nV a_.op), (nV a_.n_), (.string ⟨(a_.name).b.toArray⟩), v1]), (.agg #[(nV b_.op), (nV b_.n_), (.string ⟨(b_.name).b.toArray⟩), v2])] w0 (fun v w' => v = (.bool (r)) ∧ Below w0.heap.size w0 w')) (motive_2 := fun a_ b_ r => ∀ (w0 : World) (v1 : Value) (h1 : GT.rep (hp w0) [v1] a_) (v2 : Value) (h2 : GT.rep (hp w0) [v2] b_), Con Tryz.prog 47 [v1, v2] w0 (fun v w' => v = (.bool (r)) ∧ Below w0.heap.size w0 w')) ?_ ?_
  · intro rec_ ih_ a_ b_ r hq w0 v1 h1 v2 h2
    have laws_eqExprS_rec : ∀ (w0 : World) (a_ : List Expr_) (v1 : Value) (h1 : GT.rep (hp w0) [v1] a_) (b_ : List Expr_) (v2 : Value) (h2 : GT.rep (hp w0) [v2] b_) (r : Bool) (hq : rec_ a_ b_ = some r), Con Tryz.prog 47 [v1, v2] w0 (fun v w' => v = (.bool (r)) ∧ Below w0.heap.size w0 w') := fun w0 a_ v1 h1 b_ v2 h2 r hq => ih_ a_ b_ r hq w0 v1 h1 v2 h2
    refine gconr (ρ := Bool) (R := fun r v w' => v = (.bool (r)) ∧ Below w0.heap.size w0 w') func15 rfl hq ?_
    have hm := Mem.start w0
    refine gS (gR (gBx hm rfl fun aa w hm => gBx hm rfl fun ab w hm => gA rfl (gE (gS (gS (gR (gF fo_24_0 rfl (gL hm 1 isAgg3 rfl (gF fo_24_0 rfl (gL hm 0 isAgg3 rfl (gB rfl (gE (gsd 9 rfl (fun aA => ?_) fun aA => ?_)))))))))))))
    ·
     exact gct rfl (gS (gR (gA rfl (gE (gRt (gr1 results15 rfl ⟨rfl, hm.below⟩))))))
    refine gcf rfl (gSk (gS (gS (gR (gF fo_24_1 rfl (gL hm 1 isAgg3 rfl (gF fo_24_1 rfl (gL hm 0 isAgg3 rfl (gB rfl (gE (gsd 14 rfl (fun aF => ?_) fun aF => ?_)))))))))))
    ·
     exact gct rfl (gS (gR (gA rfl (gE (gRt (gr1 results15 rfl ⟨rfl, hm.below⟩))))))
    refine gcf rfl (gSk (gS (gS (gR (gF fo_24_2 rfl (gL hm 1 isAgg9 rfl (gF fo_24_2 rfl (gL hm 0 isAgg9 rfl (gY (yG rfl (y_neqs (p := a_.name) (q := b_.name) rfl rfl rfl)) (gE (gsd 19 rfl (fun aG => ?_) fun aG => ?_)))))))))))
    ·
     exact gct rfl (gS (gR (gA rfl (gE (gRt (gr1 results15 rfl ⟨rfl, hm.below⟩))))))
    refine gcf rfl (gSk (gS (gS (gR (gF fo_24_3 rfl (gL hm 1 isAgg22 rfl (gF fo_24_3 rfl (gL hm 0 isAgg22 rfl (gC hm rfl call47 (laws_eqExprS_rec _ a_.kids v1 (hm.now h1) b_.kids v2 (hm.now h2)) fun aH ac w hm => gN rfl (gE (gsn 25 rfl (fun aI => ?_) fun aI => ?_)))))))))))
    ·
     exact gct rfl (gS (gR (gA rfl (gE (gRt (gr1 results15 rfl ⟨rfl, hm.below⟩))))))
    exact gcf rfl (gSk (gS (gR (gA rfl (gE (gRt (gr1 results15 rfl ⟨rfl, hm.below⟩)))))))
  · intro rec_ ih_ a_ b_ r hq w0 v1 h1 v2 h2
    have laws_eqExpr_rec : ∀ (w0 : World) (a_ : Expr_) (v1 : Value) (h1 : GT.rep (hp w0) [v1] a_.kids) (b_ : Expr_) (v2 : Value) (h2 : GT.rep (hp w0) [v2] b_.kids) (r : Bool) (hq : rec_ a_ b_ = some r), Con Tryz.prog 15 [(.agg #[(nV a_.op), (nV a_.n_), (.string ⟨(a_.name).b.toArray⟩), v1]), (.agg #[(nV b_.op), (nV b_.n_), (.string ⟨(b_.name).b.toArray⟩), v2])] w0 (fun v w' => v = (.bool (r)) ∧ Below w0.heap.size w0 w') := fun w0 a_ v1 h1 b_ v2 h2 r hq => ih_ a_ b_ r hq w0 v1 h1 v2 h2
    refine gconr (ρ := Bool) (R := fun r v w' => v = (.bool (r)) ∧ Below w0.heap.size w0 w') func47 rfl hq ?_
    have hm := Mem.start w0
    refine gS (gR (gA rfl (gE (gS (gS (gR (gM rfl ?_)))))))
    obtain ⟨aJ, aK, rfl, ae⟩ := ro_slice h1
    refine gY (yV st_22 rfl) (gM rfl ?_)
    obtain ⟨aL, aM, rfl, af⟩ := ro_slice h2
    refine gY (yV st_22 rfl) (gB rfl (gE (gsd 10 rfl (fun aA => ?_) fun aA => ?_)))
    ·
     exact gct rfl (gS (gR (gA rfl (gE (gRt (gr1 results47 rfl ⟨rfl, hm.below⟩))))))
    refine gcf rfl (gSk (gS (gS (gR (gA rfl (gE (gBk (gNf hm (fun aB aE => [(0, (.slice aJ a_.length aK)), (1, (.slice aL b_.length aM)), (5, (nV aB))]) (fun aB aE => []) [] rfl ?_ ?_))))))))
    ·
     repeat clear hm
     intro aH aN aB aE w hm ag ah ai aO
     refine gS (gS (gR (gM rfl (gM rfl (gY (yV st_22 rfl) (gB rfl (gE (go _ 14 rfl (decide_eq_true (by omega)) (gct rfl (gSk (gS (gBk (gS (gW (.p 0 (.p 1 (.p 2 (.p 4 (.p 5 (.p 6 (.q 3 (.e 7 (.e 8 (.p 9 .fin) .nil) .nil)))))))) [7] [0, 1, 2, 4, 5, 6, 9] hm [] [] rfl mxo (by kernel_rfl) (fun _ _ _ h => h.2) fun w hm hS => tP rfl (fun w => yM rfl) (tP rfl (fun w => yM rfl) (gg fun aP aQ aC => ?_))))))))))))))))
     obtain ⟨aj, ak, al, he⟩ := idx_form' h1 aC
     obtain ⟨rfl, _, rfl⟩ := sl3 he
     obtain ⟨aR, aT, aU⟩ := rk_Expr_ h1 aC
     refine tP rfl (fun w => yI st_22 aQ (idx_lt aC) rfl) (tP rfl (fun w => yM rfl) (tP rfl (fun w => yM rfl) (gg fun aV aW aD => ?_)))
     obtain ⟨am, an, ao, he⟩ := idx_form' h2 aD
     obtain ⟨rfl, _, rfl⟩ := sl3 he
     obtain ⟨aX, aY, aZ⟩ := rk_Expr_ h2 aD
     refine tP rfl (fun w => yI st_22 aW (idx_lt aD) rfl) (tQ rfl hS (fun w hm => yn (aT.mono hm.lez) isAgg24 sizeOf24 rfl) (tO (tY rfl (yn (aY.mono hm.lez) isAgg24 sizeOf24 rfl) (tAs hS (tO (gb fun ap a7 => tf rfl rfl (fun a hf => e_call hf rfl call15 rfl (laws_eqExpr_rec _ aP aR (hm.now aU) aV aX (hm.now aZ) _ a7)) ?_))))))
     rintro aq w ⟨rfl, hB⟩
     replace hm := hm.below' hB; clear hB
     refine tAn rfl (tP rfl (fun w => yN rfl) (tE (gsn 26 rfl (fun a8 => ?_) fun a8 => ?_)))
     ·
      exact gct rfl (gS (gR (gA rfl (gE (gRt (gLr aO aN (gr1 results47 rfl ⟨rfl, hm.below⟩)))))))
     exact gcf rfl (gSk (gR (gM rfl (gP (by omega) (by omega) rfl (gA rfl (gE (gze hm [] rfl)))))))
    repeat clear hm
    intro ar au w hm av aw
    exact gS (gS (gR (gM rfl (gM rfl (gY (yV st_22 rfl) (gB rfl (gE (go _ 14 rfl (decide_eq_false (by omega)) (gcf rfl (gXt (gHh (gS (gR (gA rfl (gE (gRt (gr1 results47 rfl ⟨rfl, hm.below⟩)))))))))))))))))
theorem laws_eqExpr_ok (w0 : World) (a_ : Expr_) (v1 : Value) (h1 : GT.rep (hp w0) [v1] a_.kids) (b_ : Expr_) (v2 : Value) (h2 : GT.rep (hp w0) [v2] b_.kids) (r : Bool) (hq : laws_eqExpr a_ b_ = some r) : Con Tryz.prog 15 [(.agg #[(nV a_.op), (nV a_.n_), (.string ⟨(a_.name).b.toArray⟩), v1]), (.agg #[(nV b_.op), (nV b_.n_), (.string ⟨(b_.name).b.toArray⟩), v2])] w0 (fun v w' => v = (.bool (r)) ∧ Below w0.heap.size w0 w') := (laws_eqExpr_all ).1 a_ b_ r hq w0 v1 h1 v2 h2
theorem laws_markText_ok (w0 : World) (k_ : Int) :
    ConM Tryz.prog 107 [(nV k_)] w0 (laws_markText k_) fun r v w' => v = (.string ⟨(r).b.toArray⟩) ∧ Below w0.heap.size w0 w' := by
  unfold laws_markText
  refine gcon func107 rfl fun r => ?_
  have hm := Mem.start w0
  refine gS (gR (gA rfl (gE (gS (gS (gR (gM rfl (gB rfl (gE (gsd 5 rfl (fun aC => ?_) fun aC => ?_))))))))))
  ·
   exact gct rfl (gS (gR (gA rfl (gE (gRt (gr1 results107 rfl ⟨rfl, hm.below⟩))))))
  refine gcf rfl (gSk (gS (gR (gA rfl (gE (gS (gJ hm (fun aB => [(3, (.string ⟨(aB).b.toArray⟩))]) (fun aB => []) (fun aB => ?_) ?_)))))))
  ·
   refine gBk (gMf hm (fun aA => [(0, (nV aA.1)), (3, (.string ⟨(aA.2).b.toArray⟩))]) (fun aA => []) [] rfl ?_)
   repeat clear hm
   intro aM aD aA w hm aN aE
   refine gS (gS (gR (gM rfl (gB rfl (gE (gsd 7 rfl (fun aF => ?_) fun aF => ?_))))))
   ·
    refine gct rfl (gSk (gBk (gS (gR (gM rfl (gY (yG rfl (y_rem rfl rfl rfl (by decide))) (gB rfl (gY (yG rfl (y_conv8 underlying3 underlying5 rfl rfl)) (gf rfl (fun a hf => e_build (vs := #[(0, (.int .u8 (((byteI (w64 (48 + (aA.1.tmod 10))))).toNat : Int)))]) (cs := [(.int .u8 (((byteI (w64 (48 + (aA.1.tmod 10))))).toNat : Int))]) et_30 hf hm rfl rfl (by kernel_rfl) rfl rfl) ?_)))))))))
    rintro _ w ⟨aO, rfl, hm⟩
    replace hm := hm.lit (xs := ([(byteI (w64 (48 + (aA.1.tmod 10))))] : List UInt8)) 0 rfl rfl rfl rfl
    refine gY (yG rfl (y_bytesStr (xs := ([(byteI (w64 (48 + (aA.1.tmod 10))))] : List UInt8)) underlying30 underlying5 underlying9 rfl rfl (hm.ow_rep 0 rfl))) (gM rfl (gb fun aG aH => ?_))
    have aI := catS_some.1 aH
    exact gY (yG rfl (y_adds (p := (strL ([(byteI (w64 (48 + (aA.1.tmod 10))))] : List UInt8))) (q := aA.2) (u := aG) rfl rfl rfl aI)) (gA rfl (gE (gR (gM rfl (gY (yG rfl (y_quo rfl rfl rfl (by decide))) (gA rfl (gE (gze hm [] rfl))))))))
   exact gcf rfl (gXt (gHh (gLp aE aD (gz hm [] rfl))))
  repeat clear hm
  intro aB w hm
  refine gS (gR (gM rfl (gb fun aJ aK => ?_)))
  have aL := catS_some.1 aK
  exact gY (yG rfl (y_adds (p := (mkS [109])) (q := aB) (u := aJ) rfl rfl rfl aL)) (gA rfl (gE (gRt (gr1 results107 rfl ⟨rfl, hm.below⟩))))
theorem laws_markExprS_all  : ∀ (a_ : List Expr_) (k_ : Int) (r : Int × (List Expr_)), laws_markExprS a_ k_ = some r → ∀ (w0 : World) (hz : Heap) (v1 : Value) (hm0 : Mem w0 hz w0 [ow [v1] a_]), Con Tryz.prog 48 [v1, (nV k_)] w0 (fun v w' => v = (nV r.1) ∧ Mem w0 hz w' [ow [v1] r.2]) := by
  refine laws_markExprS.partial_correctness  (motive := fun a_ k_ r => ∀ (w0 : World) (hz : Heap) (v1 : Value) (hm0 : Mem w0 hz w0 [ow [v1] a_]), Con Tryz.prog 48 [v1, (nV k_)] w0 (fun v w' => v = (nV r.1) ∧ Mem w0 hz w' [ow [v1] r.2])) ?_
  intro rec_ ih_ a_ k_ r hq w0 hz v1 hm0
  have laws_markExprS_rec : ∀ (w0 : World) (hz : Heap) (a_ : List Expr_) (v1 : Value) (k_ : Int) (hm0 : Mem w0 hz w0 [ow [v1] a_]) (r : Int × (List Expr_)) (hq : rec_ a_ k_ = some r), Con Tryz.prog 48 [v1, (nV k_)] w0 (fun v w' => v = (nV r.1) ∧ Mem w0 hz w' [ow [v1] r.2]) := fun w0 hz a_ v1 k_ hm0 r hq => ih_ a_ k_ r hq w0 hz v1 hm0
  refine gconr (ρ := Int × (List Expr_)) (R := fun r v w' => v = (nV r.1) ∧ Mem w0 hz w' [ow [v1] r.2]) func48 rfl hq ?_
  have hm := hm0
  refine gS (gR (gA rfl (gE (gS (gS (gR (gA rfl (gE ?_))))))))
  obtain ⟨aZ, aI, rfl, ae⟩ := ro_slice (hm.ow_rep 0 rfl)
  refine gBk (gNf hm (fun aD aA => [(0, (.slice aZ a_.length aI)), (1, (nV aA.2)), (5, (nV aD))]) (fun aD aA => [ow [(.slice aZ a_.length aI)] aA.1]) [0] rfl ?_ ?_)
  ·
   repeat clear hm
   intro _ _ aD aA w hm af ag ah _
   refine gS (gS (gR (gM rfl (gM rfl ?_))))
   have ai := rep_len (hm.ow_rep 0 rfl)
   refine gY (yV st_22 rfl) (gB rfl (gE (go _ 9 rfl (decide_eq_true (by omega)) (gct rfl (gSk (gS (gBk (gS (gR (gM rfl (gM rfl (gM rfl (gg fun aB aL aJ => ?_)))))))))))))
   obtain ⟨aG, aH, aj, he⟩ := idx_form' (hm.ow_rep 0 rfl) aJ
   obtain ⟨rfl, _, rfl⟩ := sl3 he
   obtain ⟨a7, a8, ak⟩ := rk_Expr_ (hm.ow_rep 0 rfl) aJ
   have hL1_1 := rep_slice_len (hm.ow_rep 0 rfl)
   refine gI st_22 aL (idx_lt2 aJ hL1_1) rfl (gF fo_24_0 rfl (gf0 rfl (fun a hf => e_setElemR (x1 := ((⟨aA.2, aB.n_, aB.name, aB.kids⟩ : Expr_) : Expr_)) (j := 0) (vs := [(nV aA.2)]) 0 hf hm rfl aJ a8 rfl (fun F h ho => (fun (G : Nat → Prop) ho => own_Expr_.2 ((fun _ => own_fst_map (α := Int) (β := Int × Str × (List Expr_)) (cs := [(nV aB.op)]) (cs' := [(nV aA.2)]) (ds := [(nV aB.n_), (.string ⟨(aB.name).b.toArray⟩), a7]) rfl (fun _ _ => Flat.own_iff.2 rfl)) G (own_Expr_.1 ho))) F ho) rfl sizeOf3 rfl rfl rfl (one_cons rfl one_nil) rfl) ?_))
   rintro _ w hm
   have aM := List.getElem?_set_self (a := ((⟨aA.2, aB.n_, aB.name, aB.kids⟩ : Expr_) : Expr_)) (idx_lt aJ)
   refine gE (gS (gR (gM rfl (gB rfl (gA rfl (gE (gS (gR (gM rfl (gM rfl (gM rfl ?_)))))))))))
   obtain ⟨_, _, aP, aQ⟩ := ro_get' (hm.ow_rep 0 rfl) aM
   replace aQ := rep_Expr_.1 aQ
   obtain ⟨_, _, rfl, rfl, _, _, rfl, rfl, _, _, rfl, rfl, aR⟩ := aQ
   obtain ⟨aK, rfl, -⟩ := id aR
   replace aR : GT.rep (hp _) [aK] aB.kids := aR
   replace aP : CellsAt (hp _) aG (aH + (aD).toNat * 4) [(nV aA.2), (nV aB.n_), (.string ⟨(aB.name).b.toArray⟩), aK] := aP
   have hL1_2 := rep_slice_len (hm.ow_rep 0 rfl)
   refine gI st_22 aL (idx_lt2 aM hL1_2) rfl (gF fo_24_1 rfl (gf0 rfl (fun a hf => e_setElemR (x1 := ((⟨aA.2, w64 (aA.2 + 1), aB.name, aB.kids⟩ : Expr_) : Expr_)) (j := 1) (vs := [(nV (w64 (aA.2 + 1)))]) 0 hf hm rfl aM aP rfl (fun F h ho => (fun (G : Nat → Prop) ho => own_Expr_.2 ((fun _ => own_snd_map (α := Int) (β := Int × Str × (List Expr_)) (cs := [(nV aA.2)]) (ds := [(nV aB.n_), (.string ⟨(aB.name).b.toArray⟩), aK]) (ds' := [(nV (w64 (aA.2 + 1))), (.string ⟨(aB.name).b.toArray⟩), aK]) rfl (fun _ => own_fst_map (α := Int) (β := Str × (List Expr_)) (cs := [(nV aB.n_)]) (cs' := [(nV (w64 (aA.2 + 1)))]) (ds := [(.string ⟨(aB.name).b.toArray⟩), aK]) rfl (fun _ _ => Flat.own_iff.2 rfl))) G (own_Expr_.1 ho))) F ho) rfl sizeOf3 rfl rfl rfl (one_cons rfl one_nil) rfl) ?_))
   rintro _ w hm
   have aN := List.getElem?_set_self (a := ((⟨aA.2, w64 (aA.2 + 1), aB.name, aB.kids⟩ : Expr_) : Expr_)) (idx_lt aM)
   refine gE (gS (gR (gM rfl (gB rfl (gA rfl (gE (gS (gR (gM rfl (gM rfl (gM rfl (gC hm rfl call107 (laws_markText_ok _ (w64 ((w64 (aA.2 + 1)) + 1))) fun aC al w hm => ?_))))))))))))
   obtain ⟨_, _, aT, aU⟩ := ro_get' (hm.ow_rep 0 rfl) aN
   replace aU := rep_Expr_.1 aU
   obtain ⟨_, _, rfl, rfl, _, _, rfl, rfl, _, _, rfl, rfl, aV⟩ := aU
   obtain ⟨aF, rfl, -⟩ := id aV
   replace aV : GT.rep (hp _) [aF] aB.kids := aV
   replace aT : CellsAt (hp _) aG (aH + (aD).toNat * 4) [(nV aA.2), (nV (w64 (aA.2 + 1))), (.string ⟨(aB.name).b.toArray⟩), aF] := aT
   have hL1_3 := rep_slice_len (hm.ow_rep 0 rfl)
   refine gI st_22 aL (idx_lt2 aN hL1_3) rfl (gF fo_24_2 rfl (gf0 rfl (fun a hf => e_setElemR (x1 := ((⟨aA.2, w64 (aA.2 + 1), aC, aB.kids⟩ : Expr_) : Expr_)) (j := 2) (vs := [(.string ⟨(aC).b.toArray⟩)]) 0 hf hm rfl aN aT rfl (fun F h ho => (fun (G : Nat → Prop) ho => own_Expr_.2 ((fun _ => own_snd_map (α := Int) (β := Int × Str × (List Expr_)) (cs := [(nV aA.2)]) (ds := [(nV (w64 (aA.2 + 1))), (.string ⟨(aB.name).b.toArray⟩), aF]) (ds' := [(nV (w64 (aA.2 + 1))), (.string ⟨(aC).b.toArray⟩), aF]) rfl (fun _ => own_snd_map (α := Int) (β := Str × (List Expr_)) (cs := [(nV (w64 (aA.2 + 1)))]) (ds := [(.string ⟨(aB.name).b.toArray⟩), aF]) (ds' := [(.string ⟨(aC).b.toArray⟩), aF]) rfl (fun _ => own_fst_map (α := Str) (β := (List Expr_)) (cs := [(.string ⟨(aB.name).b.toArray⟩)]) (cs' := [(.string ⟨(aC).b.toArray⟩)]) (ds := [aF]) rfl (fun _ _ => Flat.own_iff.2 rfl)))) G (own_Expr_.1 ho))) F ho) rfl sizeOf9 rfl rfl rfl (one_cons rfl one_nil) rfl) ?_))
   rintro _ w hm
   have aW := List.getElem?_set_self (a := ((⟨aA.2, w64 (aA.2 + 1), aC, aB.kids⟩ : Expr_) : Expr_)) (idx_lt aN)
   refine gE (gS (gR (gM rfl (gB rfl (gA rfl (gE (gR (gM rfl (gM rfl ?_)))))))))
   obtain ⟨_, _, aO, aX⟩ := ro_get' (hm.ow_rep 0 rfl) aW
   replace aX := rep_Expr_.1 aX
   obtain ⟨_, _, rfl, rfl, _, _, rfl, rfl, _, _, rfl, rfl, aY⟩ := aX
   obtain ⟨aE, rfl, -⟩ := id aY
   replace aY : GT.rep (hp _) [aE] aB.kids := aY
   replace aO : CellsAt (hp _) aG (aH + (aD).toNat * 4) [(nV aA.2), (nV (w64 (aA.2 + 1))), (.string ⟨(aC).b.toArray⟩), aE] := aO
   have hL1_4 := rep_slice_len (hm.ow_rep 0 rfl)
   refine gI st_22 aL (idx_lt2 aW hL1_4) rfl (gF fo_24_3 rfl (gY (yl isAgg22 (aO.cell (j := 3) rfl) rfl) (gM rfl ?_)))
   replace hm : Mem w0 hz _ [ow [aE] aB.kids, hole [(sV aG aH a_.length aI)] [aE] (fun (y : List Expr_) => ((((aA.1.set (aD).toNat (⟨aA.2, aB.n_, aB.name, aB.kids⟩ : Expr_)).set (aD).toNat (⟨aA.2, w64 (aA.2 + 1), aB.name, aB.kids⟩ : Expr_)).set (aD).toNat (⟨aA.2, w64 (aA.2 + 1), aC, aB.kids⟩ : Expr_)) : List Expr_).set (aD).toNat (⟨aA.2, w64 (aA.2 + 1), aC, y⟩ : Expr_))] := hm.open 0 rfl (foc_elem aW aO rfl (show FocH (α := Expr_) _ _ (⟨aA.2, w64 (aA.2 + 1), aC, aB.kids⟩ : Expr_) [aE] aB.kids (fun y => (⟨aA.2, w64 (aA.2 + 1), aC, y⟩ : Expr_)) from (foc_rec (f := fun (x : Expr_) => (x.op, x.n_, x.name, x.kids)) (fun _ _ _ _ => own_Expr_) (fun _ => rfl) (foc_snd (α := Int) (β := Int × Str × (List Expr_)) (cs := [(nV aA.2)]) (ds := [(nV (w64 (aA.2 + 1))), (.string ⟨(aC).b.toArray⟩), aE]) (v := [aE]) (inner := aB.kids) (x := (w64 (aA.2 + 1), aC, aB.kids)) (z := aA.2) (put := fun (y : List Expr_) => (w64 (aA.2 + 1), aC, y)) rfl (foc_snd (α := Int) (β := Str × (List Expr_)) (cs := [(nV (w64 (aA.2 + 1)))]) (ds := [(.string ⟨(aC).b.toArray⟩), aE]) (v := [aE]) (inner := aB.kids) (x := (aC, aB.kids)) (z := w64 (aA.2 + 1)) (put := fun (y : List Expr_) => (aC, y)) rfl (foc_snd (α := Str) (β := (List Expr_)) (cs := [(.string ⟨(aC).b.toArray⟩)]) (ds := [aE]) (v := [aE]) (inner := aB.kids) (x := aB.kids) (z := aC) (put := fun (y : List Expr_) => y) rfl (foc_id [aE] aB.kids)))))))
   obtain ⟨aa, hle, hm1, hsub, ab⟩ := hm.take2 (L1 := [ow [aE] aB.kids]) (L2 := [hole [(sV aG aH a_.length aI)] [aE] (fun (y : List Expr_) => ((((aA.1.set (aD).toNat (⟨aA.2, aB.n_, aB.name, aB.kids⟩ : Expr_)).set (aD).toNat (⟨aA.2, w64 (aA.2 + 1), aB.name, aB.kids⟩ : Expr_)).set (aD).toNat (⟨aA.2, w64 (aA.2 + 1), aC, aB.kids⟩ : Expr_)) : List Expr_).set (aD).toNat (⟨aA.2, w64 (aA.2 + 1), aC, y⟩ : Expr_))]) [0] [1] (by decide) rfl rfl
   refine gCg rfl call48 (laws_markExprS_rec _ aa aB.kids aE (w64 ((w64 ((w64 (aA.2 + 1)) + 1)) + 1)) hm1 ) ?_
   rintro ac am an w ⟨rfl, hB⟩
   replace hm := ab _ _ hB; clear hB
   replace hm := (hm.shut 1 0 (by decide) rfl rfl).pk (L' := [ow [(sV aG aH a_.length aI)] ((((aA.1.set (aD).toNat (⟨aA.2, aB.n_, aB.name, aB.kids⟩ : Expr_)).set (aD).toNat (⟨aA.2, w64 (aA.2 + 1), aB.name, aB.kids⟩ : Expr_)).set (aD).toNat (⟨aA.2, w64 (aA.2 + 1), aC, aB.kids⟩ : Expr_)).set (aD).toNat (⟨aA.2, w64 (aA.2 + 1), aC, ac.2⟩ : Expr_))]) [1] rfl rfl
   exact gA rfl (gE (gR (gM rfl (gP (by omega) (by omega) rfl (gA rfl (gE (gze hm [0] rfl)))))))
  repeat clear hm
  intro ao ap w hm aq ar
  refine gS (gS (gR (gM rfl (gM rfl ?_))))
  have au := rep_len (hm.ow_rep 0 rfl)
  exact gY (yV st_22 rfl) (gB rfl (gE (go _ 9 rfl (decide_eq_false (by omega)) (gcf rfl (gXt (gHh (gS (gR (gM rfl (gA rfl (gE (gRt (gr1 results48 rfl ⟨rfl, hm.pk [0] rfl rfl⟩)))))))))))))
theorem laws_markExprS_ok (w0 : World) (hz : Heap) (a_ : List Expr_) (v1 : Value) (k_ : Int) (hm0 : Mem w0 hz w0 [ow [v1] a_]) (r : Int × (List Expr_)) (hq : laws_markExprS a_ k_ = some r) : Con Tryz.prog 48 [v1, (nV k_)] w0 (fun v w' => v = (nV r.1) ∧ Mem w0 hz w' [ow [v1] r.2]) := laws_markExprS_all a_ k_ r hq w0 hz v1 hm0
theorem laws_markExpr_ok (w0 : World) (hz : Heap) (a_ : Expr_) (v1 : Value) (k_ : Int) (hm0 : Mem w0 hz w0 [ow [v1] a_.kids]) :
    ConM Tryz.prog 16 [(.agg #[(nV a_.op), (nV a_.n_), (.string ⟨(a_.name).b.toArray⟩), v1]), (nV k_)] w0 (laws_markExpr a_ k_) fun r v w' => v = (nV r.1) ∧ Mem w0 hz w' [ow [v1] r.2] := by
  unfold laws_markExpr
  refine gcon func16 rfl fun r => ?_
  have hm := hm0
  refine gS (gR (gBx hm rfl fun aA w hm => gA rfl (gE (gS (gR (gF fo_24_3 rfl (gL hm 0 isAgg22 rfl (gM rfl ?_))))))))
  obtain ⟨aB, hle, hm1, hsub, aC⟩ := hm.take2 (L1 := [ow [v1] a_.kids]) (L2 := [blk aA [(nV a_.op), (nV a_.n_), (.string ⟨(a_.name).b.toArray⟩), v1] 24]) [1] [0] (by decide) rfl rfl
  refine gCg rfl call48 (laws_markExprS_ok _ aB a_.kids v1 k_ hm1 ) ?_
  rintro aD aE aF w ⟨rfl, hB⟩
  replace hm := aC _ _ hB; clear hB
  exact gA rfl (gE (gS (gR (gM rfl (gA rfl (gE (gRt (gr1 results16 rfl ⟨rfl, hm.pk [0] rfl rfl⟩))))))))
theorem laws_heldExprS_all  : ∀ (a_ : List Expr_) (k_ : Int) (r : Int), laws_heldExprS a_ k_ = some r → ∀ (w0 : World) (v1 : Value) (h1 : GT.rep (hp w0) [v1] a_), Con Tryz.prog 49 [v1, (nV k_)] w0 (fun v w' => v = (nV r) ∧ Below w0.heap.size w0 w') := by
  refine laws_heldExprS.partial_correctness  (motive := fun a_ k_ r => ∀ (w0 : World) (v1 : Value) (h1 : GT.rep (hp w0) [v1] a_), Con Tryz.prog 49 [v1, (nV k_)] w0 (fun v w' => v = (nV r) ∧ Below w0.heap.size w0 w')) ?_
  intro rec_ ih_ a_ k_ r hq w0 v1 h1
  have laws_heldExprS_rec : ∀ (w0 : World) (a_ : List Expr_) (v1 : Value) (h1 : GT.rep (hp w0) [v1] a_) (k_ : Int) (r : Int) (hq : rec_ a_ k_ = some r), Con Tryz.prog 49 [v1, (nV k_)] w0 (fun v w' => v = (nV r) ∧ Below w0.heap.size w0 w') := fun w0 a_ v1 h1 k_ r hq => ih_ a_ k_ r hq w0 v1 h1
  refine gconr (ρ := Int) (R := fun r v w' => v = (nV r) ∧ Below w0.heap.size w0 w') func49 rfl hq ?_
  have hm := Mem.start w0
  refine gS (gR (gA rfl (gE (gS (gS (gR (gA rfl (gE (gBk (gNf hm (fun aG aB => [(0, v1), (1, (nV aB)), (5, (nV aG))]) (fun aG aB => []) [] rfl ?_ ?_))))))))))
  ·
   repeat clear hm
   intro aQ aC aG aB w hm aR aT aU aD
   refine gS (gS (gR (gM rfl (gM rfl ?_))))
   obtain ⟨aV, aW, rfl, aX⟩ := ro_slice h1
   refine gY (yV st_22 rfl) (gB rfl (gE (go _ 9 rfl (decide_eq_true (by omega)) (gct rfl (gSk (gS (gBk (gS (gS (gR (gM rfl (gM rfl (gg fun aH aE aA => ?_)))))))))))))
   obtain ⟨aY, aZ, a7, he⟩ := idx_form' h1 aA
   obtain ⟨rfl, _, rfl⟩ := sl3 he
   obtain ⟨aI, aF, aJ⟩ := rk_Expr_ h1 aA
   refine gI st_22 aE (idx_lt aA) rfl (gF fo_24_0 rfl (gY (yl isAgg3 ((aF.mono hm.lez).cell (j := 0) rfl) rfl) (gM rfl (gB rfl (gE (gsd 18 rfl (fun aK => ?_) fun aK => ?_))))))
   ·
    exact gct rfl (gS (gR (gA rfl (gE (gRt (gLr aD aC (gr1 results49 rfl ⟨rfl, hm.below⟩)))))))
   refine gcf rfl (gSk (gS (gR (gM rfl (gB rfl (gA rfl (gE (gS (gS (gR (gM rfl (gM rfl (gI st_22 aE (idx_lt aA) rfl (gF fo_24_1 rfl (gY (yl isAgg3 ((aF.mono hm.lez).cell (j := 1) rfl) rfl) (gM rfl (gB rfl (gE (gsd 27 rfl (fun aL => ?_) fun aL => ?_)))))))))))))))))))
   ·
    exact gct rfl (gS (gR (gA rfl (gE (gRt (gLr aD aC (gr1 results49 rfl ⟨rfl, hm.below⟩)))))))
   refine gcf rfl (gSk (gS (gR (gM rfl (gB rfl (gA rfl (gE (gS (gS (gW (.p 0 (.p 1 (.p 2 (.p 3 (.p 5 (.q 4 (.e 6 (.p 7 .fin) .nil))))))) [6] [0, 1, 2, 3, 5, 7] hm [] [] rfl mxo (by kernel_rfl) (fun _ _ _ h => h.2) fun w hm hS => tP rfl (fun w => yM rfl) (tP rfl (fun w => yM rfl) (tP rfl (fun w => yI st_22 aE (idx_lt aA) rfl) (tP rfl (fun w => yF fo_24_2 rfl) (tP rfl (fun w => yM rfl) (tQ rfl hS (fun w hm => yl isAgg9 ((aF.mono hm.lez).cell (j := 2) rfl) rfl) (tO (gb fun aM aN => tf rfl rfl (fun a hf => e_call hf rfl call107 rfl (laws_markText_ok _ (w64 ((w64 (aB + 1)) + 1)) _ aN)) ?_)))))))))))))))))
   rintro a8 w ⟨rfl, hB⟩
   replace hm := hm.below' hB; clear hB
   refine tAk hm [] rfl fun hS => tP rfl (fun w => yG rfl (y_neqs (p := aH.name) (q := aM) rfl rfl rfl)) (tE (gsd 37 rfl (fun aO => ?_) fun aO => ?_))
   ·
    exact gct rfl (gS (gR (gA rfl (gE (gRt (gLr aD aC (gr1 results49 rfl ⟨rfl, hm.below⟩)))))))
   refine gcf rfl (gSk (gS (gR (gM rfl (gB rfl (gA rfl (gE (gS (gR (gM rfl (gM rfl (gI st_22 aE (idx_lt aA) rfl (gF fo_24_3 rfl (gY (yl isAgg22 ((aF.mono hm.lez).cell (j := 3) rfl) rfl) (gM rfl (gC hm rfl call49 (laws_heldExprS_rec _ aH.kids aI (hm.now aJ) (w64 ((w64 ((w64 (aB + 1)) + 1)) + 1))) fun aa ab w hm => gA rfl (gE (gS (gR (gM rfl (gB rfl (gE (gsd 48 rfl (fun aP => ?_) fun aP => ?_)))))))))))))))))))))))
   ·
    exact gct rfl (gS (gR (gA rfl (gE (gRt (gLr aD aC (gr1 results49 rfl ⟨rfl, hm.below⟩)))))))
   exact gcf rfl (gSk (gR (gM rfl (gP (by omega) (by omega) rfl (gA rfl (gE (gze hm [] rfl)))))))
  repeat clear hm
  intro ac ae w hm af ag
  refine gS (gS (gR (gM rfl (gM rfl ?_))))
  obtain ⟨ah, ai, rfl, aj⟩ := ro_slice h1
  exact gY (yV st_22 rfl) (gB rfl (gE (go _ 9 rfl (decide_eq_false (by omega)) (gcf rfl (gXt (gHh (gS (gR (gM rfl (gA rfl (gE (gRt (gr1 results49 rfl ⟨rfl, hm.below⟩)))))))))))))
theorem laws_heldExprS_ok (w0 : World) (a_ : List Expr_) (v1 : Value) (h1 : GT.rep (hp w0) [v1] a_) (k_ : Int) (r : Int) (hq : laws_heldExprS a_ k_ = some r) : Con Tryz.prog 49 [v1, (nV k_)] w0 (fun v w' => v = (nV r) ∧ Below w0.heap.size w0 w') := laws_heldExprS_all a_ k_ r hq w0 v1 h1
theorem laws_heldExpr_ok (w0 : World) (a_ : Expr_) (v1 : Value) (h1 : GT.rep (hp w0) [v1] a_.kids) (k_ : Int) :
    ConM Tryz.prog 17 [(.agg #[(nV a_.op), (nV a_.n_), (.string ⟨(a_.name).b.toArray⟩), v1]), (nV k_)] w0 (laws_heldExpr a_ k_) fun r v w' => v = (nV r) ∧ Below w0.heap.size w0 w' := by
  unfold laws_heldExpr
  refine gcon func17 rfl fun r => ?_
  have hm := Mem.start w0
  refine gS (gR (gBx hm rfl fun aB w hm => gA rfl (gE (gS (gR (gF fo_24_3 rfl (gL hm 0 isAgg22 rfl (gM rfl (gC hm rfl call49 (laws_heldExprS_ok _ a_.kids v1 (hm.now h1) k_) fun aC aD w hm => gA rfl (gE (gS (gS (gR (gM rfl (gB rfl (gE (gsd 10 rfl (fun aA => ?_) fun aA => ?_)))))))))))))))))
  ·
   exact gct rfl (gS (gR (gA rfl (gE (gRt (gr1 results17 rfl ⟨rfl, hm.below⟩))))))
  exact gcf rfl (gSk (gS (gR (gM rfl (gA rfl (gE (gRt (gr1 results17 rfl ⟨rfl, hm.below⟩))))))))
theorem laws_FnExactReadExpr_ok (w0 : World) (aS : Str) (hG0 : GT.rep (hp w0) [.slice (some ⟨0, 0, none⟩) 1 1] [glob_impl_opSign]) (hG1 : GT.rep (hp w0) [.slice (some ⟨1, 0, none⟩) 9 9] glob_impl_keys) :
    ConM Tryz.prog 3 [(.string ⟨(aS).b.toArray⟩)] w0 (laws_FnExactReadExpr aS) fun r v w' => v = (.bool (r)) ∧ Below w0.heap.size w0 w' := by
  unfold laws_FnExactReadExpr
  refine gcon func3 rfl fun r => ?_
  have hm := Mem.start w0
  refine gS (gR (gA rfl (gE (gS (gS (gR (gM rfl (gY (yG rfl (y_len_str (p := aS) underlying9 rfl rfl)) ?_))))))))
  have aX := (aS).h
  refine gB rfl (gE (gsd 13 rfl (fun aJ => ?_) fun aJ => ?_))
  ·
   exact gct rfl (gS (gR (gA rfl (gE (gRt (gr1 results3 rfl ⟨rfl, hm.below⟩))))))
  refine gcf rfl (gSk (gS (gR (gM rfl (gCg rfl call13 (spec_ReadExpr_ok _ aS) ?_)))))
  rintro aB aY aZ w ⟨aD, rfl, hB⟩
  replace hm := hm.give hB; clear hB
  refine gM rfl (gX rfl (gX rfl (gAl hm zeroValue24 rfl fun aI w hm => gSN hm 0 sizeOf24 (one_cons rfl (one_cons rfl (one_cons rfl (one_cons (rep_one (hm.ow_rep 1 rfl)) one_nil)))) rfl fun w hm => gA rfl (gE (gS (gR (gM rfl (gCg rfl call14 (impl_ReadExpr_ok _ aS (hm.now hG0) (hm.now hG1)) ?_))))))))
  rintro aA a7 a8 w ⟨aC, rfl, hB⟩
  replace hm := hm.give hB; clear hB
  refine gM rfl (gX rfl (gX rfl (gAl hm zeroValue24 rfl fun aE w hm => gSN hm 0 sizeOf24 (one_cons rfl (one_cons rfl (one_cons rfl (one_cons (rep_one (hm.ow_rep 1 rfl)) one_nil)))) rfl fun w hm => gA rfl (gE (gS (gS (gJ hm (fun aF => [(0, (.string ⟨(aS).b.toArray⟩)), (3, (pV aI)), (4, (.bool (aB.2))), (5, (pV aE)), (32, (.bool (aF)))]) (fun aF => [blk aI [(nV aB.1.op), (nV aB.1.n_), (.string ⟨(aB.1.name).b.toArray⟩), aD] 24, ow [aD] aB.1.kids, blk aE [(nV aA.1.op), (nV aA.1.n_), (.string ⟨(aA.1.name).b.toArray⟩), aC] 24, ow [aC] aA.1.kids]) (fun aF => ?_) ?_)))))))
  ·
   refine gR (gY (yn (hm.blk_at 0 rfl) isAgg24 sizeOf24 rfl) (gY (yn (hm.blk_at 2 rfl) isAgg24 sizeOf24 rfl) (gC hm rfl call15 (laws_eqExpr_ok _ aA.1 aC (hm.ow_rep 1 rfl) aB.1 aD (hm.ow_rep 3 rfl)) fun aa ab w hm => gN rfl (gM rfl (gsn 28 rfl (fun aK => ?_) fun aK => ?_)))))
   ·
    exact gO rfl (gO rfl (gO rfl (gKt rfl (gE (gz hm [2, 3, 0, 1] rfl)))))
   exact gM rfl (gM rfl (gY (yG rfl (y_neqb underlying4 rfl rfl rfl)) (gKf rfl (gE (gz hm [2, 3, 0, 1] rfl)))))
  repeat clear hm
  intro aF w hm
  refine gs 32 rfl (fun aL => ?_) fun aL => ?_
  ·
   exact gct rfl (gS (gR (gA rfl (gE (gRt (gr1 results3 rfl ⟨rfl, hm.below⟩))))))
  refine gcf rfl (gSk (gS (gR (gA rfl (gE (gS (gR (gY (yn (hm.blk_at 2 rfl) isAgg24 sizeOf24 rfl) (gM rfl ?_)))))))))
  obtain ⟨aM, hle, hm1, hsub, aN⟩ := hm.take2 (L1 := [ow [aC] aA.1.kids]) (L2 := [blk aI [(nV aB.1.op), (nV aB.1.n_), (.string ⟨(aB.1.name).b.toArray⟩), aD] 24, ow [aD] aB.1.kids, blk aE [(nV aA.1.op), (nV aA.1.n_), (.string ⟨(aA.1.name).b.toArray⟩), aC] 24]) [3] [0, 1, 2] (by decide) rfl rfl
  refine gCg rfl call16 (laws_markExpr_ok _ aM aA.1 aC 1 hm1 ) ?_
  rintro aG ac ae w ⟨rfl, hB⟩
  replace hm := aN _ _ hB; clear hB
  refine gA rfl (gE (gS (gR (gA rfl (gE (gS (gR (gY (yn (hm.blk_at 3 rfl) isAgg24 sizeOf24 rfl) (gM rfl (gC hm rfl call17 (laws_heldExpr_ok _ (⟨aA.1.op, aA.1.n_, aA.1.name, aG.2⟩ : Expr_) aC (hm.ow_rep 0 rfl) 1) fun af ag w hm => gA rfl (gE (gS (gS (gR (gM rfl (gB rfl (gE (gsd 40 rfl (fun aO => ?_) fun aO => ?_))))))))))))))))))
  ·
   exact gct rfl (gS (gR (gA rfl (gE (gRt (gr1 results3 rfl ⟨rfl, hm.below⟩))))))
  refine gcf rfl (gSk (gS (gS (gR (gM rfl (gM rfl (gB rfl (gE (gsd 43 rfl (fun aP => ?_) fun aP => ?_)))))))))
  ·
   exact gct rfl (gS (gR (gA rfl (gE (gRt (gr1 results3 rfl ⟨rfl, hm.below⟩))))))
  refine gcf rfl (gSk (gS (gR (gM rfl (gCg rfl call14 (impl_ReadExpr_ok _ aS (hm.now hG0) (hm.now hG1)) ?_)))))
  rintro aQ ah ai w ⟨aR, rfl, hB⟩
  replace hm := hm.give hB; clear hB
  refine gM rfl (gX rfl (gX rfl (gAl hm zeroValue24 rfl fun aj w hm => gSN hm 0 sizeOf24 (one_cons rfl (one_cons rfl (one_cons rfl (one_cons (rep_one (hm.ow_rep 1 rfl)) one_nil)))) rfl fun w hm => gA rfl (gE (gS (gS (gJ hm (fun aH => [(5, (pV aE)), (7, (nV aG.1)), (57, (.bool (aH)))]) (fun aH => [blk aE [(nV aA.1.op), (nV aA.1.n_), (.string ⟨(aA.1.name).b.toArray⟩), aC] 24, ow [aC] aG.2]) (fun aH => ?_) ?_)))))))
  ·
   refine gR (gY (yn (hm.blk_at 0 rfl) isAgg24 sizeOf24 rfl) (gY (yn (hm.blk_at 3 rfl) isAgg24 sizeOf24 rfl) (gC hm rfl call15 (laws_eqExpr_ok _ aQ.1 aR (hm.ow_rep 1 rfl) aB.1 aD (hm.ow_rep 4 rfl)) fun ak al w hm => gN rfl (gM rfl (gsn 53 rfl (fun aT => ?_) fun aT => ?_)))))
   ·
    exact gO rfl (gO rfl (gO rfl (gKt rfl (gE (gz hm [5, 2] rfl)))))
   exact gM rfl (gM rfl (gY (yG rfl (y_neqb underlying4 rfl rfl rfl)) (gKf rfl (gE (gz hm [5, 2] rfl)))))
  repeat clear hm
  intro aH w hm
  refine gs 57 rfl (fun aU => ?_) fun aU => ?_
  ·
   exact gct rfl (gS (gR (gA rfl (gE (gRt (gr1 results3 rfl ⟨rfl, hm.below⟩))))))
  refine gcf rfl (gSk (gS (gR (gA rfl (gE (gS (gR (gY (yn (hm.blk_at 0 rfl) isAgg24 sizeOf24 rfl) (gM rfl (gC hm rfl call17 (laws_heldExpr_ok _ (⟨aA.1.op, aA.1.n_, aA.1.name, aG.2⟩ : Expr_) aC (hm.ow_rep 1 rfl) 1) fun am an w hm => gA rfl (gE (gS (gS (gR (gM rfl (gB rfl (gE (gsd 62 rfl (fun aV => ?_) fun aV => ?_))))))))))))))))))
  ·
   exact gct rfl (gS (gR (gA rfl (gE (gRt (gr1 results3 rfl ⟨rfl, hm.below⟩))))))
  refine gcf rfl (gSk (gS (gS (gR (gM rfl (gM rfl (gB rfl (gE (gsd 65 rfl (fun aW => ?_) fun aW => ?_)))))))))
  ·
   exact gct rfl (gS (gR (gA rfl (gE (gRt (gr1 results3 rfl ⟨rfl, hm.below⟩))))))
  exact gcf rfl (gSk (gS (gR (gA rfl (gE (gRt (gr1 results3 rfl ⟨rfl, hm.below⟩)))))))
end Go.Proofs.YtjccffpccjdmgaaGreatDoor
