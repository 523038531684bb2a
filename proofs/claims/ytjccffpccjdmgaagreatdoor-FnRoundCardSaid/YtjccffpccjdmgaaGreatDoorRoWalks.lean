/- A part of the proof of FnRoundCardSaid. -/
import Derived.Test.YtjccffpccjdmgaaGreatDoorRoWalksA
namespace Go.Proofs.YtjccffpccjdmgaaGreatDoor
open Go Go.Wk Go.RowKit
set_option maxRecDepth 4000
set_option maxHeartbeats 4000000
open Tryz
theorem spec_l1Some_ok (w0 : World) (hz : Heap) (r_ : l30Rd) (bp0 : Nat) (v1p : Value) (h1p : GT.rep hz [v1p] r_.b) (hm0 : Mem w0 hz w0 [blk bp0 [v1p, (nV r_.p)] 124]) :
    ConM Tryz.prog 119 [(pV bp0)] w0 (spec_l1Some r_) fun r v w' => v = (.string ⟨(r.1).b.toArray⟩) ∧ Mem w0 hz w' [blk bp0 [v1p, (nV r.2.p)] 124] := by
  unfold spec_l1Some
  refine gcon func119 rfl fun r => ?_
  have hm := hm0
  refine gS (gR (gA rfl (gE (gS (gS (gR (gM rfl ?_)))))))
  obtain ⟨aG, hle, hm1, hsub, aH⟩ := hm.take2 (L1 := [blk bp0 [v1p, (nV r_.p)] 124]) (L2 := []) [0] [] (by decide) rfl rfl
  refine gCg rfl call52 (pspec_l30Rd__pick_ok _ aG r_ bp0 v1p (GT.mono hle h1p) 5 hm1 ) ?_
  rintro aA aV aX w ⟨rfl, hB⟩
  replace hm := aH _ _ hB; clear hB
  refine gE (gBk (gS (gR (gB rfl (gA rfl (gE (gsd 5 rfl (fun aI => ?_) fun aI => ?_)))))))
  ·
   refine gct rfl (gS (gR (gM rfl (gf rfl (fun a hf => e_build (vs := #[(0, (.string ⟨((mkS [97])).b.toArray⟩)), (1, (.string ⟨((mkS [98])).b.toArray⟩)), (2, (.string ⟨((mkS [120])).b.toArray⟩)), (3, (.string ⟨((mkS [103, 111])).b.toArray⟩)), (4, (.string ⟨((mkS [97, 98, 99, 100])).b.toArray⟩)), (5, (.string ⟨((mkS [122, 122])).b.toArray⟩))]) (cs := [(.string ⟨((mkS [97])).b.toArray⟩), (.string ⟨((mkS [98])).b.toArray⟩), (.string ⟨((mkS [120])).b.toArray⟩), (.string ⟨((mkS [103, 111])).b.toArray⟩), (.string ⟨((mkS [97, 98, 99, 100])).b.toArray⟩), (.string ⟨((mkS [122, 122])).b.toArray⟩)]) et_74 hf hm rfl rfl (by kernel_rfl) rfl rfl) ?_))))
   rintro _ w ⟨aB, rfl, hm⟩
   replace hm := hm.lit (xs := ([(mkS [97]), (mkS [98]), (mkS [120]), (mkS [103, 111]), (mkS [97, 98, 99, 100]), (mkS [122, 122])] : List Str)) 0 rfl rfl rfl rfl
   obtain ⟨aJ, hle, hm1, hsub, aK⟩ := hm.take2 (L1 := [blk bp0 [v1p, (nV aA.2.p)] 124]) (L2 := [ow [(sV aB 0 6 6)] ([(mkS [97]), (mkS [98]), (mkS [120]), (mkS [103, 111]), (mkS [97, 98, 99, 100]), (mkS [122, 122])] : List Str)]) [1] [0] (by decide) rfl rfl
   refine gCg rfl call64 (pspec_l30Rd__of_ok _ aJ (⟨r_.b, aA.2.p⟩ : l30Rd) bp0 v1p (GT.mono hle h1p) ([(mkS [97]), (mkS [98]), (mkS [120]), (mkS [103, 111]), (mkS [97, 98, 99, 100]), (mkS [122, 122])] : List Str) (sV aB 0 6 6) (fz_ow (hsub 0 _ rfl)) hm1 ) ?_
   rintro aY aZ a7 w ⟨rfl, hB⟩
   replace hm := aK _ _ hB; clear hB
   exact gA rfl (gE (gRt (gr1 results119 rfl ⟨rfl, hm.pk [0] rfl rfl⟩)))
  refine gcf rfl (gS (gR (gB rfl (gA rfl (gE (gsd 10 rfl (fun aL => ?_) fun aL => ?_))))))
  ·
   refine gct rfl (gS (gR (gM rfl (gf rfl (fun a hf => e_build (vs := #[(0, (nV 0)), (1, (nV 1)), (2, (nV 7)), (3, (nV 10)), (4, (nV 99)), (5, (nV 100)), (6, (nV 255))]) (cs := [(nV 0), (nV 1), (nV 7), (nV 10), (nV 99), (nV 100), (nV 255)]) et_83 hf hm rfl rfl (by kernel_rfl) rfl rfl) ?_))))
   rintro _ w ⟨aC, rfl, hm⟩
   replace hm := hm.lit (xs := ([0, 1, 7, 10, 99, 100, 255] : List Int)) 0 rfl rfl rfl rfl
   obtain ⟨aM, hle, hm1, hsub, aN⟩ := hm.take2 (L1 := [blk bp0 [v1p, (nV aA.2.p)] 124]) (L2 := [ow [(sV aC 0 7 7)] ([0, 1, 7, 10, 99, 100, 255] : List Int)]) [1] [0] (by decide) rfl rfl
   refine gCg rfl call63 (pspec_l30Rd__num_ok _ aM (⟨r_.b, aA.2.p⟩ : l30Rd) bp0 v1p (GT.mono hle h1p) ([0, 1, 7, 10, 99, 100, 255] : List Int) (sV aC 0 7 7) (fz_ow (hsub 0 _ rfl)) hm1 ) ?_
   rintro aO a8 aa w ⟨rfl, hB⟩
   replace hm := aN _ _ hB; clear hB
   exact gC hm rfl call116 (spec_l30Dec_ok _ aO.1) fun ab ac w hm => gA rfl (gE (gRt (gr1 results119 rfl ⟨rfl, hm.pk [0] rfl rfl⟩)))
  refine gcf rfl (gS (gR (gB rfl (gA rfl (gE (gsd 16 rfl (fun aP => ?_) fun aP => ?_))))))
  ·
   refine gct rfl (gS (gR (gM rfl (gCg rfl call162 (spec_KeyWords_ok _ ) ?_))))
   rintro aD ae aE w ⟨_, rfl, hB⟩
   replace hm := hm.give hB; clear hB
   obtain ⟨aQ, hle, hm1, hsub, aR⟩ := hm.take2 (L1 := [blk bp0 [v1p, (nV aA.2.p)] 124]) (L2 := [ow [aE] aD]) [1] [0] (by decide) rfl rfl
   refine gCg rfl call64 (pspec_l30Rd__of_ok _ aQ (⟨r_.b, aA.2.p⟩ : l30Rd) bp0 v1p (GT.mono hle h1p) aD aE (fz_ow (hsub 0 _ rfl)) hm1 ) ?_
   rintro af ag ah w ⟨rfl, hB⟩
   replace hm := aR _ _ hB; clear hB
   exact gA rfl (gE (gRt (gr1 results119 rfl ⟨rfl, hm.pk [0] rfl rfl⟩)))
  refine gcf rfl (gSk (gS (gR (gM rfl (gf rfl (fun a hf => e_build (vs := #[(0, (.string ⟨((mkS [40])).b.toArray⟩)), (1, (.string ⟨((mkS [41])).b.toArray⟩)), (2, (.string ⟨((mkS [123])).b.toArray⟩)), (3, (.string ⟨((mkS [125])).b.toArray⟩)), (4, (.string ⟨((mkS [59])).b.toArray⟩)), (5, (.string ⟨((mkS [44])).b.toArray⟩)), (6, (.string ⟨((mkS [43])).b.toArray⟩)), (7, (.string ⟨((mkS [45])).b.toArray⟩)), (8, (.string ⟨((mkS [42])).b.toArray⟩)), (9, (.string ⟨((mkS [47])).b.toArray⟩)), (10, (.string ⟨((mkS [37])).b.toArray⟩)), (11, (.string ⟨((mkS [60])).b.toArray⟩)), (12, (.string ⟨((mkS [61])).b.toArray⟩)), (13, (.string ⟨((mkS [38])).b.toArray⟩)), (14, (.string ⟨((mkS [33])).b.toArray⟩)), (15, (.string ⟨((mkS [64])).b.toArray⟩))]) (cs := [(.string ⟨((mkS [40])).b.toArray⟩), (.string ⟨((mkS [41])).b.toArray⟩), (.string ⟨((mkS [123])).b.toArray⟩), (.string ⟨((mkS [125])).b.toArray⟩), (.string ⟨((mkS [59])).b.toArray⟩), (.string ⟨((mkS [44])).b.toArray⟩), (.string ⟨((mkS [43])).b.toArray⟩), (.string ⟨((mkS [45])).b.toArray⟩), (.string ⟨((mkS [42])).b.toArray⟩), (.string ⟨((mkS [47])).b.toArray⟩), (.string ⟨((mkS [37])).b.toArray⟩), (.string ⟨((mkS [60])).b.toArray⟩), (.string ⟨((mkS [61])).b.toArray⟩), (.string ⟨((mkS [38])).b.toArray⟩), (.string ⟨((mkS [33])).b.toArray⟩), (.string ⟨((mkS [64])).b.toArray⟩)]) et_74 hf hm rfl rfl (by kernel_rfl) rfl rfl) ?_)))))
  rintro _ w ⟨aF, rfl, hm⟩
  replace hm := hm.lit (xs := ([(mkS [40]), (mkS [41]), (mkS [123]), (mkS [125]), (mkS [59]), (mkS [44]), (mkS [43]), (mkS [45]), (mkS [42]), (mkS [47]), (mkS [37]), (mkS [60]), (mkS [61]), (mkS [38]), (mkS [33]), (mkS [64])] : List Str)) 0 rfl rfl rfl rfl
  obtain ⟨aS, hle, hm1, hsub, aU⟩ := hm.take2 (L1 := [blk bp0 [v1p, (nV aA.2.p)] 124]) (L2 := [ow [(sV aF 0 16 16)] ([(mkS [40]), (mkS [41]), (mkS [123]), (mkS [125]), (mkS [59]), (mkS [44]), (mkS [43]), (mkS [45]), (mkS [42]), (mkS [47]), (mkS [37]), (mkS [60]), (mkS [61]), (mkS [38]), (mkS [33]), (mkS [64])] : List Str)]) [1] [0] (by decide) rfl rfl
  refine gCg rfl call64 (pspec_l30Rd__of_ok _ aS (⟨r_.b, aA.2.p⟩ : l30Rd) bp0 v1p (GT.mono hle h1p) ([(mkS [40]), (mkS [41]), (mkS [123]), (mkS [125]), (mkS [59]), (mkS [44]), (mkS [43]), (mkS [45]), (mkS [42]), (mkS [47]), (mkS [37]), (mkS [60]), (mkS [61]), (mkS [38]), (mkS [33]), (mkS [64])] : List Str) (sV aF 0 16 16) (fz_ow (hsub 0 _ rfl)) hm1 ) ?_
  rintro ai aj ak w ⟨rfl, hB⟩
  replace hm := aU _ _ hB; clear hB
  exact gA rfl (gE (gRt (gr1 results119 rfl ⟨rfl, hm.pk [0] rfl rfl⟩)))
theorem spec_l1Bad_ok (w0 : World) (hz : Heap) (r_ : l30Rd) (bp0 : Nat) (v1p : Value) (h1p : GT.rep hz [v1p] r_.b) (hm0 : Mem w0 hz w0 [blk bp0 [v1p, (nV r_.p)] 124]) :
    ConM Tryz.prog 118 [(pV bp0)] w0 (spec_l1Bad r_) fun r v w' => v = (.string ⟨(r.1).b.toArray⟩) ∧ Mem w0 hz w' [blk bp0 [v1p, (nV r.2.p)] 124] := by
  unfold spec_l1Bad
  refine gcon func118 rfl fun r => ?_
  have hm := hm0
  refine gS (gR (gA rfl (gE (gS (gS (gR (gM rfl ?_)))))))
  obtain ⟨aC, hle, hm1, hsub, aD⟩ := hm.take2 (L1 := [blk bp0 [v1p, (nV r_.p)] 124]) (L2 := []) [0] [] (by decide) rfl rfl
  refine gCg rfl call52 (pspec_l30Rd__pick_ok _ aC r_ bp0 v1p (GT.mono hle h1p) 10 hm1 ) ?_
  rintro aA aJ aK w ⟨rfl, hB⟩
  replace hm := aD _ _ hB; clear hB
  refine gB rfl (gE (gsd 5 rfl (fun aE => ?_) fun aE => ?_))
  ·
   refine gct rfl (gS (gR (gM rfl (gf rfl (fun a hf => e_build (vs := #[(0, (.string ⟨((mkS [97, 98, 99, 100, 101])).b.toArray⟩)), (1, (.string ⟨((mkS [50, 53, 54])).b.toArray⟩)), (2, (.string ⟨((mkS [48, 49])).b.toArray⟩)), (3, (.string ⟨((mkS [48, 48])).b.toArray⟩)), (4, (.string ⟨((mkS [63])).b.toArray⟩)), (5, (.string ⟨((mkS [65])).b.toArray⟩)), (6, (.string ⟨((mkS [9])).b.toArray⟩)), (7, (.string ⟨((mkS [36])).b.toArray⟩)), (8, (.string ⟨((mkS [120, 95, 121])).b.toArray⟩)), (9, (.string ⟨((mkS [])).b.toArray⟩))]) (cs := [(.string ⟨((mkS [97, 98, 99, 100, 101])).b.toArray⟩), (.string ⟨((mkS [50, 53, 54])).b.toArray⟩), (.string ⟨((mkS [48, 49])).b.toArray⟩), (.string ⟨((mkS [48, 48])).b.toArray⟩), (.string ⟨((mkS [63])).b.toArray⟩), (.string ⟨((mkS [65])).b.toArray⟩), (.string ⟨((mkS [9])).b.toArray⟩), (.string ⟨((mkS [36])).b.toArray⟩), (.string ⟨((mkS [120, 95, 121])).b.toArray⟩), (.string ⟨((mkS [])).b.toArray⟩)]) et_74 hf hm rfl rfl (by kernel_rfl) rfl rfl) ?_))))
   rintro _ w ⟨aB, rfl, hm⟩
   replace hm := hm.lit (xs := ([(mkS [97, 98, 99, 100, 101]), (mkS [50, 53, 54]), (mkS [48, 49]), (mkS [48, 48]), (mkS [63]), (mkS [65]), (mkS [9]), (mkS [36]), (mkS [120, 95, 121]), (mkS [])] : List Str)) 0 rfl rfl rfl rfl
   obtain ⟨aF, hle, hm1, hsub, aG⟩ := hm.take2 (L1 := [blk bp0 [v1p, (nV aA.2.p)] 124]) (L2 := [ow [(sV aB 0 10 10)] ([(mkS [97, 98, 99, 100, 101]), (mkS [50, 53, 54]), (mkS [48, 49]), (mkS [48, 48]), (mkS [63]), (mkS [65]), (mkS [9]), (mkS [36]), (mkS [120, 95, 121]), (mkS [])] : List Str)]) [1] [0] (by decide) rfl rfl
   refine gCg rfl call64 (pspec_l30Rd__of_ok _ aF (⟨r_.b, aA.2.p⟩ : l30Rd) bp0 v1p (GT.mono hle h1p) ([(mkS [97, 98, 99, 100, 101]), (mkS [50, 53, 54]), (mkS [48, 49]), (mkS [48, 48]), (mkS [63]), (mkS [65]), (mkS [9]), (mkS [36]), (mkS [120, 95, 121]), (mkS [])] : List Str) (sV aB 0 10 10) (fz_ow (hsub 0 _ rfl)) hm1 ) ?_
   rintro aL aM aN w ⟨rfl, hB⟩
   replace hm := aG _ _ hB; clear hB
   exact gA rfl (gE (gRt (gr1 results118 rfl ⟨rfl, hm.pk [0] rfl rfl⟩)))
  refine gcf rfl (gSk (gS (gR (gM rfl ?_))))
  obtain ⟨aH, hle, hm1, hsub, aI⟩ := hm.take2 (L1 := [blk bp0 [v1p, (nV aA.2.p)] 124]) (L2 := []) [0] [] (by decide) rfl rfl
  refine gCg rfl call119 (spec_l1Some_ok _ aH (⟨r_.b, aA.2.p⟩ : l30Rd) bp0 v1p (GT.mono hle h1p) hm1 ) ?_
  rintro aO aP aQ w ⟨rfl, hB⟩
  replace hm := aI _ _ hB; clear hB
  exact gA rfl (gE (gRt (gr1 results118 rfl ⟨rfl, hm.pk [0] rfl rfl⟩)))
theorem spec_l30Many_ok (w0 : World) (s_ : Str) (n_ : Int) :
    ConM Tryz.prog 65 [(.string ⟨(s_).b.toArray⟩), (nV n_)] w0 (spec_l30Many s_ n_) fun r v w' => v = (.string ⟨(r).b.toArray⟩) ∧ Below w0.heap.size w0 w' := by
  unfold spec_l30Many
  refine gcon func65 rfl fun r => ?_
  have hm := Mem.start w0
  refine gS (gR (gA rfl (gE (gS (gR (gA rfl (gE (gS (gJ hm (fun aB => [(5, (.string ⟨(aB).b.toArray⟩))]) (fun aB => []) (fun aB => ?_) ?_)))))))))
  ·
   refine gBk (gMf hm (fun aA => [(0, (.string ⟨(aA.1).b.toArray⟩)), (1, (nV aA.2.1)), (5, (.string ⟨(aA.2.2).b.toArray⟩))]) (fun aA => []) [] rfl ?_)
   repeat clear hm
   intro aN aD aA w hm aO aE
   refine gS (gS (gR (gM rfl (gB rfl (gE (gsd 7 rfl (fun aF => ?_) fun aF => ?_))))))
   ·
    refine gct rfl (gSk (gBk (gS (gS (gR (gM rfl (gY (yG rfl (y_rem rfl rfl rfl (by decide))) (gB rfl (gE (gJ hm (fun aC => [(0, (.string ⟨(aA.1).b.toArray⟩)), (1, (nV aA.2.1)), (5, (.string ⟨(aC).b.toArray⟩))]) (fun aC => []) (fun aC => ?_) ?_))))))))))
    ·
     refine gsd 10 rfl (fun aG => ?_) fun aG => ?_
     ·
      refine gct rfl (gR (gM rfl (gM rfl (gb fun aH aI => ?_))))
      have aJ := catS_some.1 aI
      exact gY (yG rfl (y_adds (p := aA.2.2) (q := aA.1) (u := aH) rfl rfl rfl aJ)) (gA rfl (gE (gz hm [] rfl)))
     exact gcf rfl (gSk (gz hm [] rfl))
    repeat clear hm
    intro aC w hm
    refine gS (gR (gM rfl (gM rfl (gb fun aK aL => ?_))))
    have aM := catS_some.1 aL
    exact gY (yG rfl (y_adds (p := aA.1) (q := aA.1) (u := aK) rfl rfl rfl aM)) (gA rfl (gE (gR (gM rfl (gY (yG rfl (y_quo rfl rfl rfl (by decide))) (gA rfl (gE (gze hm [] rfl))))))))
   exact gcf rfl (gXt (gHh (gLp aE aD (gz hm [] rfl))))
  repeat clear hm
  intro aB w hm
  exact gS (gR (gM rfl (gA rfl (gE (gRt (gr1 results65 rfl ⟨rfl, hm.below⟩))))))
theorem spec_l1Text_ok (w0 : World) (hz : Heap) (r_ : l30Rd) (bp0 : Nat) (v1p : Value) (h1p : GT.rep hz [v1p] r_.b) (hm0 : Mem w0 hz w0 [blk bp0 [v1p, (nV r_.p)] 124]) :
    ConM Tryz.prog 62 [(pV bp0)] w0 (spec_l1Text r_) fun r v w' => v = (.string ⟨(r.1).b.toArray⟩) ∧ Mem w0 hz w' [blk bp0 [v1p, (nV r.2.p)] 124] := by
  unfold spec_l1Text
  refine gcon func62 rfl fun r => ?_
  have hm := hm0
  refine gS (gR (gA rfl (gE (gS (gR (gM rfl (gf rfl (fun a hf => e_build (vs := #[(0, (.string ⟨((mkS [])).b.toArray⟩)), (1, (.string ⟨((mkS [])).b.toArray⟩)), (2, (.string ⟨((mkS [32])).b.toArray⟩)), (3, (.string ⟨((mkS [10, 32])).b.toArray⟩))]) (cs := [(.string ⟨((mkS [])).b.toArray⟩), (.string ⟨((mkS [])).b.toArray⟩), (.string ⟨((mkS [32])).b.toArray⟩), (.string ⟨((mkS [10, 32])).b.toArray⟩)]) et_74 hf hm rfl rfl (by kernel_rfl) rfl rfl) ?_)))))))
  rintro _ w ⟨aD, rfl, hm⟩
  replace hm := hm.lit (xs := ([(mkS []), (mkS []), (mkS [32]), (mkS [10, 32])] : List Str)) 0 rfl rfl rfl rfl
  obtain ⟨aM, hle, hm1, hsub, aN⟩ := hm.take2 (L1 := [blk bp0 [v1p, (nV r_.p)] 124]) (L2 := [ow [(sV aD 0 4 4)] ([(mkS []), (mkS []), (mkS [32]), (mkS [10, 32])] : List Str)]) [1] [0] (by decide) rfl rfl
  refine gCg rfl call64 (pspec_l30Rd__of_ok _ aM r_ bp0 v1p (GT.mono hle h1p) ([(mkS []), (mkS []), (mkS [32]), (mkS [10, 32])] : List Str) (sV aD 0 4 4) (fz_ow (hsub 0 _ rfl)) hm1 ) ?_
  rintro aH bF bG w ⟨rfl, hB⟩
  replace hm := aN _ _ hB; clear hB
  refine gA rfl (gE (gS (gR (gM rfl ?_))))
  obtain ⟨aO, hle, hm1, hsub, aP⟩ := hm.take2 (L1 := [blk bp0 [v1p, (nV aH.2.p)] 124]) (L2 := [ow [(sV aD 0 4 4)] ([(mkS []), (mkS []), (mkS [32]), (mkS [10, 32])] : List Str)]) [0] [1] (by decide) rfl rfl
  refine gCg rfl call52 (pspec_l30Rd__pick_ok _ aO (⟨r_.b, aH.2.p⟩ : l30Rd) bp0 v1p (GT.mono hle h1p) 4 hm1 ) ?_
  rintro aE bH bJ w ⟨rfl, hB⟩
  replace hm := aP _ _ hB; clear hB
  refine gB rfl (gA rfl (gE (gS (gS (gR (gM rfl (gf rfl (fun a hf => e_build (vs := #[(0, (nV 3)), (1, (nV 6)), (2, (nV 10)), (3, (nV 1)), (4, (nV 0)), (5, (nV 20))]) (cs := [(nV 3), (nV 6), (nV 10), (nV 1), (nV 0), (nV 20)]) et_83 hf hm rfl rfl (by kernel_rfl) rfl rfl) ?_)))))))
  rintro _ w ⟨aI, rfl, hm⟩
  replace hm := hm.lit (xs := ([3, 6, 10, 1, 0, 20] : List Int)) 0 rfl rfl rfl rfl
  obtain ⟨aQ, hle, hm1, hsub, aR⟩ := hm.take2 (L1 := [blk bp0 [v1p, (nV aE.2.p)] 124]) (L2 := [ow [(sV aI 0 6 6)] ([3, 6, 10, 1, 0, 20] : List Int), ow [(sV aD 0 4 4)] ([(mkS []), (mkS []), (mkS [32]), (mkS [10, 32])] : List Str)]) [1] [0, 2] (by decide) rfl rfl
  refine gCg rfl call63 (pspec_l30Rd__num_ok _ aQ (⟨r_.b, aE.2.p⟩ : l30Rd) bp0 v1p (GT.mono hle h1p) ([3, 6, 10, 1, 0, 20] : List Int) (sV aI 0 6 6) (fz_ow (hsub 0 _ rfl)) hm1 ) ?_
  rintro bK bL bM w ⟨rfl, hB⟩
  replace hm := aR _ _ hB; clear hB
  refine gA rfl (gE (gJ hm (fun aC => [(0, (pV bp0)), (3, (.string ⟨(aC.2).b.toArray⟩))]) (fun aC => [blk bp0 [v1p, (nV aC.1)] 124]) (fun aC => ?_) ?_))
  ·
   refine gBk (gMf hm (fun aA => [(0, (pV bp0)), (3, (.string ⟨(aA.2.1).b.toArray⟩)), (4, (.bool (decide (aE.1 = 0)))), (5, (nV aA.2.2))]) (fun aA => [blk bp0 [v1p, (nV aA.1)] 124]) [0] rfl ?_)
   repeat clear hm
   intro bN aS aA w hm bO aU
   refine gS (gS (gR (gM rfl (gB rfl (gE (gsd 16 rfl (fun aV => ?_) fun aV => ?_))))))
   ·
    refine gct rfl (gSk (gS (gBk (gS (gS (gR (gM rfl (gE (gJ hm (fun aB => [(0, (pV bp0)), (3, (.string ⟨(aB.2).b.toArray⟩)), (4, (.bool (decide (aE.1 = 0)))), (5, (nV aA.2.2))]) (fun aB => [blk bp0 [v1p, (nV aB.1)] 124]) (fun aB => ?_) ?_)))))))))
    ·
     refine gsd 19 rfl (fun aX => ?_) fun aX => ?_
     ·
      refine gct rfl (gR (gM rfl (gM rfl ?_)))
      obtain ⟨aY, hle, hm1, hsub, aZ⟩ := hm.take2 (L1 := [blk bp0 [v1p, (nV aA.1)] 124]) (L2 := []) [0] [] (by decide) rfl rfl
      refine gCg rfl call118 (spec_l1Bad_ok _ aY (⟨r_.b, aA.1⟩ : l30Rd) bp0 v1p (GT.mono hle h1p) hm1 ) ?_
      rintro a7 bP bQ w ⟨rfl, hB⟩
      replace hm := aZ _ _ hB; clear hB
      refine gb fun a8 aa => ?_
      have ab := catS_some.1 aa
      exact gY (yG rfl (y_adds (p := aA.2.1) (q := a7.1) (u := a8) rfl rfl rfl ab)) (gA rfl (gE (gz hm [0] rfl)))
     refine gcf rfl (gR (gM rfl (gM rfl ?_)))
     obtain ⟨ac, hle, hm1, hsub, ae⟩ := hm.take2 (L1 := [blk bp0 [v1p, (nV aA.1)] 124]) (L2 := []) [0] [] (by decide) rfl rfl
     refine gCg rfl call119 (spec_l1Some_ok _ ac (⟨r_.b, aA.1⟩ : l30Rd) bp0 v1p (GT.mono hle h1p) hm1 ) ?_
     rintro af bR bS w ⟨rfl, hB⟩
     replace hm := ae _ _ hB; clear hB
     refine gb fun ag ah => ?_
     have ai := catS_some.1 ah
     exact gY (yG rfl (y_adds (p := aA.2.1) (q := af.1) (u := ag) rfl rfl rfl ai)) (gA rfl (gE (gz hm [0] rfl)))
    repeat clear hm
    intro aB w hm
    refine gR (gM rfl (gM rfl (gf rfl (fun a hf => e_build (vs := #[(0, (.string ⟨((mkS [32])).b.toArray⟩)), (1, (.string ⟨((mkS [32])).b.toArray⟩)), (2, (.string ⟨((mkS [32])).b.toArray⟩)), (3, (.string ⟨((mkS [32, 32])).b.toArray⟩)), (4, (.string ⟨((mkS [10])).b.toArray⟩)), (5, (.string ⟨((mkS [])).b.toArray⟩))]) (cs := [(.string ⟨((mkS [32])).b.toArray⟩), (.string ⟨((mkS [32])).b.toArray⟩), (.string ⟨((mkS [32])).b.toArray⟩), (.string ⟨((mkS [32, 32])).b.toArray⟩), (.string ⟨((mkS [10])).b.toArray⟩), (.string ⟨((mkS [])).b.toArray⟩)]) et_74 hf hm rfl rfl (by kernel_rfl) rfl rfl) ?_)))
    rintro _ w ⟨aJ, rfl, hm⟩
    replace hm := hm.lit (xs := ([(mkS [32]), (mkS [32]), (mkS [32]), (mkS [32, 32]), (mkS [10]), (mkS [])] : List Str)) 0 rfl rfl rfl rfl
    obtain ⟨aj, hle, hm1, hsub, ak⟩ := hm.take2 (L1 := [blk bp0 [v1p, (nV aB.1)] 124]) (L2 := [ow [(sV aJ 0 6 6)] ([(mkS [32]), (mkS [32]), (mkS [32]), (mkS [32, 32]), (mkS [10]), (mkS [])] : List Str)]) [1] [0] (by decide) rfl rfl
    refine gCg rfl call64 (pspec_l30Rd__of_ok _ aj (⟨r_.b, aB.1⟩ : l30Rd) bp0 v1p (GT.mono hle h1p) ([(mkS [32]), (mkS [32]), (mkS [32]), (mkS [32, 32]), (mkS [10]), (mkS [])] : List Str) (sV aJ 0 6 6) (fz_ow (hsub 0 _ rfl)) hm1 ) ?_
    rintro al bT bU w ⟨rfl, hB⟩
    replace hm := ak _ _ hB; clear hB
    refine gb fun am an => ?_
    have ao := catS_some.1 an
    exact gY (yG rfl (y_adds (p := aB.2) (q := al.1) (u := am) rfl rfl rfl ao)) (gA rfl (gE (gR (gM rfl (gB rfl (gA rfl (gE (gze hm [0] rfl))))))))
   exact gcf rfl (gXt (gHh (gLp aU aS (gz hm [0] rfl))))
  repeat clear hm
  intro aC w hm
  refine gS (gS (gR (gM rfl ?_)))
  obtain ⟨aq, hle, hm1, hsub, ar⟩ := hm.take2 (L1 := [blk bp0 [v1p, (nV aC.1)] 124]) (L2 := []) [0] [] (by decide) rfl rfl
  refine gCg rfl call52 (pspec_l30Rd__pick_ok _ aq (⟨r_.b, aC.1⟩ : l30Rd) bp0 v1p (GT.mono hle h1p) 60 hm1 ) ?_
  rintro aK bV bW w ⟨rfl, hB⟩
  replace hm := ar _ _ hB; clear hB
  refine gB rfl (gE (gsd 35 rfl (fun au => ?_) fun au => ?_))
  ·
   refine gct rfl (gS (gR (gM rfl (gf rfl (fun a hf => e_build (vs := #[(0, (nV 600)), (1, (nV 601))]) (cs := [(nV 600), (nV 601)]) et_83 hf hm rfl rfl (by kernel_rfl) rfl rfl) ?_))))
   rintro _ w ⟨aF, rfl, hm⟩
   replace hm := hm.lit (xs := ([600, 601] : List Int)) 0 rfl rfl rfl rfl
   obtain ⟨av, hle, hm1, hsub, aw⟩ := hm.take2 (L1 := [blk bp0 [v1p, (nV aK.2.p)] 124]) (L2 := [ow [(sV aF 0 2 2)] ([600, 601] : List Int)]) [1] [0] (by decide) rfl rfl
   refine gCg rfl call63 (pspec_l30Rd__num_ok _ av (⟨r_.b, aK.2.p⟩ : l30Rd) bp0 v1p (GT.mono hle h1p) ([600, 601] : List Int) (sV aF 0 2 2) (fz_ow (hsub 0 _ rfl)) hm1 ) ?_
   rintro aG bX bY w ⟨rfl, hB⟩
   replace hm := aw _ _ hB; clear hB
   refine gC hm rfl call65 (spec_l30Many_ok _ (mkS [59]) aG.1) fun ax bZ w hm => gM rfl (gf rfl (fun a hf => e_build (vs := #[(0, (nV 0)), (1, (nV 2399)), (2, (nV 2400)), (3, (nV 2401))]) (cs := [(nV 0), (nV 2399), (nV 2400), (nV 2401)]) et_83 hf hm rfl rfl (by kernel_rfl) rfl rfl) ?_)
   rintro _ w ⟨aL, rfl, hm⟩
   replace hm := hm.lit (xs := ([0, 2399, 2400, 2401] : List Int)) 0 rfl rfl rfl rfl
   obtain ⟨ay, hle, hm1, hsub, az⟩ := hm.take2 (L1 := [blk bp0 [v1p, (nV aG.2.p)] 124]) (L2 := [ow [(sV aL 0 4 4)] ([0, 2399, 2400, 2401] : List Int), ow [(sV aF 0 2 2)] ([600, 601] : List Int)]) [1] [0, 2] (by decide) rfl rfl
   refine gCg rfl call63 (pspec_l30Rd__num_ok _ ay (⟨r_.b, aG.2.p⟩ : l30Rd) bp0 v1p (GT.mono hle h1p) ([0, 2399, 2400, 2401] : List Int) (sV aL 0 4 4) (fz_ow (hsub 0 _ rfl)) hm1 ) ?_
   rintro bA b5 b7 w ⟨rfl, hB⟩
   replace hm := az _ _ hB; clear hB
   refine gC hm rfl call65 (spec_l30Many_ok _ (mkS [32]) bA.1) fun bB b8 w hm => gb fun bC bD => ?_
   have bE := catS_some.1 bD
   exact gY (yG rfl (y_adds (p := ax) (q := bB) (u := bC) rfl rfl rfl bE)) (gA rfl (gE (gRt (gr1 results62 rfl ⟨rfl, hm.pk [0] rfl rfl⟩))))
  exact gcf rfl (gSk (gS (gR (gM rfl (gA rfl (gE (gRt (gr1 results62 rfl ⟨rfl, hm.pk [0] rfl rfl⟩))))))))
theorem spec_DrawReadExpr_ok (w0 : World) (code : List UInt8) (v1 : Value) (h1 : GT.rep (hp w0) [v1] code) :
    ConM Tryz.prog 28 [v1] w0 (spec_DrawReadExpr code) fun r v w' => v = (.string ⟨(r).b.toArray⟩) ∧ Below w0.heap.size w0 w' := by
  unfold spec_DrawReadExpr
  refine gcon func28 rfl fun r => ?_
  have hm := Mem.start w0
  refine gS (gR (gA rfl (gE (gS (gR (gM rfl (gCg rfl call50 (spec_l30Open_ok _ _ hm.lez code v1 h1 ) ?_)))))))
  rintro aC bQ bR w ⟨aA, aB, bS, rfl, aH, aD, hB⟩
  replace hm := Mem.giveA hm aH hB; clear hB
  refine gA rfl (gE (gS (gS (gR (gM rfl ?_)))))
  obtain ⟨aX, hle, hm1, hsub, aY⟩ := hm.take2 (L1 := [blk aA [aB, (nV aC.p)] 124]) (L2 := []) [0] [] (by decide) rfl rfl
  refine gCg rfl call52 (pspec_l30Rd__pick_ok _ aX aC aA aB (GT.mono hle aD) 4 hm1 ) ?_
  rintro aJ bT bU w ⟨rfl, hB⟩
  replace hm := aY _ _ hB; clear hB
  refine gB rfl (gE (gsd 9 rfl (fun aZ => ?_) fun aZ => ?_))
  ·
   refine gct rfl (gS (gR (gM rfl ?_)))
   obtain ⟨a7, hle, hm1, hsub, a8⟩ := hm.take2 (L1 := [blk aA [aB, (nV aJ.2.p)] 124]) (L2 := []) [0] [] (by decide) rfl rfl
   refine gCg rfl call62 (spec_l1Text_ok _ a7 (⟨aC.b, aJ.2.p⟩ : l30Rd) aA aB (GT.mono hle aD) hm1 ) ?_
   rintro bV bW bX w ⟨rfl, hB⟩
   replace hm := a8 _ _ hB; clear hB
   refine gA rfl (gE (gRt ?_))
   replace hm := hm.thaw aH
   exact gr1 results28 rfl ⟨rfl, hm.below⟩
  refine gcf rfl (gSk (gS (gR (gM rfl ?_))))
  obtain ⟨aa, hle, hm1, hsub, ab⟩ := hm.take2 (L1 := [blk aA [aB, (nV aJ.2.p)] 124]) (L2 := []) [0] [] (by decide) rfl rfl
  refine gCg rfl call51 (spec_l2Any_ok _ aa (⟨aC.b, aJ.2.p⟩ : l30Rd) aA aB (GT.mono hle aD) 4 hm1 ) ?_
  rintro aE bY bZ w ⟨aF, rfl, hB⟩
  replace hm := ab _ _ hB; clear hB
  refine gM rfl (gf rfl (fun a hf => e_build (vs := #[(0, (nV 1)), (1, (nV 6)), (2, (nV 1))]) (cs := [(nV 1), (nV 6), (nV 1)]) et_83 hf hm rfl rfl (by kernel_rfl) rfl rfl) ?_)
  rintro _ w ⟨aG, rfl, hm⟩
  replace hm := hm.lit (xs := ([1, 6, 1] : List Int)) 0 rfl rfl rfl rfl
  obtain ⟨ac, hle, hm1, hsub, ae⟩ := hm.take2 (L1 := [blk aA [aB, (nV aE.2.p)] 124]) (L2 := [ow [(sV aG 0 3 3)] ([1, 6, 1] : List Int), ow [aF] aE.1.kids]) [1] [0, 2] (by decide) rfl rfl
  refine gCg rfl call63 (pspec_l30Rd__num_ok _ ac (⟨aC.b, aE.2.p⟩ : l30Rd) aA aB (GT.mono hle aD) ([1, 6, 1] : List Int) (sV aG 0 3 3) (fz_ow (hsub 0 _ rfl)) hm1 ) ?_
  rintro aK b5 b7 w ⟨rfl, hB⟩
  replace hm := ae _ _ hB; clear hB
  refine gC hm rfl call61 (spec_l2Text_ok _ aE.1 aF (hm.ow_rep 2 rfl) aK.1) fun aL b8 w hm => gA rfl (gE (gS (gS (gR (gM rfl ?_)))))
  obtain ⟨af, hle, hm1, hsub, ag⟩ := hm.take2 (L1 := [blk aA [aB, (nV aK.2.p)] 124]) (L2 := [ow [(sV aG 0 3 3)] ([1, 6, 1] : List Int), ow [aF] aE.1.kids]) [0] [1, 2] (by decide) rfl rfl
  refine gCg rfl call52 (pspec_l30Rd__pick_ok _ af (⟨aC.b, aK.2.p⟩ : l30Rd) aA aB (GT.mono hle aD) 8 hm1 ) ?_
  rintro aI b9 ba w ⟨rfl, hB⟩
  replace hm := ag _ _ hB; clear hB
  refine gE (gBk (gS (gR (gB rfl (gA rfl (gE (gsd 20 rfl (fun ah => ?_) fun ah => ?_)))))))
  ·
   refine gct rfl (gS (gR (gM rfl (gM rfl (gf rfl (fun a hf => e_build (vs := #[(0, (.string ⟨((mkS [32, 41])).b.toArray⟩)), (1, (.string ⟨((mkS [32, 43])).b.toArray⟩)), (2, (.string ⟨((mkS [32, 97])).b.toArray⟩)), (3, (.string ⟨((mkS [32, 40, 32, 41])).b.toArray⟩)), (4, (.string ⟨((mkS [44])).b.toArray⟩))]) (cs := [(.string ⟨((mkS [32, 41])).b.toArray⟩), (.string ⟨((mkS [32, 43])).b.toArray⟩), (.string ⟨((mkS [32, 97])).b.toArray⟩), (.string ⟨((mkS [32, 40, 32, 41])).b.toArray⟩), (.string ⟨((mkS [44])).b.toArray⟩)]) et_74 hf hm rfl rfl (by kernel_rfl) rfl rfl) ?_)))))
   rintro _ w ⟨aQ, rfl, hm⟩
   replace hm := hm.lit (xs := ([(mkS [32, 41]), (mkS [32, 43]), (mkS [32, 97]), (mkS [32, 40, 32, 41]), (mkS [44])] : List Str)) 0 rfl rfl rfl rfl
   obtain ⟨ai, hle, hm1, hsub, aj⟩ := hm.take2 (L1 := [blk aA [aB, (nV aI.2.p)] 124]) (L2 := [ow [(sV aQ 0 5 5)] ([(mkS [32, 41]), (mkS [32, 43]), (mkS [32, 97]), (mkS [32, 40, 32, 41]), (mkS [44])] : List Str), ow [(sV aG 0 3 3)] ([1, 6, 1] : List Int), ow [aF] aE.1.kids]) [1] [0, 2, 3] (by decide) rfl rfl
   refine gCg rfl call64 (pspec_l30Rd__of_ok _ ai (⟨aC.b, aI.2.p⟩ : l30Rd) aA aB (GT.mono hle aD) ([(mkS [32, 41]), (mkS [32, 43]), (mkS [32, 97]), (mkS [32, 40, 32, 41]), (mkS [44])] : List Str) (sV aQ 0 5 5) (fz_ow (hsub 0 _ rfl)) hm1 ) ?_
   rintro ak bb bc w ⟨rfl, hB⟩
   replace hm := aj _ _ hB; clear hB
   refine gb fun al am => ?_
   have an := catS_some.1 am
   refine gY (yG rfl (y_adds (p := aL) (q := ak.1) (u := al) rfl rfl rfl an)) (gA rfl (gE (gRt ?_)))
   replace hm := hm.thaw aH
   exact gr1 results28 rfl ⟨rfl, hm.below⟩
  refine gcf rfl (gS (gR (gB rfl (gA rfl (gE (gsd 27 rfl (fun ao => ?_) fun ao => ?_))))))
  ·
   refine gct rfl (gS (gR (gM rfl (gf rfl (fun a hf => e_build (vs := #[(0, (.string ⟨((mkS [40])).b.toArray⟩)), (1, (.string ⟨((mkS [45, 32])).b.toArray⟩)), (2, (.string ⟨((mkS [33, 32, 33, 32, 64])).b.toArray⟩)), (3, (.string ⟨((mkS [40, 32, 40, 32])).b.toArray⟩)), (4, (.string ⟨((mkS [102, 32, 40])).b.toArray⟩))]) (cs := [(.string ⟨((mkS [40])).b.toArray⟩), (.string ⟨((mkS [45, 32])).b.toArray⟩), (.string ⟨((mkS [33, 32, 33, 32, 64])).b.toArray⟩), (.string ⟨((mkS [40, 32, 40, 32])).b.toArray⟩), (.string ⟨((mkS [102, 32, 40])).b.toArray⟩)]) et_74 hf hm rfl rfl (by kernel_rfl) rfl rfl) ?_))))
   rintro _ w ⟨aM, rfl, hm⟩
   replace hm := hm.lit (xs := ([(mkS [40]), (mkS [45, 32]), (mkS [33, 32, 33, 32, 64]), (mkS [40, 32, 40, 32]), (mkS [102, 32, 40])] : List Str)) 0 rfl rfl rfl rfl
   obtain ⟨aq, hle, hm1, hsub, ar⟩ := hm.take2 (L1 := [blk aA [aB, (nV aI.2.p)] 124]) (L2 := [ow [(sV aM 0 5 5)] ([(mkS [40]), (mkS [45, 32]), (mkS [33, 32, 33, 32, 64]), (mkS [40, 32, 40, 32]), (mkS [102, 32, 40])] : List Str), ow [(sV aG 0 3 3)] ([1, 6, 1] : List Int), ow [aF] aE.1.kids]) [1] [0, 2, 3] (by decide) rfl rfl
   refine gCg rfl call64 (pspec_l30Rd__of_ok _ aq (⟨aC.b, aI.2.p⟩ : l30Rd) aA aB (GT.mono hle aD) ([(mkS [40]), (mkS [45, 32]), (mkS [33, 32, 33, 32, 64]), (mkS [40, 32, 40, 32]), (mkS [102, 32, 40])] : List Str) (sV aM 0 5 5) (fz_ow (hsub 0 _ rfl)) hm1 ) ?_
   rintro aN bd be w ⟨rfl, hB⟩
   replace hm := ar _ _ hB; clear hB
   refine gM rfl (gb fun aR au => ?_)
   have av := catS_some.1 au
   refine gY (yG rfl (y_adds (p := aN.1) (q := aL) (u := aR) rfl rfl rfl av)) (gM rfl (gf rfl (fun a hf => e_build (vs := #[(0, (.string ⟨((mkS [])).b.toArray⟩)), (1, (.string ⟨((mkS [41])).b.toArray⟩)), (2, (.string ⟨((mkS [41, 41])).b.toArray⟩))]) (cs := [(.string ⟨((mkS [])).b.toArray⟩), (.string ⟨((mkS [41])).b.toArray⟩), (.string ⟨((mkS [41, 41])).b.toArray⟩)]) et_74 hf hm rfl rfl (by kernel_rfl) rfl rfl) ?_))
   rintro _ w ⟨aS, rfl, hm⟩
   replace hm := hm.lit (xs := ([(mkS []), (mkS [41]), (mkS [41, 41])] : List Str)) 0 rfl rfl rfl rfl
   obtain ⟨aw, hle, hm1, hsub, ax⟩ := hm.take2 (L1 := [blk aA [aB, (nV aN.2.p)] 124]) (L2 := [ow [(sV aS 0 3 3)] ([(mkS []), (mkS [41]), (mkS [41, 41])] : List Str), ow [(sV aM 0 5 5)] ([(mkS [40]), (mkS [45, 32]), (mkS [33, 32, 33, 32, 64]), (mkS [40, 32, 40, 32]), (mkS [102, 32, 40])] : List Str), ow [(sV aG 0 3 3)] ([1, 6, 1] : List Int), ow [aF] aE.1.kids]) [1] [0, 2, 3, 4] (by decide) rfl rfl
   refine gCg rfl call64 (pspec_l30Rd__of_ok _ aw (⟨aC.b, aN.2.p⟩ : l30Rd) aA aB (GT.mono hle aD) ([(mkS []), (mkS [41]), (mkS [41, 41])] : List Str) (sV aS 0 3 3) (fz_ow (hsub 0 _ rfl)) hm1 ) ?_
   rintro ay bf bg w ⟨rfl, hB⟩
   replace hm := ax _ _ hB; clear hB
   refine gb fun az bA => ?_
   have bB := catS_some.1 bA
   refine gY (yG rfl (y_adds (p := aR) (q := ay.1) (u := az) rfl rfl rfl bB)) (gA rfl (gE (gRt ?_)))
   replace hm := hm.thaw aH
   exact gr1 results28 rfl ⟨rfl, hm.below⟩
  refine gcf rfl (gS (gR (gB rfl (gA rfl (gE (gsd 38 rfl (fun bC => ?_) fun bC => ?_))))))
  ·
   refine gct rfl (gS (gR (gM rfl (gf rfl (fun a hf => e_build (vs := #[(0, (nV 1)), (1, (nV 2)), (2, (nV 20)), (3, (nV 100))]) (cs := [(nV 1), (nV 2), (nV 20), (nV 100)]) et_83 hf hm rfl rfl (by kernel_rfl) rfl rfl) ?_))))
   rintro _ w ⟨aO, rfl, hm⟩
   replace hm := hm.lit (xs := ([1, 2, 20, 100] : List Int)) 0 rfl rfl rfl rfl
   obtain ⟨bD, hle, hm1, hsub, bE⟩ := hm.take2 (L1 := [blk aA [aB, (nV aI.2.p)] 124]) (L2 := [ow [(sV aO 0 4 4)] ([1, 2, 20, 100] : List Int), ow [(sV aG 0 3 3)] ([1, 6, 1] : List Int), ow [aF] aE.1.kids]) [1] [0, 2, 3] (by decide) rfl rfl
   refine gCg rfl call63 (pspec_l30Rd__num_ok _ bD (⟨aC.b, aI.2.p⟩ : l30Rd) aA aB (GT.mono hle aD) ([1, 2, 20, 100] : List Int) (sV aO 0 4 4) (fz_ow (hsub 0 _ rfl)) hm1 ) ?_
   rintro aP bh bi w ⟨rfl, hB⟩
   replace hm := bE _ _ hB; clear hB
   refine gC hm rfl call65 (spec_l30Many_ok _ (mkS [40]) aP.1) fun bF bj w hm => gM rfl (gb fun aU bG => ?_)
   have bH := catS_some.1 bG
   refine gY (yG rfl (y_adds (p := bF) (q := aL) (u := aU) rfl rfl rfl bH)) (gM rfl (gf rfl (fun a hf => e_build (vs := #[(0, (nV 1)), (1, (nV 2)), (2, (nV 20)), (3, (nV 100))]) (cs := [(nV 1), (nV 2), (nV 20), (nV 100)]) et_83 hf hm rfl rfl (by kernel_rfl) rfl rfl) ?_))
   rintro _ w ⟨aV, rfl, hm⟩
   replace hm := hm.lit (xs := ([1, 2, 20, 100] : List Int)) 0 rfl rfl rfl rfl
   obtain ⟨bJ, hle, hm1, hsub, bK⟩ := hm.take2 (L1 := [blk aA [aB, (nV aP.2.p)] 124]) (L2 := [ow [(sV aV 0 4 4)] ([1, 2, 20, 100] : List Int), ow [(sV aO 0 4 4)] ([1, 2, 20, 100] : List Int), ow [(sV aG 0 3 3)] ([1, 6, 1] : List Int), ow [aF] aE.1.kids]) [1] [0, 2, 3, 4] (by decide) rfl rfl
   refine gCg rfl call63 (pspec_l30Rd__num_ok _ bJ (⟨aC.b, aP.2.p⟩ : l30Rd) aA aB (GT.mono hle aD) ([1, 2, 20, 100] : List Int) (sV aV 0 4 4) (fz_ow (hsub 0 _ rfl)) hm1 ) ?_
   rintro bL bk bl w ⟨rfl, hB⟩
   replace hm := bK _ _ hB; clear hB
   refine gC hm rfl call65 (spec_l30Many_ok _ (mkS [41]) bL.1) fun bM bm w hm => gb fun bN bO => ?_
   have bP := catS_some.1 bO
   refine gY (yG rfl (y_adds (p := aU) (q := bM) (u := bN) rfl rfl rfl bP)) (gA rfl (gE (gRt ?_)))
   replace hm := hm.thaw aH
   exact gr1 results28 rfl ⟨rfl, hm.below⟩
  refine gcf rfl (gSk (gS (gR (gM rfl (gA rfl (gE (gRt ?_)))))))
  replace hm := hm.thaw aH
  exact gr1 results28 rfl ⟨rfl, hm.below⟩
theorem spec_l1Word_ok (w0 : World) (s_ : Str) :
    ConM Tryz.prog 101 [(.string ⟨(s_).b.toArray⟩)] w0 (spec_l1Word s_) fun r v w' => v = (.agg #[(nV r.kind), (.string ⟨(r.text).b.toArray⟩)]) ∧ Below w0.heap.size w0 w' := by
  unfold spec_l1Word
  refine gcon func101 rfl fun r => ?_
  have hm := Mem.start w0
  refine gS (gR (gAl hm zeroValue56 rfl fun aB w hm => gE (gS (gR (gM rfl (gg fun aC aD aE => gY (yG rfl (y_idx_str (p := s_) underlying9 rfl rfl rfl aD aE)) (gC hm rfl call99 (spec_l1Class_ok _ aC) fun aG aH w hm => gA rfl (gE (gS (gS (gR (gM rfl (gC hm rfl call155 (spec_l1Key_ok _ s_) fun aI aJ w hm => gE (gJ hm (fun aA => [(0, (.string ⟨(s_).b.toArray⟩)), (2, (pV aB)), (3, (nV aA))]) (fun aA => [blk aB [(nV 0), (.string ⟨((mkS [])).b.toArray⟩)] 56]) (fun aA => ?_) ?_))))))))))))))
  ·
   refine gs 8 rfl (fun aF => ?_) fun aF => ?_
   ·
    exact gct rfl (gR (gA rfl (gE (gz hm [0] rfl))))
   exact gcf rfl (gSk (gz hm [0] rfl))
  repeat clear hm
  intro aA w hm
  exact gS (gR (gM rfl (gM rfl (gY (yG rfl (y_build (vs := [(0, (nV aA)), (1, (.string ⟨(s_).b.toArray⟩))]) (cs := #[(nV aA), (.string ⟨(s_).b.toArray⟩)]) rfl rfl (by kernel_rfl))) (gSN hm 0 sizeOf56 (one_cons rfl (one_cons rfl one_nil)) rfl fun w hm => gE (gRt (grc 0 results101 hm rfl isAgg56 sizeOf56 ⟨rfl, hm.below⟩)))))))
theorem spec_l30Num_ok (w0 : World) (s_ : Str) :
    ConM Tryz.prog 154 [(.string ⟨(s_).b.toArray⟩)] w0 (spec_l30Num s_) fun r v w' => v = (.tuple #[(nV r.1), (.bool (r.2))]) ∧ Below w0.heap.size w0 w' := by
  unfold spec_l30Num
  refine gcon func154 rfl fun r => ?_
  have hm := Mem.start w0
  refine gS (gR (gA rfl (gA rfl (gE (gS (gJ hm (fun aB => [(0, (.string ⟨(s_).b.toArray⟩)), (4, (.bool (aB)))]) (fun aB => []) (fun aB => ?_) ?_))))))
  ·
   refine gR (gM rfl (gY (yG rfl (y_len_str (p := s_) underlying9 rfl rfl)) ?_))
   have am := (s_).h
   refine gB rfl (gM rfl (gsd 10 rfl (fun aI => ?_) fun aI => ?_))
   ·
    exact gM rfl (gg fun aJ aK aL => gY (yG rfl (y_idx_str (p := s_) underlying9 rfl rfl rfl aK aL)) (gY (yG rfl (y_eql8 (b := aJ) (c := (45 : UInt8)) rfl rfl rfl)) (gKt rfl (gA rfl (gE (gz hm [] rfl))))))
   exact gO rfl (gO rfl (gO rfl (gKf rfl (gA rfl (gE (gz hm [] rfl))))))
  repeat clear hm
  intro aB w hm
  refine gS (gS (gR (gM rfl (gE (gJ hm (fun aA => [(0, (.string ⟨(aA).b.toArray⟩)), (4, (.bool (aB)))]) (fun aA => []) (fun aA => ?_) ?_)))))
  ·
   refine gs 15 rfl (fun aM => ?_) fun aM => ?_
   ·
    refine gct rfl (gR (gM rfl (gb fun an aN => ?_)))
    obtain ⟨aO, aP⟩ := subS_some.1 aN
    refine gY (yG rfl (y_subsL (s := s_) underlying9 rfl rfl rfl aO _)) ?_
    rw [aP]
    exact gA rfl (gE (gz hm [] rfl))
   exact gcf rfl (gSk (gz hm [] rfl))
  repeat clear hm
  intro aA w hm
  refine gS (gS (gJ hm (fun aC => [(0, (.string ⟨(aA).b.toArray⟩)), (4, (.bool (aB))), (38, (.bool (aC)))]) (fun aC => []) (fun aC => ?_) ?_))
  ·
   refine gR (gM rfl (gY (yG rfl (y_len_str (p := aA) underlying9 rfl rfl)) ?_))
   have ao := (aA).h
   refine gB rfl (gM rfl (gsd 21 rfl (fun aQ => ?_) fun aQ => ?_))
   ·
    exact gO rfl (gO rfl (gO rfl (gKt rfl (gM rfl (gO rfl (gO rfl (gO rfl (gO rfl (gO rfl (gO rfl (gO rfl (gO rfl (gO rfl (gO rfl (gO rfl (gKt rfl (gE (gz hm [] rfl))))))))))))))))))
   refine gM rfl (gY (yG rfl (y_len_str (p := aA) underlying9 rfl rfl)) (gB rfl (gKf rfl (gM rfl (gsd 26 rfl (fun aR => ?_) fun aR => ?_)))))
   ·
    exact gO rfl (gO rfl (gO rfl (gO rfl (gO rfl (gO rfl (gO rfl (gO rfl (gO rfl (gO rfl (gO rfl (gKt rfl (gE (gz hm [] rfl)))))))))))))
   refine gM rfl (gg fun aS aU aV => gY (yG rfl (y_idx_str (p := aA) underlying9 rfl rfl rfl aU aV)) (gY (yG rfl (y_eql8 (b := aS) (c := (48 : UInt8)) rfl rfl rfl)) (gM rfl (gsd 30 rfl (fun aX => ?_) fun aX => ?_))))
   ·
    refine gM rfl (gY (yG rfl (y_len_str (p := aA) underlying9 rfl rfl)) (gB rfl (gM rfl (gsd 34 rfl (fun aY => ?_) fun aY => ?_))))
    ·
     exact gO rfl (gKt rfl (gKt rfl (gKf rfl (gE (gz hm [] rfl)))))
    exact gM rfl (gKf rfl (gKt rfl (gKf rfl (gE (gz hm [] rfl)))))
   exact gO rfl (gO rfl (gO rfl (gO rfl (gO rfl (gO rfl (gKf rfl (gKf rfl (gE (gz hm [] rfl)))))))))
  repeat clear hm
  intro aC w hm
  refine gs 38 rfl (fun aZ => ?_) fun aZ => ?_
  ·
   exact gct rfl (gS (gR (gA rfl (gA rfl (gE (gRt (gr2 results154 rfl ⟨rfl, hm.below⟩)))))))
  refine gcf rfl (gSk (gS (gR (gA rfl (gE (gS (gS (gR (gA rfl (gE (gBk (gNf hm (fun aD aE => [(0, (.string ⟨(aA).b.toArray⟩)), (4, (.bool (aB))), (5, (nV aE)), (6, (nV aD))]) (fun aD aE => []) [] rfl ?_ ?_))))))))))))
  ·
   repeat clear hm
   intro aq a7 aD aE w hm ar au av a8
   refine gS (gS (gR (gM rfl (gM rfl (gY (yG rfl (y_len_str (p := aA) underlying9 rfl rfl)) ?_)))))
   have aw := (aA).h
   refine gB rfl (gE (go _ 42 rfl (decide_eq_true (by omega)) (gct rfl (gSk (gS (gBk (gS (gS (gJ hm (fun aF => [(0, (.string ⟨(aA).b.toArray⟩)), (4, (.bool (aB))), (5, (nV aE)), (6, (nV aD)), (54, (.bool (aF)))]) (fun aF => []) (fun aF => ?_) ?_)))))))))
   ·
    refine gR (gM rfl (gM rfl (gg fun aa ab ac => gY (yG rfl (y_idx_str (p := aA) underlying9 rfl rfl rfl ab ac)) (gY (yG rfl (y_lss8 (b := aa) (c := (48 : UInt8)) rfl rfl rfl)) (gM rfl (gsd 49 rfl (fun ae => ?_) fun ae => ?_))))))
    ·
     exact gO rfl (gO rfl (gO rfl (gO rfl (gKt rfl (gE (gz hm [] rfl))))))
    exact gM rfl (gM rfl (gg fun af ag ah => gY (yG rfl (y_idx_str (p := aA) underlying9 rfl rfl rfl ag ah)) (gY (yG rfl (y_gtr8 (b := af) (c := (57 : UInt8)) rfl rfl rfl)) (gKf rfl (gE (gz hm [] rfl))))))
   repeat clear hm
   intro aF w hm
   refine gs 54 rfl (fun ai => ?_) fun ai => ?_
   ·
    exact gct rfl (gS (gR (gA rfl (gA rfl (gE (gRt (gLr a8 a7 (gr2 results154 rfl ⟨rfl, hm.below⟩))))))))
   refine gcf rfl (gSk (gR (gM rfl (gB rfl (gM rfl (gM rfl (gg fun aH aj ak => gY (yG rfl (y_idx_str (p := aA) underlying9 rfl rfl rfl aj ak)) (gY (yG rfl (y_sub8 (b := aH) (c := (48 : UInt8)) rfl rfl rfl)) (gY (yG rfl (y_conv64 (b := (aH - (48 : UInt8))) underlying5 underlying3 rfl rfl)) ?_)))))))))
   have ax := UInt8.toNat_lt ((aH - (48 : UInt8)))
   exact gB rfl (gA rfl (gE (gR (gM rfl (gP (by omega) (by omega) rfl (gA rfl (gE (gze hm [] rfl))))))))
  repeat clear hm
  intro ay az w hm bA bB
  refine gS (gS (gR (gM rfl (gM rfl (gY (yG rfl (y_len_str (p := aA) underlying9 rfl rfl)) ?_)))))
  have bC := (aA).h
  refine gB rfl (gE (go _ 42 rfl (decide_eq_false (by omega)) (gcf rfl (gXt (gHh (gS (gS (gR (gM rfl (gE (gJ hm (fun aG => [(5, (nV aG))]) (fun aG => []) (fun aG => ?_) ?_)))))))))))
  ·
   refine gs 63 rfl (fun al => ?_) fun al => ?_
   ·
    exact gct rfl (gR (gM rfl (gY (yG rfl (y_neg rfl rfl)) (gA rfl (gE (gz hm [] rfl))))))
   exact gcf rfl (gSk (gz hm [] rfl))
  repeat clear hm
  intro aG w hm
  exact gS (gR (gM rfl (gA rfl (gA rfl (gE (gRt (gr2 results154 rfl ⟨rfl, hm.below⟩)))))))
theorem spec_WordValid_ok (w0 : World) (w_ : Word_) :
    ConM Tryz.prog 100 [(.agg #[(nV w_.kind), (.string ⟨(w_.text).b.toArray⟩)])] w0 (spec_WordValid w_) fun r v w' => v = (.bool (r)) ∧ Below w0.heap.size w0 w' := by
  unfold spec_WordValid
  refine gcon func100 rfl fun r => ?_
  have hm := Mem.start w0
  refine gS (gR (gBx hm rfl fun aM w hm => gA rfl (gE (gS (gS (gR (gF fo_56_0 rfl (gL hm 0 isAgg3 rfl (gE (gBk (gS (gR (gB rfl (gA rfl (gE (gsd 7 rfl (fun aC => ?_) fun aC => ?_))))))))))))))))
  ·
   exact gct rfl (gS (gR (gF fo_56_1 rfl (gL hm 0 isAgg9 rfl (gC hm rfl call113 (spec_IsName_ok _ w_.text) fun aN aO w hm => gA rfl (gE (gRt (gr1 results100 rfl ⟨rfl, hm.below⟩))))))))
  refine gcf rfl (gS (gR (gB rfl (gA rfl (gE (gsd 12 rfl (fun aD => ?_) fun aD => ?_))))))
  ·
   refine gct rfl (gS (gR (gF fo_56_1 rfl (gL hm 0 isAgg9 rfl (gC hm rfl call154 (spec_l30Num_ok _ w_.text) fun aE aP w hm => gM rfl (gX rfl (gX rfl (gA rfl (gA rfl (gE (gS (gJ hm (fun aA => [(2, (.bool (aA)))]) (fun aA => []) (fun aA => ?_) ?_))))))))))))
   ·
    refine gR (gM rfl (gM rfl (gs 21 rfl (fun aF => ?_) fun aF => ?_)))
    ·
     exact gM rfl (gC hm rfl call112 (spec_l1In_ok _ aE.1 0 255) fun aQ aR w hm => gKt rfl (gA rfl (gE (gz hm [] rfl))))
    exact gO rfl (gO rfl (gKf rfl (gA rfl (gE (gz hm [] rfl)))))
   repeat clear hm
   intro aA w hm
   exact gRt (gr1 results100 rfl ⟨rfl, hm.below⟩)
  refine gcf rfl (gS (gR (gB rfl (gA rfl (gE (gsd 25 rfl (fun aG => ?_) fun aG => ?_))))))
  ·
   refine gct rfl (gS (gJ hm (fun aB => [(2, (.bool (aB)))]) (fun aB => []) (fun aB => ?_) ?_))
   ·
    refine gR (gF fo_56_1 rfl (gL hm 0 isAgg9 rfl (gY (yG rfl (y_len_str (p := w_.text) underlying9 rfl rfl)) ?_)))
    have aS := (w_.text).h
    refine gB rfl (gM rfl (gsd 31 rfl (fun aH => ?_) fun aH => ?_))
    ·
     exact gF fo_56_1 rfl (gL hm 0 isAgg9 rfl (gg fun aI aJ aK => gY (yG rfl (y_idx_str (p := w_.text) underlying9 rfl rfl rfl aJ aK)) (gC hm rfl call99 (spec_l1Class_ok _ aI) fun aU aV w hm => gB rfl (gKt rfl (gA rfl (gE (gz hm [] rfl)))))))
    exact gO rfl (gO rfl (gO rfl (gO rfl (gO rfl (gKf rfl (gA rfl (gE (gz hm [] rfl))))))))
   repeat clear hm
   intro aB w hm
   exact gRt (gr1 results100 rfl ⟨rfl, hm.below⟩)
  refine gcf rfl (gS (gR (gB rfl (gA rfl (gE (gsd 38 rfl (fun aL => ?_) fun aL => ?_))))))
  ·
   exact gct rfl (gS (gR (gF fo_56_1 rfl (gL hm 0 isAgg9 rfl (gC hm rfl call155 (spec_l1Key_ok _ w_.text) fun aX aY w hm => gA rfl (gE (gRt (gr1 results100 rfl ⟨rfl, hm.below⟩))))))))
  exact gcf rfl (gSk (gS (gR (gA rfl (gE (gRt (gr1 results100 rfl ⟨rfl, hm.below⟩)))))))
theorem spec_CutWords_ok (w0 : World) (s_ : Str) :
    ConM Tryz.prog 44 [(.string ⟨(s_).b.toArray⟩)] w0 (spec_CutWords s_) fun r v w' => ∃ (x1 : Value), v = (.tuple #[x1, (.bool (r.2))]) ∧ Mem w0 (hp w0) w' [ow [x1] r.1] := by
  unfold spec_CutWords
  refine gcon func44 rfl fun r => ?_
  have hm := Mem.start w0
  refine gS (gR (gA rfl (gA rfl (gE (gS (gR (gf rfl (fun a hf => e_build0 (α := Word_) et_41 hm rfl) ?_)))))))
  rintro bH w hm
  refine gA rfl (gE (gS (gS (gR (gA rfl (gE ?_))))))
  obtain ⟨aS, aU, rfl, bJ⟩ := ro_slice (hm.ow_rep 0 rfl)
  refine gJge (fun aN a w => ∃ (aD : Value), St 75 [(0, (.string ⟨(s_).b.toArray⟩)), (4, aD)] w0 (hp w0) [ow [aD] aN] a w) (fun bK aV => ?_) ?_
  ·
   refine gBk (gMg (fun aA a w => ∃ (aE : Value), St 75 [(0, (.string ⟨(s_).b.toArray⟩)), (4, aE), (5, (nV aA.2))] w0 (hp w0) [ow [aE] aA.1] a w) (fun a hf => ⟨(.slice aS ([] : List Word_).length aU), hf.sb rfl, hm.pk [0] rfl rfl⟩) ?_)
   repeat clear hm
   rintro bL aP aA a w ⟨aE, hf, hm⟩ bM aQ
   refine gv hf (gS (gS (gJ hm (fun aH => [(0, (.string ⟨(s_).b.toArray⟩)), (4, aE), (5, (nV aA.2)), (17, (.bool (aH)))]) (fun aH => [ow [aE] aA.1]) (fun aH => ?_) ?_)))
   ·
    refine gR (gM rfl (gM rfl (gY (yG rfl (y_len_str (p := s_) underlying9 rfl rfl)) ?_)))
    have bN := (s_).h
    refine gB rfl (gM rfl (gsd 13 rfl (fun aX => ?_) fun aX => ?_))
    ·
     exact gM rfl (gY (yG rfl (y_len_str (p := s_) underlying9 rfl rfl)) (gB rfl (gKt rfl (gE (gz hm [0] rfl)))))
    exact gO rfl (gO rfl (gO rfl (gKf rfl (gE (gz hm [0] rfl)))))
   repeat clear hm
   intro aH w hm
   refine gs 17 rfl (fun aY => ?_) fun aY => ?_
   ·
    refine gct rfl (gSk (gBk (gS (gR (gM rfl (gM rfl (gg fun aZ a7 a8 => gY (yG rfl (y_idx_str (p := s_) underlying9 rfl rfl rfl a7 a8)) (gC hm rfl call99 (spec_l1Class_ok _ aZ) fun aO bO w hm => gA rfl (gE (gS (gR (gM rfl (gB rfl (gA rfl (gE (gS ?_))))))))))))))))
    obtain ⟨aB, aC, rfl, bP⟩ := ro_slice (hm.ow_rep 0 rfl)
    refine gJ hm (fun aF => [(0, (.string ⟨(s_).b.toArray⟩)), (4, (.slice aB aA.1.length aC)), (5, (nV aA.2)), (6, (nV aO)), (7, (nV aF))]) (fun aF => [ow [(.slice aB aA.1.length aC)] aA.1]) (fun aF => ?_) ?_
    ·
     refine gBk (gMf hm (fun aI => [(0, (.string ⟨(s_).b.toArray⟩)), (4, (.slice aB aA.1.length aC)), (5, (nV aA.2)), (6, (nV aO)), (7, (nV aI))]) (fun aI => [ow [(.slice aB aA.1.length aC)] aA.1]) [0] rfl ?_)
     repeat clear hm
     intro bQ aa aI w hm bR ab
     refine gS (gS (gJ hm (fun aJ => [(0, (.string ⟨(s_).b.toArray⟩)), (4, (.slice aB aA.1.length aC)), (5, (nV aA.2)), (6, (nV aO)), (7, (nV aI)), (39, (.bool (aJ)))]) (fun aJ => [ow [(.slice aB aA.1.length aC)] aA.1]) (fun aJ => ?_) ?_))
     ·
      refine gR (gM rfl (gM rfl (gY (yG rfl (y_len_str (p := s_) underlying9 rfl rfl)) ?_)))
      have bS := (s_).h
      refine gB rfl (gM rfl (gsd 28 rfl (fun ac => ?_) fun ac => ?_))
      ·
       refine gM rfl (gM rfl (gg fun ae af ag => gY (yG rfl (y_idx_str (p := s_) underlying9 rfl rfl rfl af ag)) (gC hm rfl call99 (spec_l1Class_ok _ ae) fun bT bU w hm => gM rfl (gB rfl (gKt rfl (gM rfl (gsd 36 rfl (fun ah => ?_) fun ah => ?_)))))))
       ·
        exact gM rfl (gB rfl (gKt rfl (gE (gz hm [0] rfl))))
       exact gO rfl (gO rfl (gKf rfl (gE (gz hm [0] rfl))))
      exact gO rfl (gO rfl (gO rfl (gO rfl (gO rfl (gO rfl (gKf rfl (gM rfl (gO rfl (gO rfl (gKf rfl (gE (gz hm [0] rfl))))))))))))
     repeat clear hm
     intro aJ w hm
     refine gs 39 rfl (fun ai => ?_) fun ai => ?_
     ·
      exact gct rfl (gSk (gBk (gR (gM rfl (gB rfl (gA rfl (gE (gze hm [0] rfl))))))))
     exact gcf rfl (gXt (gHh (gLp ab aa (gz hm [0] rfl))))
    repeat clear hm
    intro aF w hm
    refine gS (gS (gR (gM rfl (gB rfl (gE (gJge (fun aR a w => ∃ (aK : Value), St 75 [(0, (.string ⟨(s_).b.toArray⟩)), (4, aK), (7, (nV aF))] w0 (hp w0) [ow [aK] aR] a w) (fun bV aj => ?_) ?_))))))
    ·
     refine gsd 43 rfl (fun ak => ?_) fun ak => ?_
     ·
      refine gct rfl (gS (gS (gJ hm (fun aL => [(0, (.string ⟨(s_).b.toArray⟩)), (4, (.slice aB aA.1.length aC)), (5, (nV aA.2)), (7, (nV aF)), (54, (.bool (aL)))]) (fun aL => [ow [(.slice aB aA.1.length aC)] aA.1]) (fun aL => ?_) ?_)))
      ·
       refine gR (gM rfl (gB rfl (gM rfl (gsd 46 rfl (fun al => ?_) fun al => ?_))))
       ·
        exact gO rfl (gO rfl (gO rfl (gO rfl (gO rfl (gO rfl (gO rfl (gKt rfl (gE (gz hm [0] rfl)))))))))
       refine gM rfl (gM rfl (gM rfl (gb fun am an => ?_)))
       obtain ⟨ao, aq⟩ := subS_some.1 an
       refine gY (yG rfl (y_subs (s := s_) underlying9 rfl rfl rfl rfl ao _)) ?_
       rw [aq]
       exact gC hm rfl call101 (spec_l1Word_ok _ am) fun ar bW w hm => gC hm rfl call100 (spec_WordValid_ok _ ar) fun bX bY w hm => gN rfl (gKf rfl (gE (gz hm [0] rfl)))
      repeat clear hm
      intro aL w hm
      refine gs 54 rfl (fun au => ?_) fun au => ?_
      ·
       refine gct rfl (gS (gR (gf rfl (fun a hf => e_build0 (α := Word_) et_41 hm rfl) ?_)))
       rintro av w hm
       exact gA rfl (gA rfl (gE (gRt (gEr aj (gLp aQ aP (gl (gEr aV (gr2 results44 rfl ⟨av, rfl, hm.pk [0] rfl rfl⟩))))))))
      refine gcf rfl (gSk (gR (gM rfl (gM rfl (gM rfl (gM rfl (gb fun aw ax => ?_)))))))
      obtain ⟨ay, az⟩ := subS_some.1 ax
      refine gY (yG rfl (y_subs (s := s_) underlying9 rfl rfl rfl rfl ay _)) ?_
      rw [az]
      refine gC hm rfl call101 (spec_l1Word_ok _ aw) fun aG bZ w hm => gf rfl (fun a hf => e_build (vs := #[(0, (.agg #[(nV aG.kind), (.string ⟨(aG.text).b.toArray⟩)]))]) (cs := [(nV aG.kind), (.string ⟨(aG.text).b.toArray⟩)]) et_41 hf hm rfl rfl (by kernel_rfl) rfl rfl) ?_
      rintro _ w ⟨b5, rfl, hm⟩
      replace hm := hm.lit (xs := ([aG] : List Word_)) 0 rfl rfl rfl rfl
      refine gb fun b7 bA => ?_
      obtain ⟨bB, bC⟩ := appM_some.1 bA
      refine gf rfl (fun a hf => e_append 1 et_41 hf hm rfl (hm.ow_rep 0 rfl) rfl rfl rfl bB) ?_
      rintro bD w hm
      rw [bC] at hm
      exact gA rfl (gE (gZe fun a hf => ⟨bD, hf.sb rfl, hm.pk [1] rfl rfl⟩))
     exact gcf rfl (gSk (gZe fun a hf => ⟨(.slice aB aA.1.length aC), hf.sb rfl, hm.pk [0] rfl rfl⟩))
    repeat clear hm
    rintro aR a w ⟨aK, hf, hm⟩
    exact gv hf (gR (gM rfl (gA rfl (gE (gZe fun a hf => ⟨aK, hf.sb rfl, hm.pk [0] rfl rfl⟩)))))
   exact gcf rfl (gXt (gHh (gLp aQ aP (gr (gZe fun a hf => ⟨aE, hf.sb rfl, hm.pk [0] rfl rfl⟩)))))
  repeat clear hm
  rintro aN a w ⟨aD, hf, hm⟩
  refine gv hf (gS (gS (gJ hm (fun aM => [(4, aD), (72, (.bool (aM)))]) (fun aM => [ow [aD] aN]) (fun aM => ?_) ?_)))
  ·
   refine gR (gM rfl (gY (yG rfl (y_len_str (p := s_) underlying9 rfl rfl)) ?_))
   have b8 := (s_).h
   refine gB rfl (gM rfl (gsd 68 rfl (fun bE => ?_) fun bE => ?_))
   ·
    exact gO rfl (gO rfl (gO rfl (gKt rfl (gE (gz hm [0] rfl)))))
   refine gM rfl ?_
   obtain ⟨b9, ba, rfl, bb⟩ := ro_slice (hm.ow_rep 0 rfl)
   exact gY (yV st_41 rfl) (gB rfl (gKf rfl (gE (gz hm [0] rfl))))
  repeat clear hm
  intro aM w hm
  refine gs 72 rfl (fun bF => ?_) fun bF => ?_
  ·
   refine gct rfl (gS (gR (gf rfl (fun a hf => e_build0 (α := Word_) et_41 hm rfl) ?_)))
   rintro bG w hm
   exact gA rfl (gA rfl (gE (gRt (gr2 results44 rfl ⟨bG, rfl, hm.pk [0] rfl rfl⟩))))
  exact gcf rfl (gSk (gS (gR (gM rfl (gA rfl (gA rfl (gE (gRt (gr2 results44 rfl ⟨aD, rfl, hm.pk [0] rfl rfl⟩)))))))))
theorem spec_l2Is_ok (w0 : World) (list : List Word_) (v1 : Value) (h1 : GT.rep (hp w0) [v1] list) (at_ : Int) (text : Str) :
    ConM Tryz.prog 156 [v1, (nV at_), (.string ⟨(text).b.toArray⟩)] w0 (spec_l2Is list at_ text) fun r v w' => v = (.bool (r)) ∧ Below w0.heap.size w0 w' := by
  unfold spec_l2Is
  refine gcon func156 rfl fun r => ?_
  have hm := Mem.start w0
  refine gS (gR (gA rfl (gE (gS (gJ hm (fun aA => [(6, (.bool (aA)))]) (fun aA => []) (fun aA => ?_) ?_)))))
  ·
   refine gR (gM rfl (gM rfl ?_))
   obtain ⟨aF, aG, rfl, aH⟩ := ro_slice h1
   refine gY (yV st_41 rfl) (gB rfl (gM rfl (gsd 11 rfl (fun aD => ?_) fun aD => ?_)))
   ·
    refine gM rfl (gM rfl (gg fun aB aE aC => ?_))
    obtain ⟨aI, aJ, aK, he⟩ := idx_form h1 aC
    obtain ⟨rfl, _, rfl⟩ := sl3 he
    exact gI st_41 aE (idx_lt aC) rfl (gF fo_56_1 rfl (gY (yl isAgg9 ((flat_cells (cs := [(nV aB.kind), (.string ⟨(aB.text).b.toArray⟩)]) (hm.now h1) aC rfl).cell (j := 1) rfl) rfl) (gM rfl (gY (yG rfl (y_eqls (p := aB.text) (q := text) rfl rfl rfl)) (gKt rfl (gA rfl (gE (gz hm [] rfl))))))))
   exact gO rfl (gO rfl (gO rfl (gO rfl (gO rfl (gO rfl (gO rfl (gKf rfl (gA rfl (gE (gz hm [] rfl))))))))))
  repeat clear hm
  intro aA w hm
  exact gRt (gr1 results156 rfl ⟨rfl, hm.below⟩)
theorem spec_l2Op_ok (w0 : World) (list : List Word_) (v1 : Value) (h1 : GT.rep (hp w0) [v1] list) (at_ : Int) (level : Int) :
    ConM Tryz.prog 103 [v1, (nV at_), (nV level)] w0 (spec_l2Op list at_ level) fun r v w' => v = (nV r) ∧ Below w0.heap.size w0 w' := by
  unfold spec_l2Op
  refine gcon func103 rfl fun r => ?_
  have hm := Mem.start w0
  refine gS (gR (gA rfl (gE (gS (gS (gR (gA rfl (gE (gBk (gNf hm (fun aA aC => [(0, v1), (1, (nV at_)), (2, (nV level)), (7, (nV aA))]) (fun aA aC => []) [] rfl ?_ ?_))))))))))
  ·
   repeat clear hm
   intro aI aD aA aC w hm aJ aK aL aE
   refine gS (gS (gR (gM rfl (gB rfl (gE (go _ 9 rfl (decide_eq_true (by omega)) (gct rfl (gSk (gS (gBk (gS (gJ hm (fun aB => [(0, v1), (1, (nV at_)), (2, (nV level)), (7, (nV aA)), (22, (.bool (aB)))]) (fun aB => []) (fun aB => ?_) ?_))))))))))))
   ·
    refine gR (gM rfl (gC hm rfl call115 (spec_l2Level_ok _ aA) fun aM aN w hm => gM rfl (gB rfl (gM rfl (gsd 16 rfl (fun aF => ?_) fun aF => ?_)))))
    ·
     exact gM rfl (gM rfl (gM rfl (gC hm rfl call117 (spec_l2Sign_ok _ aA) fun aG aO w hm => gC hm rfl call156 (spec_l2Is_ok _ list v1 (hm.now h1) at_ aG) fun aP aQ w hm => gKt rfl (gE (gz hm [] rfl)))))
    exact gO rfl (gO rfl (gO rfl (gO rfl (gO rfl (gKf rfl (gE (gz hm [] rfl)))))))
   repeat clear hm
   intro aB w hm
   refine gs 22 rfl (fun aH => ?_) fun aH => ?_
   ·
    exact gct rfl (gS (gR (gM rfl (gA rfl (gE (gRt (gLr aE aD (gr1 results103 rfl ⟨rfl, hm.below⟩))))))))
   exact gcf rfl (gSk (gR (gM rfl (gP (by omega) (by omega) rfl (gA rfl (gE (gze hm [] rfl)))))))
  repeat clear hm
  intro aR aS w hm aU aV
  exact gS (gS (gR (gM rfl (gB rfl (gE (go _ 9 rfl (decide_eq_false (by omega)) (gcf rfl (gXt (gHh (gS (gR (gA rfl (gE (gRt (gr1 results103 rfl ⟨rfl, hm.below⟩)))))))))))))))
theorem spec_NumberOf_ok (w0 : World) (w_ : Word_) :
    ConM Tryz.prog 157 [(.agg #[(nV w_.kind), (.string ⟨(w_.text).b.toArray⟩)])] w0 (spec_NumberOf w_) fun r v w' => v = (nV r) ∧ Below w0.heap.size w0 w' := by
  unfold spec_NumberOf
  refine gcon func157 rfl fun r => ?_
  have hm := Mem.start w0
  refine gS (gR (gBx hm rfl fun aB w hm => gA rfl (gE (gS (gS (gJ hm (fun aA => [(1, (pV aB)), (12, (.bool (aA)))]) (fun aA => [blk aB [(nV w_.kind), (.string ⟨(w_.text).b.toArray⟩)] 56]) (fun aA => ?_) ?_))))))
  ·
   refine gR (gF fo_56_0 rfl (gL hm 0 isAgg3 rfl (gB rfl (gM rfl (gsd 8 rfl (fun aC => ?_) fun aC => ?_)))))
   ·
    exact gO rfl (gO rfl (gO rfl (gKt rfl (gE (gz hm [0] rfl)))))
   exact gY (yn (hm.blk_at 0 rfl) isAgg56 sizeOf56 rfl) (gC hm rfl call100 (spec_WordValid_ok _ w_) fun aE aF w hm => gN rfl (gKf rfl (gE (gz hm [0] rfl))))
  repeat clear hm
  intro aA w hm
  refine gs 12 rfl (fun aD => ?_) fun aD => ?_
  ·
   exact gct rfl (gS (gR (gA rfl (gE (gRt (gr1 results157 rfl ⟨rfl, hm.below⟩))))))
  exact gcf rfl (gSk (gS (gR (gF fo_56_1 rfl (gL hm 0 isAgg9 rfl (gC hm rfl call154 (spec_l30Num_ok _ w_.text) fun aG aH w hm => gM rfl (gX rfl (gX rfl (gA rfl (gA rfl (gE (gS (gR (gM rfl (gA rfl (gE (gRt (gr1 results157 rfl ⟨rfl, hm.below⟩))))))))))))))))))
theorem spec_l1Step_ok (w0 : World) (at_ : Int) :
    ConM Tryz.prog 180 [(nV at_)] w0 (spec_l1Step at_) fun r v w' => v = (nV r) ∧ Below w0.heap.size w0 w' := by
  unfold spec_l1Step
  refine gcon func180 rfl fun r => ?_
  have hm := Mem.start w0
  refine gS (gR (gA rfl (gE (gS (gS (gR (gM rfl (gB rfl (gE (gsd 4 rfl (fun aA => ?_) fun aA => ?_))))))))))
  ·
   exact gct rfl (gS (gR (gA rfl (gE (gRt (gr1 results180 rfl ⟨rfl, hm.below⟩))))))
  exact gcf rfl (gSk (gS (gR (gA rfl (gE (gRt (gr1 results180 rfl ⟨rfl, hm.below⟩)))))))
theorem spec_l2Read_all (list : List Word_) : (∀ (at_ : Int) (level : Int) (r : Expr_ × Int), spec_l2Read list at_ level = some r → ∀ (w0 : World) (v1 : Value) (h1 : GT.rep (hp w0) [v1] list), Con Tryz.prog 45 [v1, (nV at_), (nV level)] w0 (fun v w' => ∃ (x1 : Value), v = (.tuple #[(.agg #[(nV r.1.op), (nV r.1.n_), (.string ⟨(r.1.name).b.toArray⟩), x1]), (nV r.2)]) ∧ Mem w0 (hp w0) w' [ow [x1] r.1.kids])) ∧
    (∀ (at_ : Int) (r : Expr_ × Int), spec_l2Tight list at_ = some r → ∀ (w0 : World) (v1 : Value) (h1 : GT.rep (hp w0) [v1] list), Con Tryz.prog 102 [v1, (nV at_)] w0 (fun v w' => ∃ (x1 : Value), v = (.tuple #[(.agg #[(nV r.1.op), (nV r.1.n_), (.string ⟨(r.1.name).b.toArray⟩), x1]), (nV r.2)]) ∧ Mem w0 (hp w0) w' [ow [x1] r.1.kids])) ∧
    (∀ (at_ : Int) (r : (List Expr_) × Int), spec_l2List list at_ = some r → ∀ (w0 : World) (v1 : Value) (h1 : GT.rep (hp w0) [v1] list), Con Tryz.prog 158 [v1, (nV at_)] w0 (fun v w' => ∃ (x1 : Value), v = (.tuple #[x1, (nV r.2)]) ∧ Mem w0 (hp w0) w' [ow [x1] r.1])) := by
  refine spec_l2Read.mutual_partial_correctness list (motive_1 := fun at_ level r => ∀ (w0 : World) (v1 : Value) (h1 : GT.rep (hp w0) [v1] list), Con Tryz.prog 45 [v1, (nV at_), (nV level)] w0 (fun v w' => ∃ (x1 : Value), v = (.tuple #[(.agg #[(nV r.1.op), (nV r.1.n_), (.string ⟨(r.1.name).b.toArray⟩), x1]), (nV r.2)]) ∧ Mem w0 (hp w0) w' [ow [x1] r.1.kids])) (motive_2 := fun at_ r => ∀ (w0 : World) (v1 : Value) (h1 : GT.rep (hp w0) [v1] list), Con Tryz.prog 102 [v1, (nV at_)] w0 (fun v w' => ∃ (x1 : Value), v = (.tuple #[(.agg #[(nV r.1.op), (nV r.1.n_), (.string ⟨(r.1.name).b.toArray⟩), x1]), (nV r.2)]) ∧ Mem w0 (hp w0) w' [ow [x1] r.1.kids])) (motive_3 := fun at_ r => ∀ (w0 : World) (v1 : Value) (h1 : GT.rep (hp w0) [v1] list), Con Tryz.prog 158 [v1, (nV at_)] w0 (fun v w' => ∃ (x1 : Value), v = (.tuple #[x1, (nV r.2)]) ∧ Mem w0 (hp w0) w' [ow [x1] r.1])) ?_ ?_ ?_
  · intro rec_1 rec_2 ih_1 ih_2 at_ level r hq w0 v1 h1
    have spec_l2Read_rec : ∀ (w0 : World) (_ : List Word_) (v1 : Value) (h1 : GT.rep (hp w0) [v1] list) (at_ : Int) (level : Int) (r : Expr_ × Int) (hq : rec_1 at_ level = some r), Con Tryz.prog 45 [v1, (nV at_), (nV level)] w0 (fun v w' => ∃ (x1 : Value), v = (.tuple #[(.agg #[(nV r.1.op), (nV r.1.n_), (.string ⟨(r.1.name).b.toArray⟩), x1]), (nV r.2)]) ∧ Mem w0 (hp w0) w' [ow [x1] r.1.kids]) := fun w0 _ v1 h1 at_ level r hq => ih_1 at_ level r hq w0 v1 h1
    have spec_l2Tight_rec : ∀ (w0 : World) (_ : List Word_) (v1 : Value) (h1 : GT.rep (hp w0) [v1] list) (at_ : Int) (r : Expr_ × Int) (hq : rec_2 at_ = some r), Con Tryz.prog 102 [v1, (nV at_)] w0 (fun v w' => ∃ (x1 : Value), v = (.tuple #[(.agg #[(nV r.1.op), (nV r.1.n_), (.string ⟨(r.1.name).b.toArray⟩), x1]), (nV r.2)]) ∧ Mem w0 (hp w0) w' [ow [x1] r.1.kids]) := fun w0 _ v1 h1 at_ r hq => ih_2 at_ r hq w0 v1 h1
    refine gconr (ρ := Expr_ × Int) (R := fun r v w' => ∃ (x1 : Value), v = (.tuple #[(.agg #[(nV r.1.op), (nV r.1.n_), (.string ⟨(r.1.name).b.toArray⟩), x1]), (nV r.2)]) ∧ Mem w0 (hp w0) w' [ow [x1] r.1.kids]) func45 rfl hq ?_
    have hm := Mem.start w0
    refine gS (gR (gAl hm zeroValue24 rfl fun aE w hm => gA rfl (gE (gS (gS (gR (gM rfl (gB rfl (gE (gsd 14 rfl (fun aU => ?_) fun aU => ?_))))))))))
    ·
     refine gct rfl (gS (gR (gM rfl (gM rfl (gCg rfl call102 (spec_l2Tight_rec _ list v1 (hm.now h1) at_) ?_)))))
     rintro ax ay az w ⟨bA, rfl, hB⟩
     replace hm := hm.give hB; clear hB
     exact gX rfl (gX rfl (gSN hm 1 sizeOf24 (one_cons rfl (one_cons rfl (one_cons rfl (one_cons (rep_one (hm.ow_rep 0 rfl)) one_nil)))) rfl fun w hm => gA rfl (gE (gRt (grct 1 results45 hm rfl isAgg24 sizeOf24 ⟨bA, rfl, hm.pk [0] rfl rfl⟩)))))
    refine gcf rfl (gSk (gS (gR (gM rfl (gM rfl (gM rfl (gB rfl (gCg rfl call45 (spec_l2Read_rec _ list v1 (hm.now h1) at_ (w64 (level + 1))) ?_))))))))
    rintro ag bH aV w ⟨bb, rfl, hB⟩
    replace hm := hm.give hB; clear hB
    refine gM rfl (gX rfl (gX rfl (gAl hm zeroValue24 rfl fun aI w hm => gSN hm 0 sizeOf24 (one_cons rfl (one_cons rfl (one_cons rfl (one_cons (rep_one (hm.ow_rep 1 rfl)) one_nil)))) rfl fun w hm => gA rfl (gE (gS ?_)))))
    obtain ⟨aP, aY, rfl, bB⟩ := ro_slice (hm.ow_rep 1 rfl)
    refine gJg (fun aJ a w => ∃ (aZ : Value), St 58 [(6, (pV aE)), (8, (pV aI)), (9, (nV aJ.2.2.2.2))] w0 (hp w0) [blk aE [(nV 0), (nV 0), (.string ⟨((mkS [])).b.toArray⟩), (.slice none 0 0)] 24, blk aI [(nV aJ.1), (nV aJ.2.1), (.string ⟨(aJ.2.2.1).b.toArray⟩), aZ] 24, ow [aZ] aJ.2.2.2.1] a w) (fun aJ => ?_) ?_
    ·
     refine gBk (gMg (fun aA a w => ∃ (aF : Value), St 58 [(0, v1), (2, (nV level)), (6, (pV aE)), (8, (pV aI)), (9, (nV aA.2.2.2.2))] w0 (hp w0) [blk aE [(nV 0), (nV 0), (.string ⟨((mkS [])).b.toArray⟩), (.slice none 0 0)] 24, blk aI [(nV aA.1), (nV aA.2.1), (.string ⟨(aA.2.2.1).b.toArray⟩), aF] 24, ow [aF] aA.2.2.2.1] a w) (fun a hf => ⟨(.slice aP ag.1.kids.length aY), hf.sb rfl, hm.pk [2, 0, 1] rfl rfl⟩) ?_)
     repeat clear hm
     rintro aC bJ aA a w ⟨aF, hf, hm⟩ bc bK
     refine gv hf (gS (gS (gJ hm (fun a7 => [(0, v1), (2, (nV level)), (6, (pV aE)), (8, (pV aI)), (9, (nV aA.2.2.2.2)), (36, (.bool (a7)))]) (fun a7 => [blk aE [(nV 0), (nV 0), (.string ⟨((mkS [])).b.toArray⟩), (.slice none 0 0)] 24, blk aI [(nV aA.1), (nV aA.2.1), (.string ⟨(aA.2.2.1).b.toArray⟩), aF] 24, ow [aF] aA.2.2.2.1]) (fun a7 => ?_) ?_)))
     ·
      refine gR (gM rfl (gB rfl (gM rfl (gsd 30 rfl (fun bL => ?_) fun bL => ?_))))
      ·
       exact gM rfl (gM rfl (gM rfl (gC hm rfl call103 (spec_l2Op_ok _ list v1 (hm.now h1) aA.2.2.2.2 level) fun bd be w hm => gB rfl (gKt rfl (gE (gz hm [0, 1, 2] rfl))))))
      exact gO rfl (gO rfl (gO rfl (gO rfl (gO rfl (gKf rfl (gE (gz hm [0, 1, 2] rfl)))))))
     repeat clear hm
     intro a7 w hm
     refine gs 36 rfl (fun ah => ?_) fun ah => ?_
     ·
      refine gct rfl (gSk (gBk (gS (gR (gM rfl (gM rfl (gM rfl (gC hm rfl call103 (spec_l2Op_ok _ list v1 (hm.now h1) aA.2.2.2.2 level) fun ai bM w hm => gA rfl (gE (gS (gR (gM rfl (gM rfl (gB rfl (gM rfl (gB rfl (gCg rfl call45 (spec_l2Read_rec _ list v1 (hm.now h1) (w64 (aA.2.2.2.2 + 1)) (w64 (level + 1))) ?_)))))))))))))))))
      rintro aB bf bg w ⟨aG, rfl, hB⟩
      replace hm := hm.give hB; clear hB
      refine gM rfl (gX rfl (gX rfl (gAl hm zeroValue24 rfl fun aX w hm => gSN hm 0 sizeOf24 (one_cons rfl (one_cons rfl (one_cons rfl (one_cons (rep_one (hm.ow_rep 1 rfl)) one_nil)))) rfl fun w hm => gA rfl (gE (gS (gR (gM rfl (gY (yn (hm.blk_at 3 rfl) isAgg24 sizeOf24 rfl) (gY (yn (hm.blk_at 0 rfl) isAgg24 sizeOf24 rfl) (gf rfl (fun a hf => e_build (vs := #[(0, (.agg #[(nV aA.1), (nV aA.2.1), (.string ⟨(aA.2.2.1).b.toArray⟩), aF])), (1, (.agg #[(nV aB.1.op), (nV aB.1.n_), (.string ⟨(aB.1.name).b.toArray⟩), aG]))]) (cs := [(nV aA.1), (nV aA.2.1), (.string ⟨(aA.2.2.1).b.toArray⟩), aF, (nV aB.1.op), (nV aB.1.n_), (.string ⟨(aB.1.name).b.toArray⟩), aG]) et_22 hf hm rfl rfl (by kernel_rfl) rfl rfl) ?_))))))))))
      rintro _ w ⟨aN, rfl, hm⟩
      replace hm := hm.els_nil (α := Expr_)
      replace hm : Mem w0 (hp w0) _ [els [] ([] : List Expr_), blk aN [(nV aA.1), (nV aA.2.1), (.string ⟨(aA.2.2.1).b.toArray⟩), aF, (nV aB.1.op), (nV aB.1.n_), (.string ⟨(aB.1.name).b.toArray⟩), aG] 24, blk aX [(nV aB.1.op), (nV aB.1.n_), (.string ⟨(aB.1.name).b.toArray⟩), aG] 24, ow [(nV aB.1.op), (nV aB.1.n_), (.string ⟨(aB.1.name).b.toArray⟩), aG] (aB.1 : Expr_), blk aE [(nV 0), (nV 0), (.string ⟨((mkS [])).b.toArray⟩), (.slice none 0 0)] 24, blk aI [(nV aA.1), (nV aA.2.1), (.string ⟨(aA.2.2.1).b.toArray⟩), aF] 24, ow [aF] aA.2.2.2.1] := mkx_Expr_ aB.1 hm 3 rfl
      replace hm := (hm.els_cons 0 3 (by decide) rfl rfl).pk (L' := [els [(nV aB.1.op), (nV aB.1.n_), (.string ⟨(aB.1.name).b.toArray⟩), aG] ([aB.1] : List Expr_), blk aN [(nV aA.1), (nV aA.2.1), (.string ⟨(aA.2.2.1).b.toArray⟩), aF, (nV aB.1.op), (nV aB.1.n_), (.string ⟨(aB.1.name).b.toArray⟩), aG] 24, blk aX [(nV aB.1.op), (nV aB.1.n_), (.string ⟨(aB.1.name).b.toArray⟩), aG] 24, blk aE [(nV 0), (nV 0), (.string ⟨((mkS [])).b.toArray⟩), (.slice none 0 0)] 24, blk aI [(nV aA.1), (nV aA.2.1), (.string ⟨(aA.2.2.1).b.toArray⟩), aF] 24, ow [aF] aA.2.2.2.1]) [0, 1, 2, 4, 5, 6] rfl rfl
      replace hm : Mem w0 (hp w0) _ [els [(nV aB.1.op), (nV aB.1.n_), (.string ⟨(aB.1.name).b.toArray⟩), aG] ([aB.1] : List Expr_), blk aN [(nV aA.1), (nV aA.2.1), (.string ⟨(aA.2.2.1).b.toArray⟩), aF, (nV aB.1.op), (nV aB.1.n_), (.string ⟨(aB.1.name).b.toArray⟩), aG] 24, blk aX [(nV aB.1.op), (nV aB.1.n_), (.string ⟨(aB.1.name).b.toArray⟩), aG] 24, blk aE [(nV 0), (nV 0), (.string ⟨((mkS [])).b.toArray⟩), (.slice none 0 0)] 24, blk aI [(nV aA.1), (nV aA.2.1), (.string ⟨(aA.2.2.1).b.toArray⟩), aF] 24, ow [(nV aA.1), (nV aA.2.1), (.string ⟨(aA.2.2.1).b.toArray⟩), aF] ((⟨aA.1, aA.2.1, aA.2.2.1, aA.2.2.2.1⟩ : Expr_) : Expr_)] := mk_Expr_ aA.1 aA.2.1 aA.2.2.1 hm 5 rfl
      replace hm := (hm.els_cons 0 5 (by decide) rfl rfl).pk (L' := [els [(nV aA.1), (nV aA.2.1), (.string ⟨(aA.2.2.1).b.toArray⟩), aF, (nV aB.1.op), (nV aB.1.n_), (.string ⟨(aB.1.name).b.toArray⟩), aG] ([(⟨aA.1, aA.2.1, aA.2.2.1, aA.2.2.2.1⟩ : Expr_), aB.1] : List Expr_), blk aN [(nV aA.1), (nV aA.2.1), (.string ⟨(aA.2.2.1).b.toArray⟩), aF, (nV aB.1.op), (nV aB.1.n_), (.string ⟨(aB.1.name).b.toArray⟩), aG] 24, blk aX [(nV aB.1.op), (nV aB.1.n_), (.string ⟨(aB.1.name).b.toArray⟩), aG] 24, blk aE [(nV 0), (nV 0), (.string ⟨((mkS [])).b.toArray⟩), (.slice none 0 0)] 24, blk aI [(nV aA.1), (nV aA.2.1), (.string ⟨(aA.2.2.1).b.toArray⟩), aF] 24]) [0, 1, 2, 3, 4] rfl rfl
      replace hm := (hm.lit_els 1 0 (by decide) rfl rfl rfl rfl).pk (L' := [ow [(sV aN 0 2 2)] ([(⟨aA.1, aA.2.1, aA.2.2.1, aA.2.2.2.1⟩ : Expr_), aB.1] : List Expr_), blk aX [(nV aB.1.op), (nV aB.1.n_), (.string ⟨(aB.1.name).b.toArray⟩), aG] 24, blk aE [(nV 0), (nV 0), (.string ⟨((mkS [])).b.toArray⟩), (.slice none 0 0)] 24, blk aI [(nV aA.1), (nV aA.2.1), (.string ⟨(aA.2.2.1).b.toArray⟩), aF] 24]) [1, 2, 3, 4] rfl rfl
      exact gY (yG rfl (y_build (vs := [(0, (nV ai)), (3, (sV aN 0 2 2))]) (cs := #[(nV ai), (nV 0), (.string ⟨((mkS [])).b.toArray⟩), (sV aN 0 2 2)]) rfl rfl (by kernel_rfl))) (gSN hm 3 sizeOf24 (one_cons rfl (one_cons rfl (one_cons rfl (one_cons rfl one_nil)))) rfl fun w hm => gE (gR (gM rfl (gA rfl (gE (gZe fun a hf => ⟨(sV aN 0 2 2), hf.sb rfl, hm.pk [2, 3, 0] rfl rfl⟩))))))
     exact gcf rfl (gXt (gHh (gLp bK bJ (gZ fun a hf => ⟨aF, hf.sb rfl, hm.pk [0, 1, 2] rfl rfl⟩))))
    repeat clear hm
    rintro aJ a w ⟨aZ, hf, hm⟩
    exact gv hf (gS (gR (gY (yn (hm.blk_at 1 rfl) isAgg24 sizeOf24 rfl) (gM rfl (gSN hm 0 sizeOf24 (one_cons rfl (one_cons rfl (one_cons rfl (one_cons (rep_one (hm.ow_rep 2 rfl)) one_nil)))) rfl fun w hm => gA rfl (gE (gRt (grct 0 results45 hm rfl isAgg24 sizeOf24 ⟨aZ, rfl, hm.pk [2] rfl rfl⟩))))))))
  · intro rec_1 rec_2 rec_3 ih_1 ih_2 ih_3 at_ r hq w0 v1 h1
    have spec_l2Read_rec : ∀ (w0 : World) (_ : List Word_) (v1 : Value) (h1 : GT.rep (hp w0) [v1] list) (at_ : Int) (level : Int) (r : Expr_ × Int) (hq : rec_1 at_ level = some r), Con Tryz.prog 45 [v1, (nV at_), (nV level)] w0 (fun v w' => ∃ (x1 : Value), v = (.tuple #[(.agg #[(nV r.1.op), (nV r.1.n_), (.string ⟨(r.1.name).b.toArray⟩), x1]), (nV r.2)]) ∧ Mem w0 (hp w0) w' [ow [x1] r.1.kids]) := fun w0 _ v1 h1 at_ level r hq => ih_1 at_ level r hq w0 v1 h1
    have spec_l2Tight_rec : ∀ (w0 : World) (_ : List Word_) (v1 : Value) (h1 : GT.rep (hp w0) [v1] list) (at_ : Int) (r : Expr_ × Int) (hq : rec_2 at_ = some r), Con Tryz.prog 102 [v1, (nV at_)] w0 (fun v w' => ∃ (x1 : Value), v = (.tuple #[(.agg #[(nV r.1.op), (nV r.1.n_), (.string ⟨(r.1.name).b.toArray⟩), x1]), (nV r.2)]) ∧ Mem w0 (hp w0) w' [ow [x1] r.1.kids]) := fun w0 _ v1 h1 at_ r hq => ih_2 at_ r hq w0 v1 h1
    have spec_l2List_rec : ∀ (w0 : World) (_ : List Word_) (v1 : Value) (h1 : GT.rep (hp w0) [v1] list) (at_ : Int) (r : (List Expr_) × Int) (hq : rec_3 at_ = some r), Con Tryz.prog 158 [v1, (nV at_)] w0 (fun v w' => ∃ (x1 : Value), v = (.tuple #[x1, (nV r.2)]) ∧ Mem w0 (hp w0) w' [ow [x1] r.1]) := fun w0 _ v1 h1 at_ r hq => ih_3 at_ r hq w0 v1 h1
    refine gconr (ρ := Expr_ × Int) (R := fun r v w' => ∃ (x1 : Value), v = (.tuple #[(.agg #[(nV r.1.op), (nV r.1.n_), (.string ⟨(r.1.name).b.toArray⟩), x1]), (nV r.2)]) ∧ Mem w0 (hp w0) w' [ow [x1] r.1.kids]) func102 rfl hq ?_
    have hm := Mem.start w0
    refine gS (gR (gAl hm zeroValue24 rfl fun aE w hm => gA rfl (gE (gS (gS (gR (gA rfl (gE (gBk (gNf hm (fun aR aK => [(0, v1), (1, (nV at_)), (4, (pV aE)), (6, (nV aR))]) (fun aR aK => [blk aE [(nV 0), (nV 0), (.string ⟨((mkS [])).b.toArray⟩), (.slice none 0 0)] 24]) [0] rfl ?_ ?_))))))))))
    ·
     repeat clear hm
     intro ax a8 aR aK w hm bh bi bN bO
     refine gS (gS (gR (gM rfl (gB rfl (gE (go _ 14 rfl (decide_eq_true (by omega)) (gct rfl (gSk (gS (gBk (gS (gR (gM rfl (gM rfl (gM rfl (gC hm rfl call117 (spec_l2Sign_ok _ aR) fun aC bP w hm => gC hm rfl call156 (spec_l2Is_ok _ list v1 (hm.now h1) at_ aC) fun bQ bC w hm => gE (gs 21 rfl (fun aj => ?_) fun aj => ?_)))))))))))))))))
     ·
      refine gct rfl (gS (gR (gM rfl (gM rfl (gB rfl (gCg rfl call102 (spec_l2Tight_rec _ list v1 (hm.now h1) (w64 (at_ + 1))) ?_))))))
      rintro aD bR aL w ⟨aH, rfl, hB⟩
      replace hm := hm.give hB; clear hB
      refine gM rfl (gX rfl (gX rfl (gAl hm zeroValue24 rfl fun aO w hm => gSN hm 0 sizeOf24 (one_cons rfl (one_cons rfl (one_cons rfl (one_cons (rep_one (hm.ow_rep 1 rfl)) one_nil)))) rfl fun w hm => gA rfl (gE (gS (gR (gM rfl (gY (yn (hm.blk_at 0 rfl) isAgg24 sizeOf24 rfl) (gf rfl (fun a hf => e_build (vs := #[(0, (.agg #[(nV aD.1.op), (nV aD.1.n_), (.string ⟨(aD.1.name).b.toArray⟩), aH]))]) (cs := [(nV aD.1.op), (nV aD.1.n_), (.string ⟨(aD.1.name).b.toArray⟩), aH]) et_22 hf hm rfl rfl (by kernel_rfl) rfl rfl) ?_)))))))))
      rintro _ w ⟨aM, rfl, hm⟩
      replace hm := hm.els_nil (α := Expr_)
      replace hm : Mem w0 (hp w0) _ [els [] ([] : List Expr_), blk aM [(nV aD.1.op), (nV aD.1.n_), (.string ⟨(aD.1.name).b.toArray⟩), aH] 24, blk aO [(nV aD.1.op), (nV aD.1.n_), (.string ⟨(aD.1.name).b.toArray⟩), aH] 24, ow [(nV aD.1.op), (nV aD.1.n_), (.string ⟨(aD.1.name).b.toArray⟩), aH] (aD.1 : Expr_), blk aE [(nV 0), (nV 0), (.string ⟨((mkS [])).b.toArray⟩), (.slice none 0 0)] 24] := mkx_Expr_ aD.1 hm 3 rfl
      replace hm := (hm.els_cons 0 3 (by decide) rfl rfl).pk (L' := [els [(nV aD.1.op), (nV aD.1.n_), (.string ⟨(aD.1.name).b.toArray⟩), aH] ([aD.1] : List Expr_), blk aM [(nV aD.1.op), (nV aD.1.n_), (.string ⟨(aD.1.name).b.toArray⟩), aH] 24, blk aO [(nV aD.1.op), (nV aD.1.n_), (.string ⟨(aD.1.name).b.toArray⟩), aH] 24, blk aE [(nV 0), (nV 0), (.string ⟨((mkS [])).b.toArray⟩), (.slice none 0 0)] 24]) [0, 1, 2, 4] rfl rfl
      replace hm := (hm.lit_els 1 0 (by decide) rfl rfl rfl rfl).pk (L' := [ow [(sV aM 0 1 1)] ([aD.1] : List Expr_), blk aO [(nV aD.1.op), (nV aD.1.n_), (.string ⟨(aD.1.name).b.toArray⟩), aH] 24, blk aE [(nV 0), (nV 0), (.string ⟨((mkS [])).b.toArray⟩), (.slice none 0 0)] 24]) [1, 2, 3] rfl rfl
      exact gY (yG rfl (y_build (vs := [(0, (nV aR)), (3, (sV aM 0 1 1))]) (cs := #[(nV aR), (nV 0), (.string ⟨((mkS [])).b.toArray⟩), (sV aM 0 1 1)]) rfl rfl (by kernel_rfl))) (gM rfl (gSN hm 2 sizeOf24 (one_cons rfl (one_cons rfl (one_cons rfl (one_cons rfl one_nil)))) rfl fun w hm => gA rfl (gE (gRt (gLr bO a8 (grct 2 results102 hm rfl isAgg24 sizeOf24 ⟨(sV aM 0 1 1), rfl, hm.pk [0] rfl rfl⟩))))))
     exact gcf rfl (gSk (gR (gM rfl (gP (by omega) (by omega) rfl (gA rfl (gE (gze hm [0] rfl)))))))
    repeat clear hm
    intro bj bk w hm bl bm
    refine gS (gS (gR (gM rfl (gB rfl (gE (go _ 14 rfl (decide_eq_false (by omega)) (gcf rfl (gXt (gHh (gS (gS (gR (gM rfl (gM rfl (gC hm rfl call156 (spec_l2Is_ok _ list v1 (hm.now h1) at_ (mkS [40])) fun ag ay w hm => gE (gs 36 rfl (fun aU => ?_) fun aU => ?_))))))))))))))))
    ·
     refine gct rfl (gS (gR (gM rfl (gM rfl (gB rfl (gCg rfl call45 (spec_l2Read_rec _ list v1 (hm.now h1) (w64 (at_ + 1)) 1) ?_))))))
     rintro aS bH bA w ⟨aV, rfl, hB⟩
     replace hm := hm.give hB; clear hB
     refine gM rfl (gX rfl (gX rfl (gAl hm zeroValue24 rfl fun aI w hm => gSN hm 0 sizeOf24 (one_cons rfl (one_cons rfl (one_cons rfl (one_cons (rep_one (hm.ow_rep 1 rfl)) one_nil)))) rfl fun w hm => gA rfl (gE (gS (gS (gJ hm (fun aJ => [(4, (pV aE)), (9, (pV aI)), (10, (nV aS.2)), (51, (.bool (aJ)))]) (fun aJ => [blk aE [(nV 0), (nV 0), (.string ⟨((mkS [])).b.toArray⟩), (.slice none 0 0)] 24, blk aI [(nV aS.1.op), (nV aS.1.n_), (.string ⟨(aS.1.name).b.toArray⟩), aV] 24, ow [aV] aS.1.kids]) (fun aJ => ?_) ?_)))))))
     ·
      refine gR (gM rfl (gB rfl (gM rfl (gsd 46 rfl (fun ak => ?_) fun ak => ?_))))
      ·
       exact gO rfl (gO rfl (gO rfl (gO rfl (gKt rfl (gE (gz hm [2, 0, 1] rfl))))))
      exact gM rfl (gM rfl (gC hm rfl call156 (spec_l2Is_ok _ list v1 (hm.now h1) aS.2 (mkS [41])) fun bo bS w hm => gN rfl (gKf rfl (gE (gz hm [2, 0, 1] rfl)))))
     repeat clear hm
     intro aJ w hm
     refine gs 51 rfl (fun bT => ?_) fun bT => ?_
     ·
      exact gct rfl (gS (gR (gY (yn (hm.blk_at 1 rfl) isAgg24 sizeOf24 rfl) (gSN hm 0 sizeOf24 (one_cons rfl (one_cons rfl (one_cons rfl (one_cons (rep_one (hm.ow_rep 2 rfl)) one_nil)))) rfl fun w hm => gA rfl (gE (gRt (grct 0 results102 hm rfl isAgg24 sizeOf24 ⟨aV, rfl, hm.pk [2] rfl rfl⟩)))))))
     exact gcf rfl (gSk (gS (gR (gY (yn (hm.blk_at 1 rfl) isAgg24 sizeOf24 rfl) (gM rfl (gB rfl (gSN hm 0 sizeOf24 (one_cons rfl (one_cons rfl (one_cons rfl (one_cons (rep_one (hm.ow_rep 2 rfl)) one_nil)))) rfl fun w hm => gA rfl (gE (gRt (grct 0 results102 hm rfl isAgg24 sizeOf24 ⟨aV, rfl, hm.pk [2] rfl rfl⟩))))))))))
    refine gcf rfl (gSk (gS (gS (gJ hm (fun aa => [(0, v1), (1, (nV at_)), (4, (pV aE)), (67, (.bool (aa)))]) (fun aa => [blk aE [(nV 0), (nV 0), (.string ⟨((mkS [])).b.toArray⟩), (.slice none 0 0)] 24]) (fun aa => ?_) ?_))))
    ·
     refine gR (gM rfl (gM rfl ?_))
     obtain ⟨bp, bq, rfl, br⟩ := ro_slice h1
     refine gY (yV st_41 rfl) (gB rfl (gM rfl (gsd 60 rfl (fun al => ?_) fun al => ?_)))
     ·
      refine gM rfl (gM rfl (gg fun bD bU am => ?_))
      obtain ⟨bs, bt, bu, he⟩ := idx_form h1 am
      obtain ⟨rfl, _, rfl⟩ := sl3 he
      exact gI st_41 bU (idx_lt am) rfl (gF fo_56_0 rfl (gY (yl isAgg3 ((flat_cells (cs := [(nV bD.kind), (.string ⟨(bD.text).b.toArray⟩)]) (hm.now h1) am rfl).cell (j := 0) rfl) rfl) (gB rfl (gKt rfl (gE (gz hm [0] rfl))))))
     exact gO rfl (gO rfl (gO rfl (gO rfl (gO rfl (gO rfl (gKf rfl (gE (gz hm [0] rfl))))))))
    repeat clear hm
    intro aa w hm
    refine gs 67 rfl (fun bV => ?_) fun bV => ?_
    ·
     refine gct rfl (gS (gR (gM rfl (gM rfl (gg fun an bW ao => ?_)))))
     obtain ⟨bv, bw, aY, he⟩ := idx_form h1 ao
     subst he
     refine gI st_41 bW (idx_lt ao) rfl (gY (yn (flat_cells (cs := [(nV an.kind), (.string ⟨(an.text).b.toArray⟩)]) (hm.now h1) ao rfl) isAgg56 sizeOf56 rfl) (gC hm rfl call157 (spec_NumberOf_ok _ an) fun bE bx w hm => gY (yG rfl (y_build (vs := [(0, (nV 1)), (1, (nV bE))]) (cs := #[(nV 1), (nV bE), (.string ⟨((mkS [])).b.toArray⟩), (.slice none 0 0)]) rfl rfl (by kernel_rfl))) (gM rfl (gB rfl (gSN hm 0 sizeOf24 (one_cons rfl (one_cons rfl (one_cons rfl (one_cons rfl one_nil)))) rfl fun w hm => gA rfl (gE (gRt ?_)))))))
     replace hm := hm.nilow (α := Expr_)
     exact grct 1 results102 hm rfl isAgg24 sizeOf24 ⟨(.slice none 0 0), rfl, hm.pk [0] rfl rfl⟩
    refine gcf rfl (gSk (gS (gS (gJ hm (fun ab => [(0, v1), (1, (nV at_)), (4, (pV aE)), (87, (.bool (ab)))]) (fun ab => [blk aE [(nV 0), (nV 0), (.string ⟨((mkS [])).b.toArray⟩), (.slice none 0 0)] 24]) (fun ab => ?_) ?_))))
    ·
     refine gR (gM rfl (gM rfl ?_))
     obtain ⟨bz, cA, rfl, cB⟩ := ro_slice h1
     refine gY (yV st_41 rfl) (gB rfl (gM rfl (gsd 80 rfl (fun bX => ?_) fun bX => ?_)))
     ·
      exact gO rfl (gO rfl (gO rfl (gO rfl (gO rfl (gO rfl (gKt rfl (gE (gz hm [0] rfl))))))))
     refine gM rfl (gM rfl (gg fun bF bY aq => ?_))
     obtain ⟨cC, cD, cE, he⟩ := idx_form h1 aq
     obtain ⟨rfl, _, rfl⟩ := sl3 he
     exact gI st_41 bY (idx_lt aq) rfl (gF fo_56_0 rfl (gY (yl isAgg3 ((flat_cells (cs := [(nV bF.kind), (.string ⟨(bF.text).b.toArray⟩)]) (hm.now h1) aq rfl).cell (j := 0) rfl) rfl) (gB rfl (gKf rfl (gE (gz hm [0] rfl))))))
    repeat clear hm
    intro ab w hm
    refine gs 87 rfl (fun bZ => ?_) fun bZ => ?_
    ·
     refine gct rfl (gS (gR (gY (yG rfl (y_build (vs := []) (cs := #[(nV 0), (nV 0), (.string ⟨((mkS [])).b.toArray⟩), (.slice none 0 0)]) rfl rfl (by kernel_rfl))) (gSN hm 0 sizeOf24 (one_cons rfl (one_cons rfl (one_cons rfl (one_cons rfl one_nil)))) rfl fun w hm => gA rfl (gE (gRt ?_))))))
     replace hm := hm.nilow (α := Expr_)
     exact grct 1 results102 hm rfl isAgg24 sizeOf24 ⟨(.slice none 0 0), rfl, hm.pk [0] rfl rfl⟩
    refine gcf rfl (gSk (gS (gS (gR (gM rfl (gM rfl (gB rfl (gC hm rfl call156 (spec_l2Is_ok _ list v1 (hm.now h1) (w64 (at_ + 1)) (mkS [40])) fun cF cG w hm => gN rfl (gE (gsn 93 rfl (fun b5 => ?_) fun b5 => ?_))))))))))
    ·
     refine gct rfl (gS (gR (gM rfl (gM rfl (gg fun ac b7 ar => ?_)))))
     obtain ⟨cH, cI, cJ, he⟩ := idx_form h1 ar
     subst he
     refine gI st_41 b7 (idx_lt ar) rfl (gF fo_56_1 rfl (gY (yl isAgg9 ((flat_cells (cs := [(nV ac.kind), (.string ⟨(ac.text).b.toArray⟩)]) (hm.now h1) ar rfl).cell (j := 1) rfl) rfl) (gY (yG rfl (y_build (vs := [(0, (nV 2)), (2, (.string ⟨(ac.text).b.toArray⟩))]) (cs := #[(nV 2), (nV 0), (.string ⟨(ac.text).b.toArray⟩), (.slice none 0 0)]) rfl rfl (by kernel_rfl))) (gM rfl (gB rfl (gSN hm 0 sizeOf24 (one_cons rfl (one_cons rfl (one_cons rfl (one_cons rfl one_nil)))) rfl fun w hm => gA rfl (gE (gRt ?_))))))))
     replace hm := hm.nilow (α := Expr_)
     exact grct 1 results102 hm rfl isAgg24 sizeOf24 ⟨(.slice none 0 0), rfl, hm.pk [0] rfl rfl⟩
    refine gcf rfl (gSk (gS (gR (gM rfl (gM rfl (gB rfl (gCg rfl call158 (spec_l2List_rec _ list v1 (hm.now h1) (w64 (at_ + 2))) ?_)))))))
    rintro au cK cL w ⟨cN, rfl, hB⟩
    replace hm := hm.give hB; clear hB
    refine gM rfl (gX rfl (gX rfl (gA rfl (gA rfl (gE (gS (gR (gM rfl (gM rfl (gg fun ae b8 av => ?_))))))))))
    obtain ⟨cO, cP, cQ, he⟩ := idx_form h1 av
    subst he
    refine gI st_41 b8 (idx_lt av) rfl (gF fo_56_1 rfl (gY (yl isAgg9 ((flat_cells (cs := [(nV ae.kind), (.string ⟨(ae.text).b.toArray⟩)]) (hm.now h1) av rfl).cell (j := 1) rfl) rfl) (gM rfl ?_)))
    obtain ⟨aP, aw, rfl, bB⟩ := ro_slice (hm.ow_rep 0 rfl)
    exact gY (yG rfl (y_build (vs := [(0, (nV 13)), (2, (.string ⟨(ae.text).b.toArray⟩)), (3, (.slice aP au.1.length aw))]) (cs := #[(nV 13), (nV 0), (.string ⟨(ae.text).b.toArray⟩), (.slice aP au.1.length aw)]) rfl rfl (by kernel_rfl))) (gM rfl (gSN hm 1 sizeOf24 (one_cons rfl (one_cons rfl (one_cons rfl (one_cons rfl one_nil)))) rfl fun w hm => gA rfl (gE (gRt (grct 1 results102 hm rfl isAgg24 sizeOf24 ⟨(.slice aP au.1.length aw), rfl, hm.pk [0] rfl rfl⟩)))))
  · intro rec_ ih_ at_ r hq w0 v1 h1
    have spec_l2Read_rec : ∀ (w0 : World) (_ : List Word_) (v1 : Value) (h1 : GT.rep (hp w0) [v1] list) (at_ : Int) (level : Int) (r : Expr_ × Int) (hq : rec_ at_ level = some r), Con Tryz.prog 45 [v1, (nV at_), (nV level)] w0 (fun v w' => ∃ (x1 : Value), v = (.tuple #[(.agg #[(nV r.1.op), (nV r.1.n_), (.string ⟨(r.1.name).b.toArray⟩), x1]), (nV r.2)]) ∧ Mem w0 (hp w0) w' [ow [x1] r.1.kids]) := fun w0 _ v1 h1 at_ level r hq => ih_ at_ level r hq w0 v1 h1
    refine gconr (ρ := (List Expr_) × Int) (R := fun r v w' => ∃ (x1 : Value), v = (.tuple #[x1, (nV r.2)]) ∧ Mem w0 (hp w0) w' [ow [x1] r.1]) func158 rfl hq ?_
    have hm := Mem.start w0
    refine gS (gR (gA rfl (gA rfl (gE (gS (gR (gf rfl (fun a hf => e_build0 (α := Expr_) et_22 hm rfl) ?_)))))))
    rintro az w hm
    refine gA rfl (gE (gS (gS (gR (gM rfl (gM rfl (gC hm rfl call156 (spec_l2Is_ok _ list v1 (hm.now h1) at_ (mkS [41])) fun ax ay w hm => gE (gs 12 rfl (fun aU => ?_) fun aU => ?_))))))))
    ·
     exact gct rfl (gS (gR (gM rfl (gM rfl (gB rfl (gA rfl (gA rfl (gE (gRt (gr2 results158 rfl ⟨az, rfl, hm.pk [0] rfl rfl⟩))))))))))
    refine gcf rfl (gSk ?_)
    obtain ⟨aP, aY, rfl, bB⟩ := ro_slice (hm.ow_rep 0 rfl)
    refine gBk (gMg (fun aK a w => ∃ (aQ : Value), St 45 [(0, v1), (1, (nV aK.1)), (6, aQ)] w0 (hp w0) [ow [aQ] aK.2] a w) (fun a hf => ⟨(.slice aP ([] : List Expr_).length aY), hf.sb rfl, hm.pk [0] rfl rfl⟩) ?_)
    repeat clear hm
    rintro ag a8 aK a w ⟨aQ, hf, hm⟩ bN bG
    refine gv hf (gBk (gS (gR (gM rfl (gM rfl (gCg rfl call45 (spec_l2Read_rec _ list v1 (hm.now h1) aK.1 1) ?_))))))
    rintro aC bP cR w ⟨aL, rfl, hB⟩
    replace hm := hm.give hB; clear hB
    refine gM rfl (gX rfl (gX rfl (gAl hm zeroValue24 rfl fun aO w hm => gSN hm 0 sizeOf24 (one_cons rfl (one_cons rfl (one_cons rfl (one_cons (rep_one (hm.ow_rep 1 rfl)) one_nil)))) rfl fun w hm => gA rfl (gE (gS (gR (gM rfl (gY (yn (hm.blk_at 0 rfl) isAgg24 sizeOf24 rfl) (gf rfl (fun a hf => e_build (vs := #[(0, (.agg #[(nV aC.1.op), (nV aC.1.n_), (.string ⟨(aC.1.name).b.toArray⟩), aL]))]) (cs := [(nV aC.1.op), (nV aC.1.n_), (.string ⟨(aC.1.name).b.toArray⟩), aL]) et_22 hf hm rfl rfl (by kernel_rfl) rfl rfl) ?_)))))))))
    rintro _ w ⟨aM, rfl, hm⟩
    replace hm := hm.els_nil (α := Expr_)
    replace hm : Mem w0 (hp w0) _ [els [] ([] : List Expr_), blk aM [(nV aC.1.op), (nV aC.1.n_), (.string ⟨(aC.1.name).b.toArray⟩), aL] 24, blk aO [(nV aC.1.op), (nV aC.1.n_), (.string ⟨(aC.1.name).b.toArray⟩), aL] 24, ow [(nV aC.1.op), (nV aC.1.n_), (.string ⟨(aC.1.name).b.toArray⟩), aL] (aC.1 : Expr_), ow [aQ] aK.2] := mkx_Expr_ aC.1 hm 3 rfl
    replace hm := (hm.els_cons 0 3 (by decide) rfl rfl).pk (L' := [els [(nV aC.1.op), (nV aC.1.n_), (.string ⟨(aC.1.name).b.toArray⟩), aL] ([aC.1] : List Expr_), blk aM [(nV aC.1.op), (nV aC.1.n_), (.string ⟨(aC.1.name).b.toArray⟩), aL] 24, blk aO [(nV aC.1.op), (nV aC.1.n_), (.string ⟨(aC.1.name).b.toArray⟩), aL] 24, ow [aQ] aK.2]) [0, 1, 2, 4] rfl rfl
    replace hm := (hm.lit_els 1 0 (by decide) rfl rfl rfl rfl).pk (L' := [ow [(sV aM 0 1 1)] ([aC.1] : List Expr_), blk aO [(nV aC.1.op), (nV aC.1.n_), (.string ⟨(aC.1.name).b.toArray⟩), aL] 24, ow [aQ] aK.2]) [1, 2, 3] rfl rfl
    refine gb fun b9 bC => ?_
    obtain ⟨aj, ba⟩ := appM_some.1 bC
    replace hm := (hm.both 2 0 (by decide) rfl rfl).pk (L' := [blk aO [(nV aC.1.op), (nV aC.1.n_), (.string ⟨(aC.1.name).b.toArray⟩), aL] 24, both (ow [aQ] aK.2) (ow [(sV aM 0 1 1)] ([aC.1] : List Expr_))]) [1, 2] rfl rfl
    refine gf rfl (fun a hf => e_appendD (xs := aK.2) (ys := ([aC.1] : List Expr_)) 1 et_22 hf hm rfl rfl rfl rfl aj) ?_
    rintro aH w hm
    rw [ba] at hm
    refine gA rfl (gE (gS (gS (gJ hm (fun af => [(0, v1), (6, aH), (8, (nV aC.2)), (32, (.bool (af)))]) (fun af => [ow [aH] b9]) (fun af => ?_) ?_))))
    ·
     refine gR (gM rfl (gB rfl (gM rfl (gsd 28 rfl (fun ah => ?_) fun ah => ?_))))
     ·
      exact gO rfl (gO rfl (gO rfl (gKt rfl (gE (gz hm [1] rfl)))))
     exact gM rfl (gM rfl (gC hm rfl call156 (spec_l2Is_ok _ list v1 (hm.now h1) aC.2 (mkS [41])) fun ai bM w hm => gKf rfl (gE (gz hm [1] rfl))))
    repeat clear hm
    intro af w hm
    refine gs 32 rfl (fun ak => ?_) fun ak => ?_
    ·
     exact gct rfl (gS (gR (gM rfl (gM rfl (gM rfl (gC hm rfl call180 (spec_l1Step_ok _ aC.2) fun bQ bR w hm => gB rfl (gA rfl (gA rfl (gE (gRt (gLp bG a8 (gr2 results158 rfl ⟨aH, rfl, hm.pk [0] rfl rfl⟩))))))))))))
    refine gcf rfl (gSk (gS (gS (gR (gM rfl (gM rfl (gC hm rfl call156 (spec_l2Is_ok _ list v1 (hm.now h1) aC.2 (mkS [44])) fun aD bS w hm => gN rfl (gE (gsn 41 rfl (fun al => ?_) fun al => ?_)))))))))
    ·
     exact gct rfl (gS (gR (gM rfl (gA rfl (gA rfl (gE (gRt (gLp bG a8 (gr2 results158 rfl ⟨aH, rfl, hm.pk [0] rfl rfl⟩)))))))))
    exact gcf rfl (gSk (gR (gM rfl (gB rfl (gA rfl (gE (gZe fun a hf => ⟨aH, hf.sb rfl, hm.pk [0] rfl rfl⟩)))))))
theorem spec_l2Read_ok (w0 : World) (list : List Word_) (v1 : Value) (h1 : GT.rep (hp w0) [v1] list) (at_ : Int) (level : Int) (r : Expr_ × Int) (hq : spec_l2Read list at_ level = some r) : Con Tryz.prog 45 [v1, (nV at_), (nV level)] w0 (fun v w' => ∃ (x1 : Value), v = (.tuple #[(.agg #[(nV r.1.op), (nV r.1.n_), (.string ⟨(r.1.name).b.toArray⟩), x1]), (nV r.2)]) ∧ Mem w0 (hp w0) w' [ow [x1] r.1.kids]) := (spec_l2Read_all list).1 at_ level r hq w0 v1 h1
theorem spec_ReadExpr_ok (w0 : World) (s_ : Str) :
    ConM Tryz.prog 13 [(.string ⟨(s_).b.toArray⟩)] w0 (spec_ReadExpr s_) fun r v w' => ∃ (x1 : Value), v = (.tuple #[(.agg #[(nV r.1.op), (nV r.1.n_), (.string ⟨(r.1.name).b.toArray⟩), x1]), (.bool (r.2))]) ∧ Mem w0 (hp w0) w' [ow [x1] r.1.kids] := by
  unfold spec_ReadExpr
  refine gcon func13 rfl fun r => ?_
  have hm := Mem.start w0
  refine gS (gR (gAl hm zeroValue24 rfl fun aD w hm => gA rfl (gE (gS (gR (gM rfl (gCg rfl call44 (spec_CutWords_ok _ s_) ?_)))))))
  rintro aF aK aL w ⟨aG, rfl, hB⟩
  replace hm := hm.give hB; clear hB
  refine gM rfl (gX rfl (gX rfl (gA rfl (gA rfl (gE (gS (gS (gR (gM rfl (gN rfl (gE (gsn 14 rfl (fun aH => ?_) fun aH => ?_))))))))))))
  ·
   refine gct rfl (gS (gR (gY (yG rfl (y_build (vs := []) (cs := #[(nV 0), (nV 0), (.string ⟨((mkS [])).b.toArray⟩), (.slice none 0 0)]) rfl rfl (by kernel_rfl))) (gSN hm 1 sizeOf24 (one_cons rfl (one_cons rfl (one_cons rfl (one_cons rfl one_nil)))) rfl fun w hm => gA rfl (gE (gRt ?_))))))
   replace hm := hm.nilow (α := Expr_)
   exact grct 2 results13 hm rfl isAgg24 sizeOf24 ⟨(.slice none 0 0), rfl, hm.pk [0] rfl rfl⟩
  refine gcf rfl (gSk (gS (gR (gM rfl (gCg rfl call45 (spec_l2Read_ok _ aF.1 aG (hm.ow_rep 0 rfl) 0 1) ?_)))))
  rintro aA aM aN w ⟨aB, rfl, hB⟩
  replace hm := hm.give hB; clear hB
  refine gM rfl (gX rfl (gX rfl (gAl hm zeroValue24 rfl fun aE w hm => gSN hm 0 sizeOf24 (one_cons rfl (one_cons rfl (one_cons rfl (one_cons (rep_one (hm.ow_rep 1 rfl)) one_nil)))) rfl fun w hm => gA rfl (gE (gS (gS (gJ hm (fun aC => [(2, (pV aD)), (6, (pV aE)), (29, (.bool (aC)))]) (fun aC => [blk aD [(nV 0), (nV 0), (.string ⟨((mkS [])).b.toArray⟩), (.slice none 0 0)] 24, blk aE [(nV aA.1.op), (nV aA.1.n_), (.string ⟨(aA.1.name).b.toArray⟩), aB] 24, ow [aB] aA.1.kids]) (fun aC => ?_) ?_)))))))
  ·
   refine gR (gM rfl (gM rfl ?_))
   obtain ⟨aO, aP, rfl, aQ⟩ := ro_slice (hm.ow_rep 2 rfl)
   refine gY (yV st_41 rfl) (gB rfl (gM rfl (gsd 25 rfl (fun aI => ?_) fun aI => ?_)))
   ·
    exact gO rfl (gO rfl (gO rfl (gKt rfl (gE (gz hm [3, 0, 1] rfl)))))
   exact gY (yn (hm.blk_at 0 rfl) isAgg24 sizeOf24 rfl) (gC hm rfl call22 (spec_ExprValid_ok _ aA.1 aB (hm.ow_rep 1 rfl)) fun aR aS w hm => gN rfl (gKf rfl (gE (gz hm [3, 0, 1] rfl))))
  repeat clear hm
  intro aC w hm
  refine gs 29 rfl (fun aJ => ?_) fun aJ => ?_
  ·
   refine gct rfl (gS (gR (gY (yG rfl (y_build (vs := []) (cs := #[(nV 0), (nV 0), (.string ⟨((mkS [])).b.toArray⟩), (.slice none 0 0)]) rfl rfl (by kernel_rfl))) (gSN hm 0 sizeOf24 (one_cons rfl (one_cons rfl (one_cons rfl (one_cons rfl one_nil)))) rfl fun w hm => gA rfl (gE (gRt ?_))))))
   replace hm := hm.nilow (α := Expr_)
   exact grct 1 results13 hm rfl isAgg24 sizeOf24 ⟨(.slice none 0 0), rfl, hm.pk [0] rfl rfl⟩
  exact gcf rfl (gSk (gS (gR (gY (yn (hm.blk_at 1 rfl) isAgg24 sizeOf24 rfl) (gSN hm 0 sizeOf24 (one_cons rfl (one_cons rfl (one_cons rfl (one_cons (rep_one (hm.ow_rep 2 rfl)) one_nil)))) rfl fun w hm => gA rfl (gE (gRt (grct 0 results13 hm rfl isAgg24 sizeOf24 ⟨aB, rfl, hm.pk [2] rfl rfl⟩))))))))
theorem spec_SameExpr_all  : ∀ (a_ : Expr_) (b_ : Expr_) (r : Bool), spec_SameExpr a_ b_ = some r → ∀ (w0 : World) (v1 : Value) (h1 : GT.rep (hp w0) [v1] a_.kids) (v2 : Value) (h2 : GT.rep (hp w0) [v2] b_.kids), Con Tryz.prog 20 [(.agg #[(nV a_.op), (nV a_.n_), (.string ⟨(a_.name).b.toArray⟩), v1]), (.agg #[(nV b_.op), (nV b_.n_), (.string ⟨(b_.name).b.toArray⟩), v2])] w0 (fun v w' => v = (.bool (r)) ∧ Below w0.heap.size w0 w') := by
  refine spec_SameExpr.partial_correctness  (motive := fun a_ b_ r => ∀ (w0 : World) (v1 : Value) (h1 : GT.rep (hp w0) [v1] a_.kids) (v2 : Value) (h2 : GT.rep (hp w0) [v2] b_.kids), Con Tryz.prog 20 [(.agg #[(nV a_.op), (nV a_.n_), (.string ⟨(a_.name).b.toArray⟩), v1]), (.agg #[(nV b_.op), (nV b_.n_), (.string ⟨(b_.name).b.toArray⟩), v2])] w0 (fun v w' => v = (.bool (r)) ∧ Below w0.heap.size w0 w')) ?_
  intro rec_ ih_ a_ b_ r hq w0 v1 h1 v2 h2
  have spec_SameExpr_rec : ∀ (w0 : World) (a_ : Expr_) (v1 : Value) (h1 : GT.rep (hp w0) [v1] a_.kids) (b_ : Expr_) (v2 : Value) (h2 : GT.rep (hp w0) [v2] b_.kids) (r : Bool) (hq : rec_ a_ b_ = some r), Con Tryz.prog 20 [(.agg #[(nV a_.op), (nV a_.n_), (.string ⟨(a_.name).b.toArray⟩), v1]), (.agg #[(nV b_.op), (nV b_.n_), (.string ⟨(b_.name).b.toArray⟩), v2])] w0 (fun v w' => v = (.bool (r)) ∧ Below w0.heap.size w0 w') := fun w0 a_ v1 h1 b_ v2 h2 r hq => ih_ a_ b_ r hq w0 v1 h1 v2 h2
  refine gconr (ρ := Bool) (R := fun r v w' => v = (.bool (r)) ∧ Below w0.heap.size w0 w') func20 rfl hq ?_
  have hm := Mem.start w0
  refine gS (gR (gBx hm rfl fun aA w hm => gBx hm rfl fun aB w hm => gA rfl (gE (gS (gS (gJ hm (fun aC => [(2, (pV aA)), (3, (pV aB)), (33, (.bool (aC)))]) (fun aC => [blk aA [(nV a_.op), (nV a_.n_), (.string ⟨(a_.name).b.toArray⟩), v1] 24, blk aB [(nV b_.op), (nV b_.n_), (.string ⟨(b_.name).b.toArray⟩), v2] 24]) (fun aC => ?_) ?_))))))
  ·
   refine gR (gF fo_24_0 rfl (gL hm 1 isAgg3 rfl (gF fo_24_0 rfl (gL hm 0 isAgg3 rfl (gB rfl (gM rfl (gsd 11 rfl (fun aH => ?_) fun aH => ?_)))))))
   ·
    exact gO rfl (gO rfl (gO rfl (gO rfl (gO rfl (gKt rfl (gM rfl (gO rfl (gO rfl (gO rfl (gO rfl (gO rfl (gKt rfl (gM rfl (gO rfl (gO rfl (gO rfl (gO rfl (gO rfl (gO rfl (gO rfl (gKt rfl (gE (gz hm [1, 0] rfl)))))))))))))))))))))))
   refine gF fo_24_1 rfl (gL hm 1 isAgg3 rfl (gF fo_24_1 rfl (gL hm 0 isAgg3 rfl (gB rfl (gKf rfl (gM rfl (gsd 18 rfl (fun aI => ?_) fun aI => ?_)))))))
   ·
    exact gO rfl (gO rfl (gO rfl (gO rfl (gO rfl (gKt rfl (gM rfl (gO rfl (gO rfl (gO rfl (gO rfl (gO rfl (gO rfl (gO rfl (gKt rfl (gE (gz hm [1, 0] rfl))))))))))))))))
   refine gF fo_24_2 rfl (gL hm 1 isAgg9 rfl (gF fo_24_2 rfl (gL hm 0 isAgg9 rfl (gY (yG rfl (y_neqs (p := a_.name) (q := b_.name) rfl rfl rfl)) (gKf rfl (gM rfl (gsd 25 rfl (fun aJ => ?_) fun aJ => ?_)))))))
   ·
    exact gO rfl (gO rfl (gO rfl (gO rfl (gO rfl (gO rfl (gO rfl (gKt rfl (gE (gz hm [1, 0] rfl)))))))))
   refine gF fo_24_3 rfl (gL hm 1 isAgg22 rfl ?_)
   obtain ⟨ab, ac, rfl, ae⟩ := ro_slice h1
   refine gY (yV st_22 rfl) (gF fo_24_3 rfl (gL hm 0 isAgg22 rfl ?_))
   obtain ⟨af, ag, rfl, ah⟩ := ro_slice h2
   exact gY (yV st_22 rfl) (gB rfl (gKf rfl (gE (gz hm [1, 0] rfl))))
  repeat clear hm
  intro aC w hm
  refine gs 33 rfl (fun aK => ?_) fun aK => ?_
  ·
   exact gct rfl (gS (gR (gA rfl (gE (gRt (gr1 results20 rfl ⟨rfl, hm.below⟩))))))
  refine gcf rfl (gSk (gS (gS (gR (gA rfl (gE (gBk (gNf hm (fun aD aG => [(2, (pV aA)), (3, (pV aB)), (5, (nV aD))]) (fun aD aG => [blk aA [(nV a_.op), (nV a_.n_), (.string ⟨(a_.name).b.toArray⟩), v1] 24, blk aB [(nV b_.op), (nV b_.n_), (.string ⟨(b_.name).b.toArray⟩), v2] 24]) [0, 1] rfl ?_ ?_))))))))
  ·
   repeat clear hm
   intro ai aL aD aG w hm aj ak al aM
   refine gS (gS (gR (gM rfl (gF fo_24_3 rfl (gL hm 0 isAgg22 rfl ?_)))))
   obtain ⟨aN, aO, rfl, am⟩ := ro_slice h1
   refine gY (yV st_22 rfl) (gB rfl (gE (go _ 38 rfl (decide_eq_true (by omega)) (gct rfl (gSk (gS (gBk (gS (gW (.p 0 (.p 2 (.p 5 (.p 7 (.q 1 (.p 3 (.q 4 (.e 6 (.p 8 (.e 9 (.e 10 (.p 11 .fin) .nil) .nil)) .nil)))))))) [6, 9] [0, 2, 3, 5, 7, 8, 11] hm [0, 1] [blk aA [(nV a_.op), (nV a_.n_), (.string ⟨(a_.name).b.toArray⟩), (.slice aN a_.kids.length aO)] 24, blk aB [(nV b_.op), (nV b_.n_), (.string ⟨(b_.name).b.toArray⟩), v2] 24] rfl mxo (by kernel_rfl) (fun _ _ _ h => h.2) fun w hm hS => tP rfl (fun w => yF fo_24_3 rfl) (tP rfl (fun w => yM rfl) (tP rfl (fun w => yF fo_24_3 rfl) (tP rfl (fun w => yM rfl) (tQ rfl hS (fun w hm => yL hm 0 isAgg22 rfl) (gg fun aP aQ aE => ?_))))))))))))))
   obtain ⟨an, ao, aq, he⟩ := idx_form' h1 aE
   obtain ⟨rfl, _, rfl⟩ := sl3 he
   obtain ⟨aR, aS, aU⟩ := rk_Expr_ h1 aE
   refine tP rfl (fun w => yI st_22 aQ (idx_lt aE) rfl) (tQ rfl hS (fun w hm => yn (aS.mono hm.lez) isAgg24 sizeOf24 rfl) (tO (tY rfl (yL hm 1 isAgg22 rfl) (tAs hS (gg fun aV aX aF => ?_)))))
   obtain ⟨ar, au, av, he⟩ := idx_form' h2 aF
   subst he
   obtain ⟨aY, aZ, a7⟩ := rk_Expr_ h2 aF
   refine tP rfl (fun w => yI st_22 aX (idx_lt aF) rfl) (tO (tY rfl (yn (aZ.mono hm.lez) isAgg24 sizeOf24 rfl) (tAs hS (tO (gb fun aw a8 => tf rfl rfl (fun a hf => e_call hf rfl call20 rfl (spec_SameExpr_rec _ aP aR (hm.now aU) aV aY (hm.now a7) _ a8)) ?_)))))
   rintro ax w ⟨rfl, hB⟩
   replace hm := hm.below' hB; clear hB
   refine tAn rfl (tP rfl (fun w => yN rfl) (tE (gsn 52 rfl (fun aa => ?_) fun aa => ?_)))
   ·
    exact gct rfl (gS (gR (gA rfl (gE (gRt (gLr aM aL (gr1 results20 rfl ⟨rfl, hm.below⟩)))))))
   exact gcf rfl (gSk (gR (gM rfl (gP (by omega) (by omega) rfl (gA rfl (gE (gze hm [0, 1] rfl)))))))
  repeat clear hm
  intro ay az w hm bA bB
  refine gS (gS (gR (gM rfl (gF fo_24_3 rfl (gL hm 0 isAgg22 rfl ?_)))))
  obtain ⟨bC, bD, rfl, bE⟩ := ro_slice h1
  exact gY (yV st_22 rfl) (gB rfl (gE (go _ 38 rfl (decide_eq_false (by omega)) (gcf rfl (gXt (gHh (gS (gR (gA rfl (gE (gRt (gr1 results20 rfl ⟨rfl, hm.below⟩))))))))))))
theorem spec_SameExpr_ok (w0 : World) (a_ : Expr_) (v1 : Value) (h1 : GT.rep (hp w0) [v1] a_.kids) (b_ : Expr_) (v2 : Value) (h2 : GT.rep (hp w0) [v2] b_.kids) (r : Bool) (hq : spec_SameExpr a_ b_ = some r) : Con Tryz.prog 20 [(.agg #[(nV a_.op), (nV a_.n_), (.string ⟨(a_.name).b.toArray⟩), v1]), (.agg #[(nV b_.op), (nV b_.n_), (.string ⟨(b_.name).b.toArray⟩), v2])] w0 (fun v w' => v = (.bool (r)) ∧ Below w0.heap.size w0 w') := spec_SameExpr_all a_ b_ r hq w0 v1 h1 v2 h2
theorem laws_FnRound_ok (w0 : World) (code : List UInt8) (v1 : Value) (h1 : GT.rep (hp w0) [v1] code) (hG0 : GT.rep (hp w0) [.slice (some ⟨0, 0, none⟩) 1 1] [glob_impl_opSign]) (hG1 : GT.rep (hp w0) [.slice (some ⟨1, 0, none⟩) 9 9] glob_impl_keys) :
    ConM Tryz.prog 6 [v1] w0 (laws_FnRound code) fun r v w' => v = (.bool (r)) ∧ Below w0.heap.size w0 w' := by
  unfold laws_FnRound
  refine gcon func6 rfl fun r => ?_
  have hm := Mem.start w0
  refine gS (gR (gA rfl (gE (gS (gS (gR (gM rfl ?_)))))))
  obtain ⟨aQ, aR, rfl, ax⟩ := ro_slice h1
  refine gY (yV st_30 rfl) (gB rfl (gE (gsd 18 rfl (fun aS => ?_) fun aS => ?_)))
  ·
   exact gct rfl (gS (gR (gA rfl (gE (gRt (gr1 results6 rfl ⟨rfl, hm.below⟩))))))
  refine gcf rfl (gSk (gS (gR (gM rfl (gC hm rfl call28 (spec_DrawReadExpr_ok _ code (.slice aQ code.length aR) (hm.now h1)) fun aA ay w hm => gA rfl (gE (gS (gR (gM rfl (gCg rfl call14 (impl_ReadExpr_ok _ aA (hm.now hG0) (hm.now hG1)) ?_))))))))))
  rintro aB az bA w ⟨aD, rfl, hB⟩
  replace hm := hm.give hB; clear hB
  refine gM rfl (gX rfl (gX rfl (gAl hm zeroValue24 rfl fun aI w hm => gSN hm 0 sizeOf24 (one_cons rfl (one_cons rfl (one_cons rfl (one_cons (rep_one (hm.ow_rep 1 rfl)) one_nil)))) rfl fun w hm => gA rfl (gE (gS (gR (gM rfl (gCg rfl call13 (spec_ReadExpr_ok _ aA) ?_))))))))
  rintro aC bB bC w ⟨aE, rfl, hB⟩
  replace hm := hm.give hB; clear hB
  refine gM rfl (gX rfl (gX rfl (gAl hm zeroValue24 rfl fun aJ w hm => gSN hm 0 sizeOf24 (one_cons rfl (one_cons rfl (one_cons rfl (one_cons (rep_one (hm.ow_rep 1 rfl)) one_nil)))) rfl fun w hm => gA rfl (gE (gS (gS (gJ hm (fun aF => [(3, (.string ⟨(aA).b.toArray⟩)), (4, (pV aI)), (5, (.bool (aB.2))), (6, (pV aJ)), (7, (.bool (aC.2))), (49, (.bool (aF)))]) (fun aF => [blk aI [(nV aB.1.op), (nV aB.1.n_), (.string ⟨(aB.1.name).b.toArray⟩), aD] 24, ow [aD] aB.1.kids, blk aJ [(nV aC.1.op), (nV aC.1.n_), (.string ⟨(aC.1.name).b.toArray⟩), aE] 24, ow [aE] aC.1.kids]) (fun aF => ?_) ?_)))))))
  ·
   refine gR (gM rfl (gM rfl (gY (yG rfl (y_neqb underlying4 rfl rfl rfl)) (gM rfl (gsd 34 rfl (fun aU => ?_) fun aU => ?_)))))
   ·
    exact gO rfl (gO rfl (gO rfl (gO rfl (gKt rfl (gM rfl (gO rfl (gO rfl (gKt rfl (gM rfl (gO rfl (gO rfl (gO rfl (gO rfl (gKt rfl (gE (gz hm [2, 3, 0, 1] rfl))))))))))))))))
   refine gY (yn (hm.blk_at 2 rfl) isAgg24 sizeOf24 rfl) (gY (yn (hm.blk_at 0 rfl) isAgg24 sizeOf24 rfl) (gC hm rfl call20 (spec_SameExpr_ok _ aB.1 aD (hm.ow_rep 3 rfl) aC.1 aE (hm.ow_rep 1 rfl)) fun bD bE w hm => gN rfl (gKf rfl (gM rfl (gsn 40 rfl (fun aV => ?_) fun aV => ?_)))))
   ·
    exact gO rfl (gO rfl (gKt rfl (gM rfl (gO rfl (gO rfl (gO rfl (gO rfl (gKt rfl (gE (gz hm [2, 3, 0, 1] rfl))))))))))
   refine gM rfl (gN rfl (gKf rfl (gM rfl (gsn 44 rfl (fun aX => ?_) fun aX => ?_))))
   ·
    exact gO rfl (gO rfl (gO rfl (gO rfl (gKt rfl (gE (gz hm [2, 3, 0, 1] rfl))))))
   refine gM rfl (gY (yG rfl (y_len_str (p := aA) underlying9 rfl rfl)) ?_)
   have bF := (aA).h
   exact gP (by omega) (by omega) rfl (gB rfl (gKf rfl (gE (gz hm [2, 3, 0, 1] rfl))))
  repeat clear hm
  intro aF w hm
  refine gs 49 rfl (fun aY => ?_) fun aY => ?_
  ·
   refine gct rfl (gS (gJ hm (fun aG => [(2, (.bool (aG)))]) (fun aG => []) (fun aG => ?_) ?_))
   ·
    refine gR (gM rfl (gM rfl (gY (yG rfl (y_eqlb underlying4 rfl rfl rfl)) (gM rfl (gsd 53 rfl (fun aZ => ?_) fun aZ => ?_)))))
    ·
     exact gY (yn (hm.blk_at 0 rfl) isAgg24 sizeOf24 rfl) (gY (yn (hm.blk_at 2 rfl) isAgg24 sizeOf24 rfl) (gC hm rfl call20 (spec_SameExpr_ok _ aB.1 aD (hm.ow_rep 1 rfl) aC.1 aE (hm.ow_rep 3 rfl)) fun bG bH w hm => gKt rfl (gA rfl (gE (gz hm [] rfl)))))
    exact gO rfl (gO rfl (gO rfl (gKf rfl (gA rfl (gE (gz hm [] rfl))))))
   repeat clear hm
   intro aG w hm
   exact gRt (gr1 results6 rfl ⟨rfl, hm.below⟩)
  refine gcf rfl (gSk (gS (gR (gM rfl (gb fun aK a7 => ?_)))))
  have a8 := catS_some.1 a7
  refine gY (yG rfl (y_adds (p := (mkS [40])) (q := aA) (u := aK) rfl rfl rfl a8)) (gb fun aL aa => ?_)
  have ab := catS_some.1 aa
  refine gY (yG rfl (y_adds (p := aK) (q := (mkS [41])) (u := aL) rfl rfl rfl ab)) (gCg rfl call14 (impl_ReadExpr_ok _ aL (hm.now hG0) (hm.now hG1)) ?_)
  rintro ac bJ bK w ⟨ae, rfl, hB⟩
  replace hm := hm.give hB; clear hB
  refine gM rfl (gX rfl (gX rfl (gAl hm zeroValue24 rfl fun bL w hm => gSN hm 0 sizeOf24 (one_cons rfl (one_cons rfl (one_cons rfl (one_cons (rep_one (hm.ow_rep 1 rfl)) one_nil)))) rfl fun w hm => gA rfl (gE (gS (gR (gM rfl (gb fun aM af => ?_))))))))
  have ag := catS_some.1 af
  refine gY (yG rfl (y_adds (p := (mkS [40, 40])) (q := aA) (u := aM) rfl rfl rfl ag)) (gb fun aN ah => ?_)
  have ai := catS_some.1 ah
  refine gY (yG rfl (y_adds (p := aM) (q := (mkS [41, 41])) (u := aN) rfl rfl rfl ai)) (gCg rfl call14 (impl_ReadExpr_ok _ aN (hm.now hG0) (hm.now hG1)) ?_)
  rintro aj bM bN w ⟨ak, rfl, hB⟩
  replace hm := hm.give hB; clear hB
  refine gM rfl (gX rfl (gX rfl (gAl hm zeroValue24 rfl fun bO w hm => gSN hm 0 sizeOf24 (one_cons rfl (one_cons rfl (one_cons rfl (one_cons (rep_one (hm.ow_rep 1 rfl)) one_nil)))) rfl fun w hm => gA rfl (gE (gS (gR (gM rfl (gb fun aO al => ?_))))))))
  have am := catS_some.1 al
  refine gY (yG rfl (y_adds (p := (mkS [40])) (q := aA) (u := aO) rfl rfl rfl am)) (gCg rfl call14 (impl_ReadExpr_ok _ aO (hm.now hG0) (hm.now hG1)) ?_)
  rintro bP bQ bR w ⟨bS, rfl, hB⟩
  replace hm := hm.give hB; clear hB
  refine gM rfl (gX rfl (gX rfl (gAl hm zeroValue24 rfl fun bT w hm => gSN hm 0 sizeOf24 (one_cons rfl (one_cons rfl (one_cons rfl (one_cons (rep_one (hm.ow_rep 1 rfl)) one_nil)))) rfl fun w hm => gA rfl (gE (gS (gR (gM rfl (gb fun aP an => ?_))))))))
  have ao := catS_some.1 an
  refine gY (yG rfl (y_adds (p := aA) (q := (mkS [41])) (u := aP) rfl rfl rfl ao)) (gCg rfl call14 (impl_ReadExpr_ok _ aP (hm.now hG0) (hm.now hG1)) ?_)
  rintro bU bV bW w ⟨bX, rfl, hB⟩
  replace hm := hm.give hB; clear hB
  refine gM rfl (gX rfl (gX rfl (gAl hm zeroValue24 rfl fun bY w hm => gSN hm 0 sizeOf24 (one_cons rfl (one_cons rfl (one_cons rfl (one_cons (rep_one (hm.ow_rep 1 rfl)) one_nil)))) rfl fun w hm => gA rfl (gE (gS (gJ hm (fun aH => [(2, (.bool (aH)))]) (fun aH => []) (fun aH => ?_) ?_))))))
  ·
   refine gR (gM rfl (gM rfl (gs 85 rfl (fun aq => ?_) fun aq => ?_)))
   ·
    refine gM rfl (gKt rfl (gM rfl (gs 88 rfl (fun ar => ?_) fun ar => ?_)))
    ·
     refine gY (yn (hm.blk_at 6 rfl) isAgg24 sizeOf24 rfl) (gY (yn (hm.blk_at 8 rfl) isAgg24 sizeOf24 rfl) (gC hm rfl call19 (impl_SameExpr_ok _ ac.1 ae (hm.ow_rep 7 rfl) aB.1 aD (hm.ow_rep 9 rfl)) fun bZ b5 w hm => gKt rfl (gM rfl (gs 93 rfl (fun au => ?_) fun au => ?_))))
     ·
      refine gY (yn (hm.blk_at 4 rfl) isAgg24 sizeOf24 rfl) (gY (yn (hm.blk_at 8 rfl) isAgg24 sizeOf24 rfl) (gC hm rfl call19 (impl_SameExpr_ok _ aj.1 ak (hm.ow_rep 5 rfl) aB.1 aD (hm.ow_rep 9 rfl)) fun b7 b8 w hm => gKt rfl (gM rfl (gs 98 rfl (fun av => ?_) fun av => ?_))))
      ·
       refine gM rfl (gN rfl (gKt rfl (gM rfl (gsn 102 rfl (fun aw => ?_) fun aw => ?_))))
       ·
        exact gM rfl (gN rfl (gKt rfl (gA rfl (gE (gz hm [] rfl)))))
       exact gO rfl (gO rfl (gKf rfl (gA rfl (gE (gz hm [] rfl)))))
      exact gO rfl (gO rfl (gKf rfl (gM rfl (gO rfl (gO rfl (gKf rfl (gA rfl (gE (gz hm [] rfl)))))))))
     exact gO rfl (gO rfl (gO rfl (gKf rfl (gM rfl (gO rfl (gO rfl (gKf rfl (gM rfl (gO rfl (gO rfl (gKf rfl (gA rfl (gE (gz hm [] rfl))))))))))))))
    exact gO rfl (gO rfl (gO rfl (gKf rfl (gM rfl (gO rfl (gO rfl (gO rfl (gKf rfl (gM rfl (gO rfl (gO rfl (gKf rfl (gM rfl (gO rfl (gO rfl (gKf rfl (gA rfl (gE (gz hm [] rfl)))))))))))))))))))
   exact gO rfl (gKf rfl (gM rfl (gO rfl (gO rfl (gO rfl (gKf rfl (gM rfl (gO rfl (gO rfl (gO rfl (gKf rfl (gM rfl (gO rfl (gO rfl (gKf rfl (gM rfl (gO rfl (gO rfl (gKf rfl (gA rfl (gE (gz hm [] rfl))))))))))))))))))))))
  repeat clear hm
  intro aH w hm
  exact gRt (gr1 results6 rfl ⟨rfl, hm.below⟩)
end Go.Proofs.YtjccffpccjdmgaaGreatDoor
