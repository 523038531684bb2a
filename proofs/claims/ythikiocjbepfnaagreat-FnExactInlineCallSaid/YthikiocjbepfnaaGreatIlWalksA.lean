/- A part of the proof of FnExactInlineCallSaid. -/
import Derived.Test.YthikiocjbepfnaaGreatIlModels
import Derived.Test.YthikiocjbepfnaaGreatChecked
import Derived.Test.YthikiocjbepfnaaGreatIlLays
import Derived.Test.YthikiocjbepfnaaGreatWkAd
namespace Go.Proofs.YthikiocjbepfnaaGreat
open Go Go.Wk Go.RowKit
set_option maxRecDepth 4000
set_option maxHeartbeats 4000000
open Tryz
theorem mxo : Tryz.prog.follows .mixedOrders = true := by kernel_rfl
theorem fo_24_0 : FieldOff Tryz.prog 24 0 0 := by have h := FieldOff.mk (k := 0) underlying24 rfl sizeOf22; exact h
theorem fo_28_0 : FieldOff Tryz.prog 28 0 0 := by have h := FieldOff.mk (k := 0) underlying28 rfl sizeOf26; exact h
theorem fo_44_0 : FieldOff Tryz.prog 44 0 0 := by have h := FieldOff.mk (k := 0) underlying44 rfl sizeOf3; exact h
theorem fo_44_1 : FieldOff Tryz.prog 44 1 1 := by have h := FieldOff.mk (k := 1) underlying44 rfl sizeOf3; exact h
theorem fo_44_2 : FieldOff Tryz.prog 44 2 2 := by have h := FieldOff.mk (k := 2) underlying44 rfl sizeOf42; exact h
theorem fo_49_0 : FieldOff Tryz.prog 49 0 0 := by have h := FieldOff.mk (k := 0) underlying49 rfl sizeOf45; exact h
theorem fo_49_1 : FieldOff Tryz.prog 49 1 1 := by have h := FieldOff.mk (k := 1) underlying49 rfl sizeOf46; exact h
theorem fo_49_2 : FieldOff Tryz.prog 49 2 2 := by have h := FieldOff.mk (k := 2) underlying49 rfl sizeOf3; exact h
theorem fo_49_3 : FieldOff Tryz.prog 49 3 3 := by have h := FieldOff.mk (k := 3) underlying49 rfl sizeOf3; exact h
theorem fo_49_4 : FieldOff Tryz.prog 49 4 4 := by have h := FieldOff.mk (k := 4) underlying49 rfl sizeOf47; exact h
theorem fo_51_0 : FieldOff Tryz.prog 51 0 0 := by have h := FieldOff.mk (k := 0) underlying51 rfl sizeOf3; exact h
theorem fo_51_1 : FieldOff Tryz.prog 51 1 1 := by have h := FieldOff.mk (k := 1) underlying51 rfl sizeOf3; exact h
theorem fo_51_2 : FieldOff Tryz.prog 51 2 2 := by have h := FieldOff.mk (k := 2) underlying51 rfl sizeOf47; exact h
theorem fo_51_3 : FieldOff Tryz.prog 51 3 3 := by have h := FieldOff.mk (k := 3) underlying51 rfl sizeOf3; exact h
theorem fo_71_0 : FieldOff Tryz.prog 71 0 0 := by have h := FieldOff.mk (k := 0) underlying71 rfl sizeOf3; exact h
theorem fo_71_1 : FieldOff Tryz.prog 71 1 1 := by have h := FieldOff.mk (k := 1) underlying71 rfl sizeOf3; exact h
theorem fo_71_2 : FieldOff Tryz.prog 71 2 2 := by have h := FieldOff.mk (k := 2) underlying71 rfl sizeOf69; exact h
theorem fo_76_0 : FieldOff Tryz.prog 76 0 0 := by have h := FieldOff.mk (k := 0) underlying76 rfl sizeOf74; exact h
theorem fo_76_1 : FieldOff Tryz.prog 76 1 1 := by have h := FieldOff.mk (k := 1) underlying76 rfl sizeOf74; exact h
theorem fo_91_0 : FieldOff Tryz.prog 91 0 0 := by have h := FieldOff.mk (k := 0) underlying91 rfl sizeOf44; exact h
theorem fo_91_1 : FieldOff Tryz.prog 91 1 3 := by have h := FieldOff.mk (k := 1) underlying91 rfl sizeOf89; exact h
theorem fo_91_2 : FieldOff Tryz.prog 91 2 4 := by have h := FieldOff.mk (k := 2) underlying91 rfl sizeOf59; exact h
theorem fo_105_0 : FieldOff Tryz.prog 105 0 0 := by have h := FieldOff.mk (k := 0) underlying105 rfl sizeOf3; exact h
theorem fo_105_1 : FieldOff Tryz.prog 105 1 1 := by have h := FieldOff.mk (k := 1) underlying105 rfl sizeOf47; exact h
theorem fo_158_0 : FieldOff Tryz.prog 158 0 0 := by have h := FieldOff.mk (k := 0) underlying158 rfl sizeOf155; exact h
theorem fo_158_1 : FieldOff Tryz.prog 158 1 1 := by have h := FieldOff.mk (k := 1) underlying158 rfl sizeOf156; exact h
theorem fo_158_2 : FieldOff Tryz.prog 158 2 2 := by have h := FieldOff.mk (k := 2) underlying158 rfl sizeOf3; exact h
theorem fo_158_3 : FieldOff Tryz.prog 158 3 3 := by have h := FieldOff.mk (k := 3) underlying158 rfl sizeOf3; exact h
theorem fo_158_4 : FieldOff Tryz.prog 158 4 4 := by have h := FieldOff.mk (k := 4) underlying158 rfl sizeOf47; exact h
theorem fo_240_0 : FieldOff Tryz.prog 240 0 0 := by have h := FieldOff.mk (k := 0) underlying240 rfl sizeOf3; exact h
theorem fo_240_1 : FieldOff Tryz.prog 240 1 1 := by have h := FieldOff.mk (k := 1) underlying240 rfl sizeOf47; exact h
theorem fo_242_0 : FieldOff Tryz.prog 242 0 0 := by have h := FieldOff.mk (k := 0) underlying242 rfl sizeOf3; exact h
theorem fo_242_1 : FieldOff Tryz.prog 242 1 1 := by have h := FieldOff.mk (k := 1) underlying242 rfl sizeOf3; exact h
theorem fo_242_2 : FieldOff Tryz.prog 242 2 2 := by have h := FieldOff.mk (k := 2) underlying242 rfl sizeOf47; exact h
theorem fo_242_3 : FieldOff Tryz.prog 242 3 3 := by have h := FieldOff.mk (k := 3) underlying242 rfl sizeOf3; exact h
theorem st_22 : SliceTy Tryz.prog 22 71 3 := ⟨underlying22,sizeOf71⟩
theorem st_26 : SliceTy Tryz.prog 26 44 3 := ⟨underlying26,sizeOf44⟩
theorem st_42 : SliceTy Tryz.prog 42 49 5 := ⟨underlying42,sizeOf49⟩
theorem st_45 : SliceTy Tryz.prog 45 105 2 := ⟨underlying45,sizeOf105⟩
theorem st_46 : SliceTy Tryz.prog 46 51 4 := ⟨underlying46,sizeOf51⟩
theorem st_47 : SliceTy Tryz.prog 47 3 1 := ⟨underlying47,sizeOf3⟩
theorem st_59 : SliceTy Tryz.prog 59 47 1 := ⟨underlying59,sizeOf47⟩
theorem st_69 : SliceTy Tryz.prog 69 158 5 := ⟨underlying69,sizeOf158⟩
theorem st_73 : SliceTy Tryz.prog 73 4 1 := ⟨underlying73,sizeOf4⟩
theorem st_74 : SliceTy Tryz.prog 74 73 1 := ⟨underlying74,sizeOf73⟩
theorem st_82 : SliceTy Tryz.prog 82 99 1 := ⟨underlying82,sizeOf99⟩
theorem st_89 : SliceTy Tryz.prog 89 88 1 := ⟨underlying89,sizeOf88⟩
theorem st_99 : SliceTy Tryz.prog 99 100 1 := ⟨underlying99,sizeOf100⟩
theorem st_155 : SliceTy Tryz.prog 155 240 2 := ⟨underlying155,sizeOf240⟩
theorem st_156 : SliceTy Tryz.prog 156 242 4 := ⟨underlying156,sizeOf242⟩
theorem et_26 : ElemTy Tryz.prog 26 44 3 (.agg #[(.int .i64 (0)),(.int .i64 (0)),.slice none 0 0]) := ⟨underlying26,⟨_,(by kernel_rfl : Tryz.prog.info? 44 = some t44),rfl,by decide,rfl⟩,rfl,by decide⟩
theorem et_42 : ElemTy Tryz.prog 42 49 5 (.agg #[.slice none 0 0,.slice none 0 0,(.int .i64 (0)),(.int .i64 (0)),.slice none 0 0]) := ⟨underlying42,⟨_,(by kernel_rfl : Tryz.prog.info? 49 = some t49),rfl,by decide,rfl⟩,rfl,by decide⟩
theorem et_45 : ElemTy Tryz.prog 45 105 2 (.agg #[(.int .i64 (0)),.slice none 0 0]) := ⟨underlying45,⟨_,(by kernel_rfl : Tryz.prog.info? 105 = some t105),rfl,by decide,rfl⟩,rfl,by decide⟩
theorem et_46 : ElemTy Tryz.prog 46 51 4 (.agg #[(.int .i64 (0)),(.int .i64 (0)),.slice none 0 0,(.int .i64 (0))]) := ⟨underlying46,⟨_,(by kernel_rfl : Tryz.prog.info? 51 = some t51),rfl,by decide,rfl⟩,rfl,by decide⟩
theorem et_47 : ElemTy Tryz.prog 47 3 1 (.int .i64 (0)) := ⟨underlying47,⟨_,(by kernel_rfl : Tryz.prog.info? 3 = some t3),rfl,by decide,rfl⟩,rfl,by decide⟩
theorem et_59 : ElemTy Tryz.prog 59 47 1 (.slice none 0 0) := ⟨underlying59,⟨_,(by kernel_rfl : Tryz.prog.info? 47 = some t47),rfl,by decide,rfl⟩,rfl,by decide⟩
theorem et_73 : ElemTy Tryz.prog 73 4 1 (.bool (false)) := ⟨underlying73,⟨_,(by kernel_rfl : Tryz.prog.info? 4 = some t4),rfl,by decide,rfl⟩,rfl,by decide⟩
theorem et_74 : ElemTy Tryz.prog 74 73 1 (.slice none 0 0) := ⟨underlying74,⟨_,(by kernel_rfl : Tryz.prog.info? 73 = some t73),rfl,by decide,rfl⟩,rfl,by decide⟩
theorem et_82 : ElemTy Tryz.prog 82 99 1 (.slice none 0 0) := ⟨underlying82,⟨_,(by kernel_rfl : Tryz.prog.info? 99 = some t99),rfl,by decide,rfl⟩,rfl,by decide⟩
theorem et_89 : ElemTy Tryz.prog 89 88 1 (.map none) := ⟨underlying89,⟨_,(by kernel_rfl : Tryz.prog.info? 88 = some t88),rfl,by decide,rfl⟩,rfl,by decide⟩
theorem et_99 : ElemTy Tryz.prog 99 100 1 (.map none) := ⟨underlying99,⟨_,(by kernel_rfl : Tryz.prog.info? 100 = some t100),rfl,by decide,rfl⟩,rfl,by decide⟩
theorem laws_szIntS_ok (w0 : World) (a_ : List Int) (v1 : Value) (h1 : GT.rep (hp w0) [v1] a_) (left : Int) :
    ConM Tryz.prog 198 [v1,nV left] w0 (laws_szIntS a_ left) λr v w'=>v = (nV r) ∧ Below w0.heap.size w0 w' := by
  unfold laws_szIntS
  refine gcon func198 rfl λr=>?_
  have hm := Mem.start w0
  refine gS (gR (gA rfl (gE (gS (gR (gM rfl (gM rfl ?_)))))))
  obtain ⟨aC,aD,rfl,aE⟩ := ro_slice h1
  refine gY (yV st_47 rfl) (gB rfl (gA rfl (gE (gS (gS (gR (gM rfl (gB rfl (gE (gsd 10 rfl (λaA=>?_) λaA=>?_))))))))))
  ·exact gct rfl (gS (gR (gA rfl (gE (gRt (gr1 results198 rfl ⟨rfl,hm.below⟩))))))
  exact gcf rfl (gSk (gS (gR (gM rfl (gA rfl (gE (gRt (gr1 results198 rfl ⟨rfl,hm.below⟩))))))))
theorem laws_szPhi_ok (w0 : World) (a_ : Phi_) (v1 : Value) (h1 : GT.rep (hp w0) [v1] a_.args) (left : Int) :
    ConM Tryz.prog 233 [(.agg #[nV a_.to,v1]),nV left] w0 (laws_szPhi a_ left) λr v w'=>v = (nV r) ∧ Below w0.heap.size w0 w' := by
  unfold laws_szPhi
  refine gcon func233 rfl λr=>?_
  have hm := Mem.start w0
  refine gS (gR (gBx hm rfl λaC w hm=>gA rfl (gE (gS (gR (gF fo_240_1 rfl (gL hm 0 isAgg47 rfl (gM rfl (gC hm rfl call198 (laws_szIntS_ok _ a_.args v1 (hm.now h1) left) λaD aE w hm=>gA rfl (gE (gS (gS (gR (gM rfl (gB rfl (gE (gsd 10 rfl (λaA=>?_) λaA=>?_)))))))))))))))))
  ·exact gct rfl (gS (gR (gA rfl (gE (gRt (gr1 results233 rfl ⟨rfl,hm.below⟩))))))
  exact gcf rfl (gSk (gS (gR (gM rfl (gA rfl (gE (gRt (gr1 results233 rfl ⟨rfl,hm.below⟩))))))))
theorem laws_szPhiS_ok (w0 : World) (a_ : List Phi_) (v1 : Value) (h1 : GT.rep (hp w0) [v1] a_) (left : Int) :
    ConM Tryz.prog 196 [v1,nV left] w0 (laws_szPhiS a_ left) λr v w'=>v = (nV r) ∧ Below w0.heap.size w0 w' := by
  unfold laws_szPhiS
  refine gcon func196 rfl λr=>?_
  have hm := Mem.start w0
  refine gS (gR (gA rfl (gE (gS (gR (gM rfl (gM rfl ?_)))))))
  obtain ⟨aE,aF,rfl,aR⟩ := ro_slice h1
  refine gY (yV st_155 rfl) (gB rfl (gA rfl (gE (gS (gS (gR (gM rfl (gB rfl (gE (gsd 11 rfl (λaG=>?_) λaG=>?_))))))))))
  ·exact gct rfl (gS (gR (gA rfl (gE (gRt (gr1 results196 rfl ⟨rfl,hm.below⟩))))))
  refine gcf rfl (gSk (gS (gS (gR (gA rfl (gE (gBk (gNg (λaD aA a w=>0 ≤ aA ∧ St 27 [(0,(.slice aE a_.length aF)),(1,(nV aA)),(5,(nV aD))] w0 (hp w0) [] a w) (λa hf=>⟨(by first | omega | (dsimp only; omega)),hf.sb rfl,hm.pk [] rfl rfl⟩) ?_ ?_))))))))
  ·repeat clear hm
   rintro aS aH aD aA a w ⟨aT,hf,hm⟩ aV aW aX aJ
   refine gv hf (gS (gS (gR (gM rfl (gM rfl (gY (yV st_155 rfl) (gB rfl (gE (go _ 15 rfl (decide_eq_true (by omega)) (gct rfl (gSk (gS (gBk (gS (gR (gM rfl (gM rfl (gg λaL aM aC=>?_))))))))))))))))))
   obtain ⟨aY,aZ,aa,he⟩ := idx_form' h1 aC
   obtain ⟨rfl,_,rfl⟩ := sl3 he
   obtain ⟨aN,aO,aP⟩ := rk_Phi_ h1 aC
   refine gI st_155 aM (idx_lt aC) rfl (gY (yn (aO.mono hm.lez) isAgg240 sizeOf240 rfl) (gM rfl (gC hm rfl call233 (laws_szPhi_ok _ aL aN (hm.now aP) aA) λab ac w hm=>gA rfl (gE (gS (gR (gM rfl (gB rfl (gE (gsd 25 rfl (λaQ=>?_) λaQ=>?_))))))))))
   ·exact gct rfl (gS (gR (gA rfl (gE (gRt (gLr aJ aH (gr1 results196 rfl ⟨rfl,hm.below⟩)))))))
   exact gcf rfl (gSk (gR (gM rfl (gP (by omega) (by omega) rfl (gA rfl (gE (gZe λa hf=>⟨(by first | omega | (dsimp only; omega)),hf.sb rfl,hm.pk [] rfl rfl⟩)))))))
  repeat clear hm
  rintro ae af a w ⟨ah,hf,hm⟩ ai aj
  exact gv hf (gS (gS (gR (gM rfl (gM rfl (gY (yV st_155 rfl) (gB rfl (gE (go _ 15 rfl (decide_eq_false (by omega)) (gcf rfl (gXt (gHh (gS (gR (gM rfl (gA rfl (gE (gRt (gr1 results196 rfl ⟨rfl,hm.below⟩)))))))))))))))))))
theorem laws_szIns_ok (w0 : World) (a_ : Ins_) (v1 : Value) (h1 : GT.rep (hp w0) [v1] a_.args) (left : Int) :
    ConM Tryz.prog 234 [(.agg #[nV a_.op,nV a_.to,v1,nV a_.n_]),nV left] w0 (laws_szIns a_ left) λr v w'=>v = (nV r) ∧ Below w0.heap.size w0 w' := by
  unfold laws_szIns
  refine gcon func234 rfl λr=>?_
  have hm := Mem.start w0
  refine gS (gR (gBx hm rfl λaC w hm=>gA rfl (gE (gS (gR (gF fo_242_2 rfl (gL hm 0 isAgg47 rfl (gM rfl (gC hm rfl call198 (laws_szIntS_ok _ a_.args v1 (hm.now h1) left) λaD aE w hm=>gA rfl (gE (gS (gS (gR (gM rfl (gB rfl (gE (gsd 10 rfl (λaA=>?_) λaA=>?_)))))))))))))))))
  ·exact gct rfl (gS (gR (gA rfl (gE (gRt (gr1 results234 rfl ⟨rfl,hm.below⟩))))))
  exact gcf rfl (gSk (gS (gR (gM rfl (gA rfl (gE (gRt (gr1 results234 rfl ⟨rfl,hm.below⟩))))))))
theorem laws_szInsS_ok (w0 : World) (a_ : List Ins_) (v1 : Value) (h1 : GT.rep (hp w0) [v1] a_) (left : Int) :
    ConM Tryz.prog 197 [v1,nV left] w0 (laws_szInsS a_ left) λr v w'=>v = (nV r) ∧ Below w0.heap.size w0 w' := by
  unfold laws_szInsS
  refine gcon func197 rfl λr=>?_
  have hm := Mem.start w0
  refine gS (gR (gA rfl (gE (gS (gR (gM rfl (gM rfl ?_)))))))
  obtain ⟨aE,aF,rfl,aR⟩ := ro_slice h1
  refine gY (yV st_156 rfl) (gB rfl (gA rfl (gE (gS (gS (gR (gM rfl (gB rfl (gE (gsd 11 rfl (λaG=>?_) λaG=>?_))))))))))
  ·exact gct rfl (gS (gR (gA rfl (gE (gRt (gr1 results197 rfl ⟨rfl,hm.below⟩))))))
  refine gcf rfl (gSk (gS (gS (gR (gA rfl (gE (gBk (gNg (λaD aA a w=>0 ≤ aA ∧ St 27 [(0,(.slice aE a_.length aF)),(1,(nV aA)),(5,(nV aD))] w0 (hp w0) [] a w) (λa hf=>⟨(by first | omega | (dsimp only; omega)),hf.sb rfl,hm.pk [] rfl rfl⟩) ?_ ?_))))))))
  ·repeat clear hm
   rintro aS aH aD aA a w ⟨aT,hf,hm⟩ aV aW aX aJ
   refine gv hf (gS (gS (gR (gM rfl (gM rfl (gY (yV st_156 rfl) (gB rfl (gE (go _ 15 rfl (decide_eq_true (by omega)) (gct rfl (gSk (gS (gBk (gS (gR (gM rfl (gM rfl (gg λaL aM aC=>?_))))))))))))))))))
   obtain ⟨aY,aZ,aa,he⟩ := idx_form' h1 aC
   obtain ⟨rfl,_,rfl⟩ := sl3 he
   obtain ⟨aN,aO,aP⟩ := rk_Ins_ h1 aC
   refine gI st_156 aM (idx_lt aC) rfl (gY (yn (aO.mono hm.lez) isAgg242 sizeOf242 rfl) (gM rfl (gC hm rfl call234 (laws_szIns_ok _ aL aN (hm.now aP) aA) λab ac w hm=>gA rfl (gE (gS (gR (gM rfl (gB rfl (gE (gsd 25 rfl (λaQ=>?_) λaQ=>?_))))))))))
   ·exact gct rfl (gS (gR (gA rfl (gE (gRt (gLr aJ aH (gr1 results197 rfl ⟨rfl,hm.below⟩)))))))
   exact gcf rfl (gSk (gR (gM rfl (gP (by omega) (by omega) rfl (gA rfl (gE (gZe λa hf=>⟨(by first | omega | (dsimp only; omega)),hf.sb rfl,hm.pk [] rfl rfl⟩)))))))
  repeat clear hm
  rintro ae af a w ⟨ah,hf,hm⟩ ai aj
  exact gv hf (gS (gS (gR (gM rfl (gM rfl (gY (yV st_156 rfl) (gB rfl (gE (go _ 15 rfl (decide_eq_false (by omega)) (gcf rfl (gXt (gHh (gS (gR (gM rfl (gA rfl (gE (gRt (gr1 results197 rfl ⟨rfl,hm.below⟩)))))))))))))))))))
theorem laws_szBlock_ok (w0 : World) (a_ : Block_) (v1 : Value) (h1 : GT.rep (hp w0) [v1] a_.phis) (v2 : Value) (h2 : GT.rep (hp w0) [v2] a_.ins) (v3 : Value) (h3 : GT.rep (hp w0) [v3] a_.next_) (left : Int) :
    ConM Tryz.prog 141 [(.agg #[v1,v2,nV a_.jump,nV a_.on,v3]),nV left] w0 (laws_szBlock a_ left) λr v w'=>v = (nV r) ∧ Below w0.heap.size w0 w' := by
  unfold laws_szBlock
  refine gcon func141 rfl λr=>?_
  have hm := Mem.start w0
  refine gS (gR (gBx hm rfl λaG w hm=>gA rfl (gE (gS (gR (gF fo_158_0 rfl (gL hm 0 isAgg155 rfl (gM rfl (gC hm rfl call196 (laws_szPhiS_ok _ a_.phis v1 (hm.now h1) left) λaA aH w hm=>gA rfl (gE (gS (gS (gR (gM rfl (gB rfl (gE (gsd 10 rfl (λaC=>?_) λaC=>?_)))))))))))))))))
  ·exact gct rfl (gS (gR (gA rfl (gE (gRt (gr1 results141 rfl ⟨rfl,hm.below⟩))))))
  refine gcf rfl (gSk (gS (gR (gF fo_158_1 rfl (gL hm 0 isAgg156 rfl (gM rfl (gC hm rfl call197 (laws_szInsS_ok _ a_.ins v2 (hm.now h2) aA) λaD aJ w hm=>gA rfl (gE (gS (gS (gR (gM rfl (gB rfl (gE (gsd 16 rfl (λaE=>?_) λaE=>?_)))))))))))))))
  ·exact gct rfl (gS (gR (gA rfl (gE (gRt (gr1 results141 rfl ⟨rfl,hm.below⟩))))))
  refine gcf rfl (gSk (gS (gR (gF fo_158_4 rfl (gL hm 0 isAgg47 rfl (gM rfl (gC hm rfl call198 (laws_szIntS_ok _ a_.next_ v3 (hm.now h3) aD) λaL aM w hm=>gA rfl (gE (gS (gS (gR (gM rfl (gB rfl (gE (gsd 22 rfl (λaF=>?_) λaF=>?_)))))))))))))))
  ·exact gct rfl (gS (gR (gA rfl (gE (gRt (gr1 results141 rfl ⟨rfl,hm.below⟩))))))
  exact gcf rfl (gSk (gS (gR (gM rfl (gA rfl (gE (gRt (gr1 results141 rfl ⟨rfl,hm.below⟩))))))))
theorem laws_szBlockS_ok (w0 : World) (a_ : List Block_) (v1 : Value) (h1 : GT.rep (hp w0) [v1] a_) (left : Int) :
    ConM Tryz.prog 78 [v1,nV left] w0 (laws_szBlockS a_ left) λr v w'=>v = (nV r) ∧ Below w0.heap.size w0 w' := by
  unfold laws_szBlockS
  refine gcon func78 rfl λr=>?_
  have hm := Mem.start w0
  refine gS (gR (gA rfl (gE (gS (gR (gM rfl (gM rfl ?_)))))))
  obtain ⟨aE,aF,rfl,aW⟩ := ro_slice h1
  refine gY (yV st_69 rfl) (gB rfl (gA rfl (gE (gS (gS (gR (gM rfl (gB rfl (gE (gsd 11 rfl (λaG=>?_) λaG=>?_))))))))))
  ·exact gct rfl (gS (gR (gA rfl (gE (gRt (gr1 results78 rfl ⟨rfl,hm.below⟩))))))
  refine gcf rfl (gSk (gS (gS (gR (gA rfl (gE (gBk (gNg (λaD aA a w=>0 ≤ aA ∧ St 27 [(0,(.slice aE a_.length aF)),(1,(nV aA)),(5,(nV aD))] w0 (hp w0) [] a w) (λa hf=>⟨(by first | omega | (dsimp only; omega)),hf.sb rfl,hm.pk [] rfl rfl⟩) ?_ ?_))))))))
  ·repeat clear hm
   rintro aX aH aD aA a w ⟨aY,hf,hm⟩ aZ aa ab aJ
   refine gv hf (gS (gS (gR (gM rfl (gM rfl (gY (yV st_69 rfl) (gB rfl (gE (go _ 15 rfl (decide_eq_true (by omega)) (gct rfl (gSk (gS (gBk (gS (gR (gM rfl (gM rfl (gg λaL aM aC=>?_))))))))))))))))))
   obtain ⟨ac,ae,af,he⟩ := idx_form' h1 aC
   obtain ⟨rfl,_,rfl⟩ := sl3 he
   obtain ⟨aN,aO,aP,aQ,aR,aS,aT⟩ := rk_Block_ h1 aC
   refine gI st_69 aM (idx_lt aC) rfl (gY (yn (aQ.mono hm.lez) isAgg158 sizeOf158 rfl) (gM rfl (gC hm rfl call141 (laws_szBlock_ok _ aL aN (hm.now aR) aO (hm.now aS) aP (hm.now aT) aA) λah ai w hm=>gA rfl (gE (gS (gR (gM rfl (gB rfl (gE (gsd 25 rfl (λaV=>?_) λaV=>?_))))))))))
   ·exact gct rfl (gS (gR (gA rfl (gE (gRt (gLr aJ aH (gr1 results78 rfl ⟨rfl,hm.below⟩)))))))
   exact gcf rfl (gSk (gR (gM rfl (gP (by omega) (by omega) rfl (gA rfl (gE (gZe λa hf=>⟨(by first | omega | (dsimp only; omega)),hf.sb rfl,hm.pk [] rfl rfl⟩)))))))
  repeat clear hm
  rintro aj ak a w ⟨al,hf,hm⟩ am an
  exact gv hf (gS (gS (gR (gM rfl (gM rfl (gY (yV st_69 rfl) (gB rfl (gE (go _ 15 rfl (decide_eq_false (by omega)) (gcf rfl (gXt (gHh (gS (gR (gM rfl (gA rfl (gE (gRt (gr1 results78 rfl ⟨rfl,hm.below⟩)))))))))))))))))))
theorem laws_szCode_ok (w0 : World) (a_ : Code_) (v1 : Value) (h1 : GT.rep (hp w0) [v1] a_.blocks) (left : Int) :
    ConM Tryz.prog 44 [(.agg #[nV a_.params,nV a_.regs,v1]),nV left] w0 (laws_szCode a_ left) λr v w'=>v = (nV r) ∧ Below w0.heap.size w0 w' := by
  unfold laws_szCode
  refine gcon func44 rfl λr=>?_
  have hm := Mem.start w0
  refine gS (gR (gBx hm rfl λaC w hm=>gA rfl (gE (gS (gR (gF fo_71_2 rfl (gL hm 0 isAgg69 rfl (gM rfl (gC hm rfl call78 (laws_szBlockS_ok _ a_.blocks v1 (hm.now h1) left) λaD aE w hm=>gA rfl (gE (gS (gS (gR (gM rfl (gB rfl (gE (gsd 10 rfl (λaA=>?_) λaA=>?_)))))))))))))))))
  ·exact gct rfl (gS (gR (gA rfl (gE (gRt (gr1 results44 rfl ⟨rfl,hm.below⟩))))))
  exact gcf rfl (gSk (gS (gR (gM rfl (gA rfl (gE (gRt (gr1 results44 rfl ⟨rfl,hm.below⟩))))))))
theorem laws_szCodeS_ok (w0 : World) (a_ : List Code_) (v1 : Value) (h1 : GT.rep (hp w0) [v1] a_) (left : Int) :
    ConM Tryz.prog 17 [v1,nV left] w0 (laws_szCodeS a_ left) λr v w'=>v = (nV r) ∧ Below w0.heap.size w0 w' := by
  unfold laws_szCodeS
  refine gcon func17 rfl λr=>?_
  have hm := Mem.start w0
  refine gS (gR (gA rfl (gE (gS (gR (gM rfl (gM rfl ?_)))))))
  obtain ⟨aE,aF,rfl,aR⟩ := ro_slice h1
  refine gY (yV st_22 rfl) (gB rfl (gA rfl (gE (gS (gS (gR (gM rfl (gB rfl (gE (gsd 11 rfl (λaG=>?_) λaG=>?_))))))))))
  ·exact gct rfl (gS (gR (gA rfl (gE (gRt (gr1 results17 rfl ⟨rfl,hm.below⟩))))))
  refine gcf rfl (gSk (gS (gS (gR (gA rfl (gE (gBk (gNg (λaD aA a w=>0 ≤ aA ∧ St 27 [(0,(.slice aE a_.length aF)),(1,(nV aA)),(5,(nV aD))] w0 (hp w0) [] a w) (λa hf=>⟨(by first | omega | (dsimp only; omega)),hf.sb rfl,hm.pk [] rfl rfl⟩) ?_ ?_))))))))
  ·repeat clear hm
   rintro aS aH aD aA a w ⟨aT,hf,hm⟩ aV aW aX aJ
   refine gv hf (gS (gS (gR (gM rfl (gM rfl (gY (yV st_22 rfl) (gB rfl (gE (go _ 15 rfl (decide_eq_true (by omega)) (gct rfl (gSk (gS (gBk (gS (gR (gM rfl (gM rfl (gg λaL aM aC=>?_))))))))))))))))))
   obtain ⟨aY,aZ,aa,he⟩ := idx_form' h1 aC
   obtain ⟨rfl,_,rfl⟩ := sl3 he
   obtain ⟨aN,aO,aP⟩ := rk_Code_ h1 aC
   refine gI st_22 aM (idx_lt aC) rfl (gY (yn (aO.mono hm.lez) isAgg71 sizeOf71 rfl) (gM rfl (gC hm rfl call44 (laws_szCode_ok _ aL aN (hm.now aP) aA) λab ac w hm=>gA rfl (gE (gS (gR (gM rfl (gB rfl (gE (gsd 25 rfl (λaQ=>?_) λaQ=>?_))))))))))
   ·exact gct rfl (gS (gR (gA rfl (gE (gRt (gLr aJ aH (gr1 results17 rfl ⟨rfl,hm.below⟩)))))))
   exact gcf rfl (gSk (gR (gM rfl (gP (by omega) (by omega) rfl (gA rfl (gE (gZe λa hf=>⟨(by first | omega | (dsimp only; omega)),hf.sb rfl,hm.pk [] rfl rfl⟩)))))))
  repeat clear hm
  rintro ae af a w ⟨ah,hf,hm⟩ ai aj
  exact gv hf (gS (gS (gR (gM rfl (gM rfl (gY (yV st_22 rfl) (gB rfl (gE (go _ 15 rfl (decide_eq_false (by omega)) (gcf rfl (gXt (gHh (gS (gR (gM rfl (gA rfl (gE (gRt (gr1 results17 rfl ⟨rfl,hm.below⟩)))))))))))))))))))
theorem laws_szUnit_ok (w0 : World) (a_ : Unit_) (v1 : Value) (h1 : GT.rep (hp w0) [v1] a_.codes) (left : Int) :
    ConM Tryz.prog 6 [(.agg #[v1]),nV left] w0 (laws_szUnit a_ left) λr v w'=>v = (nV r) ∧ Below w0.heap.size w0 w' := by
  unfold laws_szUnit
  refine gcon func6 rfl λr=>?_
  have hm := Mem.start w0
  refine gS (gR (gBx hm rfl λaC w hm=>gA rfl (gE (gS (gR (gF fo_24_0 rfl (gL hm 0 isAgg22 rfl (gM rfl (gC hm rfl call17 (laws_szCodeS_ok _ a_.codes v1 (hm.now h1) left) λaD aE w hm=>gA rfl (gE (gS (gS (gR (gM rfl (gB rfl (gE (gsd 10 rfl (λaA=>?_) λaA=>?_)))))))))))))))))
  ·exact gct rfl (gS (gR (gA rfl (gE (gRt (gr1 results6 rfl ⟨rfl,hm.below⟩))))))
  exact gcf rfl (gSk (gS (gR (gM rfl (gA rfl (gE (gRt (gr1 results6 rfl ⟨rfl,hm.below⟩))))))))
theorem laws_toIntS_ok (w0 : World) (a_ : List Int) (v1 : Value) (h1 : GT.rep (hp w0) [v1] a_) :
    ConM Tryz.prog 201 [v1] w0 (laws_toIntS a_) λr v w'=>∃ (x1 : Value),v = x1 ∧ Mem w0 (hp w0) w' [ow [x1] r] := by
  unfold laws_toIntS
  refine gcon func201 rfl λr=>?_
  have hm := Mem.start w0
  refine gS (gR (gA rfl (gE (gS (gR (gM rfl ?_))))))
  obtain ⟨aM,aN,rfl,aT⟩ := ro_slice h1
  refine gY (yV st_47 rfl) (gb λaA aO=>?_)
  obtain ⟨⟨aP,aQ⟩,aL⟩ := makeM_some.1 aO
  refine gf rfl (λa hf=>e_make (x0 := (0 : Int)) et_47 (λ_=>(Flat.own_iff.2 rfl)) hf hm rfl rfl rfl aP (Int.le_refl _) aQ) ?_
  rintro aV w hm
  rw [aL] at hm
  have h0_1l : (aA.length : Int) = (a_.length : Int) := by rw [← aL]; simp only [List.length_replicate]; omega
  refine gA rfl (gE (gS (gS (gR (gA rfl (gE ?_))))))
  obtain ⟨aE,aF,rfl,aW⟩ := ro_slice (hm.ow_rep 0 rfl)
  refine gBk (gNf hm (λaG aH=>[(0,(.slice aM a_.length aN)),(3,(.slice aE aA.length aF)),(4,(nV aG))]) (λaG aH=>[ow [.slice aE aA.length aF] aH]) [0] rfl ?_ ?_)
  ·repeat clear hm
   intro _ _ aG aH w hm aX aY aZ _
   refine gS (gS (gR (gM rfl (gM rfl (gY (yV st_47 rfl) (gB rfl (gE (go _ 11 rfl (decide_eq_true (by omega)) (gct rfl (gSk (gS (gBk (gR (gM rfl (gM rfl (gM rfl (gM rfl (gg λaC aR aJ=>?_))))))))))))))))))
   obtain ⟨aa,ab,ac,he⟩ := idx_form h1 aJ
   obtain ⟨rfl,_,rfl⟩ := sl3 he
   refine gI st_47 aR (idx_lt aJ) rfl (gY (yl isAgg3 ((flat_cells (cs := [nV aC]) (hm.now h1) aJ rfl).cell (j := 0) rfl) rfl) (gg λae aS aD=>?_))
   obtain ⟨af,ah,ai,he⟩ := idx_form (hm.ow_rep 0 rfl) aD
   obtain ⟨rfl,_,rfl⟩ := sl3 he
   have hL1_1 := rep_slice_len (hm.ow_rep 0 rfl)
   refine gI st_47 aS (idx_lt2 aD hL1_1) rfl (gf0 rfl (λa hf=>e_setElem (x1 := aC) (j := 0) (vs := [nV aC]) 0 hf hm rfl aD rfl sizeOf3 rfl rfl rfl (one_cons rfl one_nil) rfl rfl) ?_)
   rintro _ w hm
   have aj := List.getElem?_set_self (a := aC) (idx_lt aD)
   exact gE (gR (gM rfl (gP (by omega) (by omega) rfl (gA rfl (gE (gze hm [0] rfl))))))
  repeat clear hm
  intro ak al w hm am an
  exact gS (gS (gR (gM rfl (gM rfl (gY (yV st_47 rfl) (gB rfl (gE (go _ 11 rfl (decide_eq_false (by omega)) (gcf rfl (gXt (gHh (gS (gR (gM rfl (gA rfl (gE (gRt (gr1 results201 rfl ⟨.slice aE aA.length aF,rfl,hm.pk [0] rfl rfl⟩))))))))))))))))))
theorem laws_toPhi_ok (w0 : World) (a_ : Phi_) (v1 : Value) (h1 : GT.rep (hp w0) [v1] a_.args) :
    ConM Tryz.prog 235 [(.agg #[nV a_.to,v1])] w0 (laws_toPhi a_) λr v w'=>∃ (x1 : Value),v = (.agg #[nV r.to,x1]) ∧ Mem w0 (hp w0) w' [ow [x1] r.args] := by
  unfold laws_toPhi
  refine gcon func235 rfl λr=>?_
  have hm := Mem.start w0
  refine gS (gR (gBx hm rfl λaC w hm=>gAl hm zeroValue105 rfl λaD w hm=>gE (gS (gR (gAl hm zeroValue105 rfl λaE w hm=>gE (gS (gR (gF fo_240_0 rfl (gL hm 2 isAgg3 rfl (gF fo_105_0 rfl (gS1 hm 0 sizeOf3 rfl rfl λw hm=>gE (gS (gR (gF fo_240_1 rfl (gL hm 2 isAgg47 rfl (gCg rfl call201 (laws_toIntS_ok _ a_.args v1 (hm.now h1)) ?_))))))))))))))))
  rintro aF aG aA w ⟨_,rfl,hB⟩
  replace hm := hm.give hB; clear hB
  exact gF fo_105_1 rfl (gS1 hm 1 sizeOf47 (rep_one (hm.ow_rep 0 rfl)) rfl λw hm=>gE (gS (gR (gY (yn (hm.blk_at 1 rfl) isAgg105 sizeOf105 rfl) (gSN hm 2 sizeOf105 (one_cons rfl (one_cons (rep_one (hm.ow_rep 0 rfl)) one_nil)) rfl λw hm=>gE (gRt (grc 2 results235 hm rfl isAgg105 sizeOf105 ⟨aA,rfl,hm.pk [0] rfl rfl⟩)))))))
theorem laws_toPhiS_ok (w0 : World) (a_ : List Phi_) (v1 : Value) (h1 : GT.rep (hp w0) [v1] a_) :
    ConM Tryz.prog 199 [v1] w0 (laws_toPhiS a_) λr v w'=>∃ (x1 : Value),v = x1 ∧ Mem w0 (hp w0) w' [ow [x1] r] := by
  unfold laws_toPhiS
  refine gcon func199 rfl λr=>?_
  have hm := Mem.start w0
  refine gS (gR (gA rfl (gE (gS (gR (gM rfl ?_))))))
  obtain ⟨aP,aQ,rfl,ab⟩ := ro_slice h1
  refine gY (yV st_155 rfl) (gb λaC aR=>?_)
  obtain ⟨⟨aS,aT⟩,aM⟩ := makeM_some.1 aR
  refine gf rfl (λa hf=>e_make (x0 := ((⟨0,[]⟩ : Phi_) : Phi_)) et_45 (λ_=>⟨[nV 0],[.slice none 0 0],rfl,λ_=>False,λ_=>False,λ_ h=>h.elim,λ_ h=>h.elim,λ_ h=>h.elim,(Flat.own_iff.2 rfl),(own_list.2 (.inl ⟨rfl,rfl⟩))⟩) hf hm rfl rfl rfl aS (Int.le_refl _) aT) ?_
  rintro ac w hm
  rw [aM] at hm
  have h0_1l : (aC.length : Int) = (a_.length : Int) := by rw [← aM]; simp only [List.length_replicate]; omega
  refine gA rfl (gE (gS (gS (gR (gA rfl (gE ?_))))))
  obtain ⟨aG,aD,rfl,ae⟩ := ro_slice (hm.ow_rep 0 rfl)
  refine gBk (gNf hm (λaH aE=>[(0,(.slice aP a_.length aQ)),(3,(.slice aG aC.length aD)),(4,(nV aH))]) (λaH aE=>[ow [.slice aG aC.length aD] aE]) [0] rfl ?_ ?_)
  ·repeat clear hm
   intro _ _ aH aE w hm af ah ai _
   refine gS (gS (gR (gM rfl (gM rfl (gY (yV st_155 rfl) (gB rfl (gE (go _ 11 rfl (decide_eq_true (by omega)) (gct rfl (gSk (gS (gBk (gR (gM rfl (gM rfl (gM rfl (gM rfl (gg λaV aW aJ=>?_))))))))))))))))))
   obtain ⟨aj,ak,al,he⟩ := idx_form' h1 aJ
   obtain ⟨rfl,_,rfl⟩ := sl3 he
   obtain ⟨aX,aY,aZ⟩ := rk_Phi_ h1 aJ
   refine gI st_155 aW (idx_lt aJ) rfl (gY (yn (aY.mono hm.lez) isAgg240 sizeOf240 rfl) (gCg rfl call235 (laws_toPhi_ok _ aV aX (hm.now aZ)) ?_))
   rintro aA am an w ⟨aL,rfl,hB⟩
   replace hm := hm.give hB; clear hB
   refine gg λao aa aF=>?_
   obtain ⟨aN,aO,ap,he⟩ := idx_form' (hm.ow_rep 1 rfl) aF
   obtain ⟨rfl,_,rfl⟩ := sl3 he
   obtain ⟨aq,ar,au⟩ := rk_Phi_ (hm.ow_rep 1 rfl) aF
   have hL1_1 := rep_slice_len (hm.ow_rep 1 rfl)
   refine gI st_45 aa (idx_lt2 aF hL1_1) rfl ?_
   replace hm : Mem w0 (hp w0) _ [ow [nV aA.to,aL] (aA : Phi_),ow [sV aN aO aC.length aD] aE] := mk_Phi_ aA.to hm 0 rfl
   replace hm := (hm.both 1 0 (by decide) rfl rfl).pk (L' := [both (ow [sV aN aO aC.length aD] aE) (ow [nV aA.to,aL] (aA : Phi_))]) [1] rfl rfl
   refine gf0 rfl (λa hf=>e_putElem (x1 := (aA : Phi_)) (vs := [nV aA.to,aL]) 0 hf hm rfl aF rfl sizeOf105 rfl rfl rfl rfl) ?_
   rintro _ w hm
   have av := List.getElem?_set_self (a := (aA : Phi_)) (idx_lt aF)
   exact gE (gR (gM rfl (gP (by omega) (by omega) rfl (gA rfl (gE (gze hm [0] rfl))))))
  repeat clear hm
  intro aw ax w hm ay az
  exact gS (gS (gR (gM rfl (gM rfl (gY (yV st_155 rfl) (gB rfl (gE (go _ 11 rfl (decide_eq_false (by omega)) (gcf rfl (gXt (gHh (gS (gR (gM rfl (gA rfl (gE (gRt (gr1 results199 rfl ⟨.slice aG aC.length aD,rfl,hm.pk [0] rfl rfl⟩))))))))))))))))))
theorem laws_toIns_ok (w0 : World) (a_ : Ins_) (v1 : Value) (h1 : GT.rep (hp w0) [v1] a_.args) :
    ConM Tryz.prog 236 [(.agg #[nV a_.op,nV a_.to,v1,nV a_.n_])] w0 (laws_toIns a_) λr v w'=>∃ (x1 : Value),v = (.agg #[nV r.op,nV r.to,x1,nV r.n_]) ∧ Mem w0 (hp w0) w' [ow [x1] r.args] := by
  unfold laws_toIns
  refine gcon func236 rfl λr=>?_
  have hm := Mem.start w0
  refine gS (gR (gBx hm rfl λaC w hm=>gAl hm zeroValue51 rfl λaD w hm=>gE (gS (gR (gAl hm zeroValue51 rfl λaE w hm=>gE (gS (gR (gF fo_242_0 rfl (gL hm 2 isAgg3 rfl (gF fo_51_0 rfl (gS1 hm 0 sizeOf3 rfl rfl λw hm=>gE (gS (gR (gF fo_242_1 rfl (gL hm 2 isAgg3 rfl (gF fo_51_1 rfl (gS1 hm 0 sizeOf3 rfl rfl λw hm=>gE (gS (gR (gF fo_242_2 rfl (gL hm 2 isAgg47 rfl (gCg rfl call201 (laws_toIntS_ok _ a_.args v1 (hm.now h1)) ?_))))))))))))))))))))))
  rintro aF aG aA w ⟨_,rfl,hB⟩
  replace hm := hm.give hB; clear hB
  exact gF fo_51_2 rfl (gS1 hm 1 sizeOf47 (rep_one (hm.ow_rep 0 rfl)) rfl λw hm=>gE (gS (gR (gF fo_242_3 rfl (gL hm 3 isAgg3 rfl (gF fo_51_3 rfl (gS1 hm 1 sizeOf3 rfl rfl λw hm=>gE (gS (gR (gY (yn (hm.blk_at 1 rfl) isAgg51 sizeOf51 rfl) (gSN hm 2 sizeOf51 (one_cons rfl (one_cons rfl (one_cons (rep_one (hm.ow_rep 0 rfl)) (one_cons rfl one_nil)))) rfl λw hm=>gE (gRt (grc 2 results236 hm rfl isAgg51 sizeOf51 ⟨aA,rfl,hm.pk [0] rfl rfl⟩)))))))))))))
theorem laws_toInsS_ok (w0 : World) (a_ : List Ins_) (v1 : Value) (h1 : GT.rep (hp w0) [v1] a_) :
    ConM Tryz.prog 200 [v1] w0 (laws_toInsS a_) λr v w'=>∃ (x1 : Value),v = x1 ∧ Mem w0 (hp w0) w' [ow [x1] r] := by
  unfold laws_toInsS
  refine gcon func200 rfl λr=>?_
  have hm := Mem.start w0
  refine gS (gR (gA rfl (gE (gS (gR (gM rfl ?_))))))
  obtain ⟨aP,aQ,rfl,ab⟩ := ro_slice h1
  refine gY (yV st_156 rfl) (gb λaC aR=>?_)
  obtain ⟨⟨aS,aT⟩,aM⟩ := makeM_some.1 aR
  refine gf rfl (λa hf=>e_make (x0 := ((⟨0,0,[],0⟩ : Ins_) : Ins_)) et_46 (λ_=>⟨[nV 0],[nV 0,.slice none 0 0,nV 0],rfl,λ_=>False,λ_=>False,λ_ h=>h.elim,λ_ h=>h.elim,λ_ h=>h.elim,(Flat.own_iff.2 rfl),⟨[nV 0],[.slice none 0 0,nV 0],rfl,λ_=>False,λ_=>False,λ_ h=>h.elim,λ_ h=>h.elim,λ_ h=>h.elim,(Flat.own_iff.2 rfl),⟨[.slice none 0 0],[nV 0],rfl,λ_=>False,λ_=>False,λ_ h=>h.elim,λ_ h=>h.elim,λ_ h=>h.elim,(own_list.2 (.inl ⟨rfl,rfl⟩)),(Flat.own_iff.2 rfl)⟩⟩⟩) hf hm rfl rfl rfl aS (Int.le_refl _) aT) ?_
  rintro ac w hm
  rw [aM] at hm
  have h0_1l : (aC.length : Int) = (a_.length : Int) := by rw [← aM]; simp only [List.length_replicate]; omega
  refine gA rfl (gE (gS (gS (gR (gA rfl (gE ?_))))))
  obtain ⟨aG,aD,rfl,ae⟩ := ro_slice (hm.ow_rep 0 rfl)
  refine gBk (gNf hm (λaH aE=>[(0,(.slice aP a_.length aQ)),(3,(.slice aG aC.length aD)),(4,(nV aH))]) (λaH aE=>[ow [.slice aG aC.length aD] aE]) [0] rfl ?_ ?_)
  ·repeat clear hm
   intro _ _ aH aE w hm af ah ai _
   refine gS (gS (gR (gM rfl (gM rfl (gY (yV st_156 rfl) (gB rfl (gE (go _ 11 rfl (decide_eq_true (by omega)) (gct rfl (gSk (gS (gBk (gR (gM rfl (gM rfl (gM rfl (gM rfl (gg λaV aW aJ=>?_))))))))))))))))))
   obtain ⟨aj,ak,al,he⟩ := idx_form' h1 aJ
   obtain ⟨rfl,_,rfl⟩ := sl3 he
   obtain ⟨aX,aY,aZ⟩ := rk_Ins_ h1 aJ
   refine gI st_156 aW (idx_lt aJ) rfl (gY (yn (aY.mono hm.lez) isAgg242 sizeOf242 rfl) (gCg rfl call236 (laws_toIns_ok _ aV aX (hm.now aZ)) ?_))
   rintro aA am an w ⟨aL,rfl,hB⟩
   replace hm := hm.give hB; clear hB
   refine gg λao aa aF=>?_
   obtain ⟨aN,aO,ap,he⟩ := idx_form' (hm.ow_rep 1 rfl) aF
   obtain ⟨rfl,_,rfl⟩ := sl3 he
   obtain ⟨aq,ar,au⟩ := rk_Ins_ (hm.ow_rep 1 rfl) aF
   have hL1_1 := rep_slice_len (hm.ow_rep 1 rfl)
   refine gI st_46 aa (idx_lt2 aF hL1_1) rfl ?_
   replace hm : Mem w0 (hp w0) _ [ow [nV aA.op,nV aA.to,aL,nV aA.n_] (aA : Ins_),ow [sV aN aO aC.length aD] aE] := mk_Ins_ aA.op aA.to aA.n_ hm 0 rfl
   replace hm := (hm.both 1 0 (by decide) rfl rfl).pk (L' := [both (ow [sV aN aO aC.length aD] aE) (ow [nV aA.op,nV aA.to,aL,nV aA.n_] (aA : Ins_))]) [1] rfl rfl
   refine gf0 rfl (λa hf=>e_putElem (x1 := (aA : Ins_)) (vs := [nV aA.op,nV aA.to,aL,nV aA.n_]) 0 hf hm rfl aF rfl sizeOf51 rfl rfl rfl rfl) ?_
   rintro _ w hm
   have av := List.getElem?_set_self (a := (aA : Ins_)) (idx_lt aF)
   exact gE (gR (gM rfl (gP (by omega) (by omega) rfl (gA rfl (gE (gze hm [0] rfl))))))
  repeat clear hm
  intro aw ax w hm ay az
  exact gS (gS (gR (gM rfl (gM rfl (gY (yV st_156 rfl) (gB rfl (gE (go _ 11 rfl (decide_eq_false (by omega)) (gcf rfl (gXt (gHh (gS (gR (gM rfl (gA rfl (gE (gRt (gr1 results200 rfl ⟨.slice aG aC.length aD,rfl,hm.pk [0] rfl rfl⟩))))))))))))))))))
theorem laws_toBlock_ok (w0 : World) (a_ : Block_) (v1 : Value) (h1 : GT.rep (hp w0) [v1] a_.phis) (v2 : Value) (h2 : GT.rep (hp w0) [v2] a_.ins) (v3 : Value) (h3 : GT.rep (hp w0) [v3] a_.next_) :
    ConM Tryz.prog 144 [(.agg #[v1,v2,nV a_.jump,nV a_.on,v3])] w0 (laws_toBlock a_) λr v w'=>∃ (x1 : Value) (x2 : Value) (x3 : Value),v = (.agg #[x1,x2,nV r.jump,nV r.on,x3]) ∧ Mem w0 (hp w0) w' [ow [x1] r.phis,ow [x2] r.ins,ow [x3] r.next_] := by
  unfold laws_toBlock
  refine gcon func144 rfl λr=>?_
  have hm := Mem.start w0
  refine gS (gR (gBx hm rfl λaE w hm=>gAl hm zeroValue49 rfl λaF w hm=>gE (gS (gR (gAl hm zeroValue49 rfl λaG w hm=>gE (gS (gR (gF fo_158_0 rfl (gL hm 2 isAgg155 rfl (gCg rfl call199 (laws_toPhiS_ok _ a_.phis v1 (hm.now h1)) ?_))))))))))
  rintro aH aJ aA w ⟨_,rfl,hB⟩
  replace hm := hm.give hB; clear hB
  refine gF fo_49_0 rfl (gS1 hm 1 sizeOf45 (rep_one (hm.ow_rep 0 rfl)) rfl λw hm=>gE (gS (gR (gF fo_158_1 rfl (gL hm 3 isAgg156 rfl (gCg rfl call200 (laws_toInsS_ok _ a_.ins v2 (hm.now h2)) ?_))))))
  rintro aL aM aC w ⟨_,rfl,hB⟩
  replace hm := hm.give hB; clear hB
  refine gF fo_49_1 rfl (gS1 hm 2 sizeOf46 (rep_one (hm.ow_rep 0 rfl)) rfl λw hm=>gE (gS (gR (gF fo_158_2 rfl (gL hm 4 isAgg3 rfl (gF fo_49_2 rfl (gS1 hm 2 sizeOf3 rfl rfl λw hm=>gE (gS (gR (gF fo_158_3 rfl (gL hm 4 isAgg3 rfl (gF fo_49_3 rfl (gS1 hm 2 sizeOf3 rfl rfl λw hm=>gE (gS (gR (gF fo_158_4 rfl (gL hm 4 isAgg47 rfl (gCg rfl call201 (laws_toIntS_ok _ a_.next_ v3 (hm.now h3)) ?_))))))))))))))))))
  rintro aN aO aD w ⟨_,rfl,hB⟩
  replace hm := hm.give hB; clear hB
  exact gF fo_49_4 rfl (gS1 hm 3 sizeOf47 (rep_one (hm.ow_rep 0 rfl)) rfl λw hm=>gE (gS (gR (gY (yn (hm.blk_at 3 rfl) isAgg49 sizeOf49 rfl) (gSN hm 4 sizeOf49 (one_cons (rep_one (hm.ow_rep 2 rfl)) (one_cons (rep_one (hm.ow_rep 1 rfl)) (one_cons rfl (one_cons rfl (one_cons (rep_one (hm.ow_rep 0 rfl)) one_nil))))) rfl λw hm=>gE (gRt (grc 4 results144 hm rfl isAgg49 sizeOf49 ⟨aA,aC,aD,rfl,hm.pk [2,1,0] rfl rfl⟩)))))))
theorem laws_toBlockS_ok (w0 : World) (a_ : List Block_) (v1 : Value) (h1 : GT.rep (hp w0) [v1] a_) :
    ConM Tryz.prog 87 [v1] w0 (laws_toBlockS a_) λr v w'=>∃ (x1 : Value),v = x1 ∧ Mem w0 (hp w0) w' [ow [x1] r] := by
  unfold laws_toBlockS
  refine gcon func87 rfl λr=>?_
  have hm := Mem.start w0
  refine gS (gR (gA rfl (gE (gS (gR (gM rfl ?_))))))
  obtain ⟨aR,aS,rfl,aj⟩ := ro_slice h1
  refine gY (yV st_69 rfl) (gb λaC aT=>?_)
  obtain ⟨⟨aV,aW⟩,aO⟩ := makeM_some.1 aT
  refine gf rfl (λa hf=>e_make (x0 := ((⟨[],[],0,0,[]⟩ : Block_) : Block_)) et_42 (λ_=>⟨[.slice none 0 0],[.slice none 0 0,nV 0,nV 0,.slice none 0 0],rfl,λ_=>False,λ_=>False,λ_ h=>h.elim,λ_ h=>h.elim,λ_ h=>h.elim,(own_list.2 (.inl ⟨rfl,rfl⟩)),⟨[.slice none 0 0],[nV 0,nV 0,.slice none 0 0],rfl,λ_=>False,λ_=>False,λ_ h=>h.elim,λ_ h=>h.elim,λ_ h=>h.elim,(own_list.2 (.inl ⟨rfl,rfl⟩)),⟨[nV 0],[nV 0,.slice none 0 0],rfl,λ_=>False,λ_=>False,λ_ h=>h.elim,λ_ h=>h.elim,λ_ h=>h.elim,(Flat.own_iff.2 rfl),⟨[nV 0],[.slice none 0 0],rfl,λ_=>False,λ_=>False,λ_ h=>h.elim,λ_ h=>h.elim,λ_ h=>h.elim,(Flat.own_iff.2 rfl),(own_list.2 (.inl ⟨rfl,rfl⟩))⟩⟩⟩⟩) hf hm rfl rfl rfl aV (Int.le_refl _) aW) ?_
  rintro ak w hm
  rw [aO] at hm
  have h0_1l : (aC.length : Int) = (a_.length : Int) := by rw [← aO]; simp only [List.length_replicate]; omega
  refine gA rfl (gE (gS (gS (gR (gA rfl (gE ?_))))))
  obtain ⟨aG,aD,rfl,al⟩ := ro_slice (hm.ow_rep 0 rfl)
  refine gBk (gNf hm (λaH aE=>[(0,(.slice aR a_.length aS)),(3,(.slice aG aC.length aD)),(4,(nV aH))]) (λaH aE=>[ow [.slice aG aC.length aD] aE]) [0] rfl ?_ ?_)
  ·repeat clear hm
   intro _ _ aH aE w hm am an ao _
   refine gS (gS (gR (gM rfl (gM rfl (gY (yV st_69 rfl) (gB rfl (gE (go _ 11 rfl (decide_eq_true (by omega)) (gct rfl (gSk (gS (gBk (gR (gM rfl (gM rfl (gM rfl (gM rfl (gg λaX aY aJ=>?_))))))))))))))))))
   obtain ⟨ap,aq,ar,he⟩ := idx_form' h1 aJ
   obtain ⟨rfl,_,rfl⟩ := sl3 he
   obtain ⟨aZ,aa,ab,ac,ae,af,ah⟩ := rk_Block_ h1 aJ
   refine gI st_69 aY (idx_lt aJ) rfl (gY (yn (ac.mono hm.lez) isAgg158 sizeOf158 rfl) (gCg rfl call144 (laws_toBlock_ok _ aX aZ (hm.now ae) aa (hm.now af) ab (hm.now ah)) ?_))
   rintro aA au av w ⟨aL,aM,aN,rfl,hB⟩
   replace hm := hm.give hB; clear hB
   refine gg λaw ai aF=>?_
   obtain ⟨aP,aQ,ax,he⟩ := idx_form' (hm.ow_rep 3 rfl) aF
   obtain ⟨rfl,_,rfl⟩ := sl3 he
   obtain ⟨ay,az,bA,bB,bC,bD,bE⟩ := rk_Block_ (hm.ow_rep 3 rfl) aF
   have hL1_1 := rep_slice_len (hm.ow_rep 3 rfl)
   refine gI st_42 ai (idx_lt2 aF hL1_1) rfl ?_
   replace hm := (mk_Block_ aA.jump aA.on hm 0 1 2 rfl).pk (L' := [ow [aL,aM,nV aA.jump,nV aA.on,aN] (aA : Block_),ow [sV aP aQ aC.length aD] aE]) [0,3] rfl rfl
   replace hm := (hm.both 1 0 (by decide) rfl rfl).pk (L' := [both (ow [sV aP aQ aC.length aD] aE) (ow [aL,aM,nV aA.jump,nV aA.on,aN] (aA : Block_))]) [1] rfl rfl
   refine gf0 rfl (λa hf=>e_putElem (x1 := (aA : Block_)) (vs := [aL,aM,nV aA.jump,nV aA.on,aN]) 0 hf hm rfl aF rfl sizeOf49 rfl rfl rfl rfl) ?_
   rintro _ w hm
   have bF := List.getElem?_set_self (a := (aA : Block_)) (idx_lt aF)
   exact gE (gR (gM rfl (gP (by omega) (by omega) rfl (gA rfl (gE (gze hm [0] rfl))))))
  repeat clear hm
  intro bG bH w hm bJ bK
  exact gS (gS (gR (gM rfl (gM rfl (gY (yV st_69 rfl) (gB rfl (gE (go _ 11 rfl (decide_eq_false (by omega)) (gcf rfl (gXt (gHh (gS (gR (gM rfl (gA rfl (gE (gRt (gr1 results87 rfl ⟨.slice aG aC.length aD,rfl,hm.pk [0] rfl rfl⟩))))))))))))))))))
theorem laws_toCode_ok (w0 : World) (a_ : Code_) (v1 : Value) (h1 : GT.rep (hp w0) [v1] a_.blocks) :
    ConM Tryz.prog 50 [(.agg #[nV a_.params,nV a_.regs,v1])] w0 (laws_toCode a_) λr v w'=>∃ (x1 : Value),v = (.agg #[nV r.params,nV r.regs,x1]) ∧ Mem w0 (hp w0) w' [ow [x1] r.blocks] := by
  unfold laws_toCode
  refine gcon func50 rfl λr=>?_
  have hm := Mem.start w0
  refine gS (gR (gBx hm rfl λaC w hm=>gAl hm zeroValue44 rfl λaD w hm=>gE (gS (gR (gAl hm zeroValue44 rfl λaE w hm=>gE (gS (gR (gF fo_71_0 rfl (gL hm 2 isAgg3 rfl (gF fo_44_0 rfl (gS1 hm 0 sizeOf3 rfl rfl λw hm=>gE (gS (gR (gF fo_71_1 rfl (gL hm 2 isAgg3 rfl (gF fo_44_1 rfl (gS1 hm 0 sizeOf3 rfl rfl λw hm=>gE (gS (gR (gF fo_71_2 rfl (gL hm 2 isAgg69 rfl (gCg rfl call87 (laws_toBlockS_ok _ a_.blocks v1 (hm.now h1)) ?_))))))))))))))))))))))
  rintro aF aG aA w ⟨_,rfl,hB⟩
  replace hm := hm.give hB; clear hB
  exact gF fo_44_2 rfl (gS1 hm 1 sizeOf42 (rep_one (hm.ow_rep 0 rfl)) rfl λw hm=>gE (gS (gR (gY (yn (hm.blk_at 1 rfl) isAgg44 sizeOf44 rfl) (gSN hm 2 sizeOf44 (one_cons rfl (one_cons rfl (one_cons (rep_one (hm.ow_rep 0 rfl)) one_nil))) rfl λw hm=>gE (gRt (grc 2 results50 hm rfl isAgg44 sizeOf44 ⟨aA,rfl,hm.pk [0] rfl rfl⟩)))))))
theorem laws_toCodeS_ok (w0 : World) (a_ : List Code_) (v1 : Value) (h1 : GT.rep (hp w0) [v1] a_) :
    ConM Tryz.prog 23 [v1] w0 (laws_toCodeS a_) λr v w'=>∃ (x1 : Value),v = x1 ∧ Mem w0 (hp w0) w' [ow [x1] r] := by
  unfold laws_toCodeS
  refine gcon func23 rfl λr=>?_
  have hm := Mem.start w0
  refine gS (gR (gA rfl (gE (gS (gR (gM rfl ?_))))))
  obtain ⟨aP,aQ,rfl,ab⟩ := ro_slice h1
  refine gY (yV st_22 rfl) (gb λaC aR=>?_)
  obtain ⟨⟨aS,aT⟩,aM⟩ := makeM_some.1 aR
  refine gf rfl (λa hf=>e_make (x0 := ((⟨0,0,[]⟩ : Code_) : Code_)) et_26 (λ_=>⟨[nV 0],[nV 0,.slice none 0 0],rfl,λ_=>False,λ_=>False,λ_ h=>h.elim,λ_ h=>h.elim,λ_ h=>h.elim,(Flat.own_iff.2 rfl),⟨[nV 0],[.slice none 0 0],rfl,λ_=>False,λ_=>False,λ_ h=>h.elim,λ_ h=>h.elim,λ_ h=>h.elim,(Flat.own_iff.2 rfl),(own_list.2 (.inl ⟨rfl,rfl⟩))⟩⟩) hf hm rfl rfl rfl aS (Int.le_refl _) aT) ?_
  rintro ac w hm
  rw [aM] at hm
  have h0_1l : (aC.length : Int) = (a_.length : Int) := by rw [← aM]; simp only [List.length_replicate]; omega
  refine gA rfl (gE (gS (gS (gR (gA rfl (gE ?_))))))
  obtain ⟨aG,aD,rfl,ae⟩ := ro_slice (hm.ow_rep 0 rfl)
  refine gBk (gNf hm (λaH aE=>[(0,(.slice aP a_.length aQ)),(3,(.slice aG aC.length aD)),(4,(nV aH))]) (λaH aE=>[ow [.slice aG aC.length aD] aE]) [0] rfl ?_ ?_)
  ·repeat clear hm
   intro _ _ aH aE w hm af ah ai _
   refine gS (gS (gR (gM rfl (gM rfl (gY (yV st_22 rfl) (gB rfl (gE (go _ 11 rfl (decide_eq_true (by omega)) (gct rfl (gSk (gS (gBk (gR (gM rfl (gM rfl (gM rfl (gM rfl (gg λaV aW aJ=>?_))))))))))))))))))
   obtain ⟨aj,ak,al,he⟩ := idx_form' h1 aJ
   obtain ⟨rfl,_,rfl⟩ := sl3 he
   obtain ⟨aX,aY,aZ⟩ := rk_Code_ h1 aJ
   refine gI st_22 aW (idx_lt aJ) rfl (gY (yn (aY.mono hm.lez) isAgg71 sizeOf71 rfl) (gCg rfl call50 (laws_toCode_ok _ aV aX (hm.now aZ)) ?_))
   rintro aA am an w ⟨aL,rfl,hB⟩
   replace hm := hm.give hB; clear hB
   refine gg λao aa aF=>?_
   obtain ⟨aN,aO,ap,he⟩ := idx_form' (hm.ow_rep 1 rfl) aF
   obtain ⟨rfl,_,rfl⟩ := sl3 he
   obtain ⟨aq,ar,au⟩ := rk_Code_ (hm.ow_rep 1 rfl) aF
   have hL1_1 := rep_slice_len (hm.ow_rep 1 rfl)
   refine gI st_26 aa (idx_lt2 aF hL1_1) rfl ?_
   replace hm : Mem w0 (hp w0) _ [ow [nV aA.params,nV aA.regs,aL] (aA : Code_),ow [sV aN aO aC.length aD] aE] := mk_Code_ aA.params aA.regs hm 0 rfl
   replace hm := (hm.both 1 0 (by decide) rfl rfl).pk (L' := [both (ow [sV aN aO aC.length aD] aE) (ow [nV aA.params,nV aA.regs,aL] (aA : Code_))]) [1] rfl rfl
   refine gf0 rfl (λa hf=>e_putElem (x1 := (aA : Code_)) (vs := [nV aA.params,nV aA.regs,aL]) 0 hf hm rfl aF rfl sizeOf44 rfl rfl rfl rfl) ?_
   rintro _ w hm
   have av := List.getElem?_set_self (a := (aA : Code_)) (idx_lt aF)
   exact gE (gR (gM rfl (gP (by omega) (by omega) rfl (gA rfl (gE (gze hm [0] rfl))))))
  repeat clear hm
  intro aw ax w hm ay az
  exact gS (gS (gR (gM rfl (gM rfl (gY (yV st_22 rfl) (gB rfl (gE (go _ 11 rfl (decide_eq_false (by omega)) (gcf rfl (gXt (gHh (gS (gR (gM rfl (gA rfl (gE (gRt (gr1 results23 rfl ⟨.slice aG aC.length aD,rfl,hm.pk [0] rfl rfl⟩))))))))))))))))))
theorem laws_toUnit_ok (w0 : World) (a_ : Unit_) (v1 : Value) (h1 : GT.rep (hp w0) [v1] a_.codes) :
    ConM Tryz.prog 8 [(.agg #[v1])] w0 (laws_toUnit a_) λr v w'=>∃ (x1 : Value),v = (.agg #[x1]) ∧ Mem w0 (hp w0) w' [ow [x1] r.codes] := by
  unfold laws_toUnit
  refine gcon func8 rfl λr=>?_
  have hm := Mem.start w0
  refine gS (gR (gBx hm rfl λaC w hm=>gAl hm zeroValue28 rfl λaD w hm=>gE (gS (gR (gAl hm zeroValue28 rfl λaE w hm=>gE (gS (gR (gF fo_24_0 rfl (gL hm 2 isAgg22 rfl (gCg rfl call23 (laws_toCodeS_ok _ a_.codes v1 (hm.now h1)) ?_))))))))))
  rintro aF aG aA w ⟨_,rfl,hB⟩
  replace hm := hm.give hB; clear hB
  exact gF fo_28_0 rfl (gS1 hm 1 sizeOf26 (rep_one (hm.ow_rep 0 rfl)) rfl λw hm=>gE (gS (gR (gY (yn (hm.blk_at 1 rfl) isAgg28 sizeOf28 rfl) (gSN hm 2 sizeOf28 (one_cons (rep_one (hm.ow_rep 0 rfl)) one_nil) rfl λw hm=>gE (gRt (grc 2 results8 hm rfl isAgg28 sizeOf28 ⟨aA,rfl,hm.pk [0] rfl rfl⟩)))))))
theorem spec_l1In_ok (w0 : World) (n_ : Int) (low : Int) (high : Int) :
    ConM Tryz.prog 19 [nV n_,nV low,nV high] w0 (spec_l1In n_ low high) λr v w'=>v = (.bool (r)) ∧ Below w0.heap.size w0 w' := by
  unfold spec_l1In
  refine gcon func19 rfl λr=>?_
  have hm := Mem.start w0
  refine gS (gR (gA rfl (gE (gS (gJ hm (λaA=>[(6,(.bool (aA)))]) (λaA=>[]) (λaA=>?_) ?_)))))
  ·refine gR (gM rfl (gM rfl (gB rfl (gM rfl (gsd 10 rfl (fun aC => ?_) fun aC => ?_)))))
   ·exact gM rfl (gM rfl (gB rfl (gKt rfl (gA rfl (gE (gz hm [] rfl))))))
   exact gO rfl (gO rfl (gO rfl (gKf rfl (gA rfl (gE (gz hm [] rfl))))))
  repeat clear hm
  intro aA w hm
  exact gRt (gr1 results19 rfl ⟨rfl,hm.below⟩)
theorem spec_l7Regs_ok (w0 : World) (c_ : Code_) (v1 : Value) (h1 : GT.rep (hp w0) [v1] c_.blocks) (list : List Int) (v2 : Value) (h2 : GT.rep (hp w0) [v2] list) :
    ConM Tryz.prog 86 [(.agg #[nV c_.params,nV c_.regs,v1]),v2] w0 (spec_l7Regs c_ list) λr v w'=>v = (.bool (r)) ∧ Below w0.heap.size w0 w' := by
  unfold spec_l7Regs
  refine gcon func86 rfl λr=>?_
  have hm := Mem.start w0
  refine gS (gR (gBx hm rfl λaA w hm=>gA rfl (gE (gS (gS (gR (gA rfl (gE (gBk (gNf hm (λaC aE=>[(1,v2),(2,(pV aA)),(5,(nV aC))]) (λaC aE=>[blk aA [nV c_.params,nV c_.regs,v1] 44]) [0] rfl ?_ ?_))))))))))
  ·repeat clear hm
   intro aN aG aC aE w hm aO aP aQ aH
   refine gS (gS (gR (gM rfl (gM rfl ?_))))
   obtain ⟨aR,aS,rfl,aT⟩ := ro_slice h2
   refine gY (yV st_47 rfl) (gB rfl (gE (go _ 9 rfl (decide_eq_true (by omega)) (gct rfl (gSk (gS (gBk (gS (gW (.p 0 (.p 1 (.p 2 (.p 4 (.q 3 (.e 5 (.p 6 (.e 7 (.p 8 .fin) .nil)) .nil)))))) [5] [0,1,2,4,6,8] hm [0] [blk aA [nV c_.params,nV c_.regs,v1] 44] rfl mxo (by kernel_rfl) (λ_ _ _ h=>h.2) λw hm hS=>tP rfl (λw=>yM rfl) (tP rfl (λw=>yM rfl) (gg λaF aJ aD=>?_)))))))))))
   obtain ⟨aV,aW,aX,he⟩ := idx_form h2 aD
   obtain ⟨rfl,_,rfl⟩ := sl3 he
   refine tP rfl (λw=>yI st_47 aJ (idx_lt aD) rfl) (tP rfl (λw=>yF fo_44_1 rfl) (tQ rfl hS (λw hm=>yl isAgg3 ((flat_cells (cs := [nV aF]) (hm.now h2) aD rfl).cell (j := 0) rfl) rfl) (tO (tY rfl (yL hm 0 isAgg3 rfl) (tAs hS (tP rfl (λw=>yB rfl) (tO (gb λaY aL=>tf rfl rfl (λa hf=>e_call hf rfl call19 rfl (spec_l1In_ok _ aF 0 (w64 (c_.regs - 1)) _ aL)) ?_))))))))
   rintro aZ w ⟨rfl,hB⟩
   replace hm := hm.below' hB; clear hB
   refine tAn rfl (tP rfl (λw=>yN rfl) (tE (gsn 20 rfl (λaM=>?_) λaM=>?_)))
   ·exact gct rfl (gS (gR (gA rfl (gE (gRt (gLr aH aG (gr1 results86 rfl ⟨rfl,hm.below⟩)))))))
   exact gcf rfl (gSk (gR (gM rfl (gP (by omega) (by omega) rfl (gA rfl (gE (gze hm [0] rfl)))))))
  repeat clear hm
  intro aa ab w hm ac ae
  refine gS (gS (gR (gM rfl (gM rfl ?_))))
  obtain ⟨af,ah,rfl,ai⟩ := ro_slice h2
  exact gY (yV st_47 rfl) (gB rfl (gE (go _ 9 rfl (decide_eq_false (by omega)) (gcf rfl (gXt (gHh (gS (gR (gA rfl (gE (gRt (gr1 results86 rfl ⟨rfl,hm.below⟩))))))))))))
theorem spec_l7Makes_ok (w0 : World) (op : Int) :
    ConM Tryz.prog 80 [nV op] w0 (spec_l7Makes op) λr v w'=>v = (.bool (r)) ∧ Below w0.heap.size w0 w' := by
  unfold spec_l7Makes
  refine gcon func80 rfl λr=>?_
  have hm := Mem.start w0
  refine gS (gR (gA rfl (gE (gS (gJ hm (λaA=>[(2,(.bool (aA)))]) (λaA=>[]) (λaA=>?_) ?_)))))
  ·refine gR (gM rfl (gC hm rfl call19 (spec_l1In_ok _ op 1 14) fun aE aF w hm => gM rfl (gs 5 rfl (fun aC => ?_) fun aC => ?_)))
   ·refine gM rfl (gB rfl (gKt rfl (gM rfl (gsd 9 rfl (fun aD => ?_) fun aD => ?_))))
    ·exact gM rfl (gB rfl (gKt rfl (gA rfl (gE (gz hm [] rfl)))))
    exact gO rfl (gO rfl (gKf rfl (gA rfl (gE (gz hm [] rfl)))))
   exact gO rfl (gO rfl (gKf rfl (gM rfl (gO rfl (gO rfl (gKf rfl (gA rfl (gE (gz hm [] rfl)))))))))
  repeat clear hm
  intro aA w hm
  exact gRt (gr1 results80 rfl ⟨rfl,hm.below⟩)
theorem spec_l7Args_ok (w0 : World) (op : Int) :
    ConM Tryz.prog 143 [nV op] w0 (spec_l7Args op) λr v w'=>v = (nV r) ∧ Below w0.heap.size w0 w' := by
  unfold spec_l7Args
  refine gcon func143 rfl λr=>?_
  have hm := Mem.start w0
  refine gS (gR (gA rfl (gE (gS (gBk (gS (gR (gM rfl (gB rfl (gA rfl (gE (gsd 3 rfl (λaD=>?_) λaD=>?_))))))))))))
  ·exact gct rfl (gS (gR (gA rfl (gE (gRt (gr1 results143 rfl ⟨rfl,hm.below⟩))))))
  refine gcf rfl (gS (gJ hm (λaA=>[(0,(nV op)),(6,(.bool (aA)))]) (λaA=>[]) (λaA=>?_) ?_))
  ·refine gR (gM rfl (gB rfl (gM rfl (gsd 9 rfl (fun aE => ?_) fun aE => ?_))))
   ·exact gO rfl (gO rfl (gKt rfl (gM rfl (gO rfl (gO rfl (gKt rfl (gM rfl (gO rfl (gO rfl (gKt rfl (gA rfl (gE (gz hm [] rfl)))))))))))))
   refine gM rfl (gB rfl (gKf rfl (gM rfl (gsd 13 rfl (λaF=>?_) λaF=>?_))))
   ·exact gO rfl (gO rfl (gKt rfl (gM rfl (gO rfl (gO rfl (gKt rfl (gA rfl (gE (gz hm [] rfl)))))))))
   refine gM rfl (gB rfl (gKf rfl (gM rfl (gsd 17 rfl (λaG=>?_) λaG=>?_))))
   ·exact gO rfl (gO rfl (gKt rfl (gA rfl (gE (gz hm [] rfl)))))
   exact gM rfl (gB rfl (gKf rfl (gA rfl (gE (gz hm [] rfl)))))
  repeat clear hm
  intro aA w hm
  refine gs 6 rfl (λaH=>?_) λaH=>?_
  ·exact gct rfl (gS (gR (gA rfl (gE (gRt (gr1 results143 rfl ⟨rfl,hm.below⟩))))))
  refine gcf rfl (gS (gJ hm (λaC=>[(21,(.bool (aC)))]) (λaC=>[]) (λaC=>?_) ?_))
  ·refine gR (gM rfl (gC hm rfl call19 (spec_l1In_ok _ op 3 9) fun aM aN w hm => gM rfl (gs 24 rfl (fun aJ => ?_) fun aJ => ?_)))
   ·exact gO rfl (gO rfl (gKt rfl (gA rfl (gE (gz hm [] rfl)))))
   exact gM rfl (gB rfl (gKf rfl (gA rfl (gE (gz hm [] rfl)))))
  repeat clear hm
  intro aC w hm
  refine gs 21 rfl (λaL=>?_) λaL=>?_
  ·exact gct rfl (gS (gR (gA rfl (gE (gRt (gr1 results143 rfl ⟨rfl,hm.below⟩))))))
  exact gcf rfl (gSk (gS (gR (gA rfl (gE (gRt (gr1 results143 rfl ⟨rfl,hm.below⟩)))))))
theorem spec_l7Ins_ok (w0 : World) (u : Unit_) (v1 : Value) (h1 : GT.rep (hp w0) [v1] u.codes) (k_ : Int) (x_ : Ins_) (v2 : Value) (h2 : GT.rep (hp w0) [v2] x_.args) :
    ConM Tryz.prog 85 [(.agg #[v1]),nV k_,(.agg #[nV x_.op,nV x_.to,v2,nV x_.n_])] w0 (spec_l7Ins u k_ x_) λr v w'=>v = (.bool (r)) ∧ Below w0.heap.size w0 w' := by
  unfold spec_l7Ins
  refine gcon func85 rfl λr=>?_
  have hm := Mem.start w0
  refine gS (gR (gBx hm rfl λaA w hm=>gBx hm rfl λaC w hm=>gA rfl (gE (gS (gR (gF fo_28_0 rfl (gL hm 1 isAgg26 rfl (gM rfl (gg λaD aS aN=>?_)))))))))
  obtain ⟨aE,aF,aG,he⟩ := idx_form' h1 aN
  subst he
  obtain ⟨aO,aT,aQ⟩ := rk_Code_ h1 aN
  refine gI st_26 aS (idx_lt aN) rfl (gY (yn (aT.mono hm.lez) isAgg44 sizeOf44 rfl) (gAl hm zeroValue44 rfl λaP w hm=>gSN hm 0 sizeOf44 (one_cons rfl (one_cons rfl (one_cons (rep_one aQ) one_nil))) rfl λw hm=>gE (gS (gS (gJ hm (λaH=>[(1,(nV k_)),(3,(pV aA)),(5,(pV aC)),(7,(pV aP)),(23,(.bool (aH)))]) (λaH=>[blk aA [sV aE aF u.codes.length aG] 28,blk aC [nV x_.op,nV x_.to,v2,nV x_.n_] 51,blk aP [nV aD.params,nV aD.regs,aO] 44]) (λaH=>?_) ?_)))))
  ·refine gR (gF fo_51_0 rfl (gL hm 1 isAgg3 rfl (gC hm rfl call19 (spec_l1In_ok _ x_.op 1 14) fun ap aq w hm => gN rfl (gM rfl (gsn 17 rfl (fun aV => ?_) fun aV => ?_)))))
   ·exact gO rfl (gO rfl (gO rfl (gO rfl (gO rfl (gKt rfl (gE (gz hm [2,1,0] rfl)))))))
   exact gY (yn (hm.blk_at 0 rfl) isAgg44 sizeOf44 rfl) (gF fo_51_2 rfl (gL hm 1 isAgg47 rfl (gC hm rfl call86 (spec_l7Regs_ok _ aD aO (hm.now aQ) x_.args v2 (hm.now h2)) λar au w hm=>gN rfl (gKf rfl (gE (gz hm [2,1,0] rfl))))))
  repeat clear hm
  intro aH w hm
  refine gs 23 rfl (λaW=>?_) λaW=>?_
  ·exact gct rfl (gS (gR (gA rfl (gE (gRt (gr1 results85 rfl ⟨rfl,hm.below⟩))))))
  refine gcf rfl (gSk (gS (gS (gJ hm (λaJ=>[(1,(nV k_)),(3,(pV aA)),(5,(pV aC)),(44,(.bool (aJ)))]) (λaJ=>[blk aA [sV aE aF u.codes.length aG] 28,blk aC [nV x_.op,nV x_.to,v2,nV x_.n_] 51]) (λaJ=>?_) ?_))))
  ·refine gW (.p 0 (.p 3 (.p 5 (.q 1 (.q 4 (.q 6 (.p 7 (.e 2 (.e 8 (.p 9 (.p 10 (.p 11 (.e 12 (.e 13 (.p 14 (.p 15 (.p 16 (.e 17 (.p 18 (.p 19 (.p 20 .fin))) .nil)))) .nil) .nil)))) .nil) .nil)))))))) [1, 2, 4, 6] [0, 3, 5, 7, 9, 10, 11, 14, 15, 16, 18, 19, 20] hm [0, 1, 2] [blk aA [sV aE aF u.codes.length aG] 28, blk aC [nV x_.op, nV x_.to, v2, nV x_.n_] 51, blk aP [nV aD.params, nV aD.regs, aO] 44] rfl mxo (by kernel_rfl) (fun _ _ _ h => h.2) fun w hm hS => tP rfl (fun w => yF fo_51_0 rfl) (tP rfl (fun w => yF fo_51_1 rfl) (tP rfl (fun w => yF fo_44_1 rfl) (tQ rfl hS (fun w hm => yL hm 1 isAgg3 rfl) (tQ rfl hS (fun w hm => yL hm 1 isAgg3 rfl) (tQ rfl hS (fun w hm => yL hm 2 isAgg3 rfl) (tP rfl (fun w => yB rfl) (tO (gb fun av aX => tf rfl rfl (fun a hf => e_call hf rfl call80 rfl (spec_l7Makes_ok _ x_.op _ aX)) ?_))))))))
   rintro aw w ⟨rfl,hB⟩
   replace hm := hm.below' hB; clear hB
   refine tAk hm [0,1,2] rfl λhS=>tO (gb λax aY=>tf rfl rfl (λa hf=>e_call hf rfl call19 rfl (spec_l1In_ok _ x_.to 0 (w64 (aD.regs - 1)) _ aY)) ?_)
   rintro ay w ⟨rfl,hB⟩
   replace hm := hm.below' hB; clear hB
   refine tAn rfl (tP rfl (λw=>yG rfl (y_neqb underlying4 rfl rfl rfl)) (tP rfl (λw=>yM rfl) (gsd 34 rfl (λaZ=>?_) λaZ=>?_)))
   ·exact tPo rfl rfl (tO (tEo rfl rfl (tAn rfl (tO (tEo rfl rfl (tAn rfl (tPo rfl rfl (tPo rfl rfl (tPo rfl rfl (tO (tEo rfl rfl (tAn rfl (tPo rfl rfl (tPo rfl rfl (tP rfl (λw=>yKt rfl) (tE (gz hm [0,1] rfl)))))))))))))))))
   refine tP rfl (λw=>yF fo_51_0 rfl) (tO (tY rfl (yL hm 1 isAgg3 rfl) (tAn rfl (tO (gb λaz aa=>tf rfl rfl (λa hf=>e_call hf rfl call80 rfl (spec_l7Makes_ok _ x_.op _ aa)) ?_)))))
   rintro bA w ⟨rfl,hB⟩
   replace hm := hm.below' hB; clear hB
   refine tAn rfl (tP rfl (λw=>yN rfl) (tP rfl (λw=>yM rfl) (gsn 39 rfl (λab=>?_) λab=>?_)))
   ·exact tP rfl (λw=>yF fo_51_1 rfl) (tO (tY rfl (yL hm 1 isAgg3 rfl) (tAn rfl (tP rfl (λw=>yB rfl) (tP rfl (λw=>yKt rfl) (tP rfl (λw=>yKf rfl) (tE (gz hm [0,1] rfl))))))))
   exact tPo rfl rfl (tO (tEo rfl rfl (tAn rfl (tPo rfl rfl (tP rfl (λw=>yKf rfl) (tP rfl (λw=>yKf rfl) (tE (gz hm [0,1] rfl))))))))
  repeat clear hm
  intro aJ w hm
  refine gs 44 rfl (λac=>?_) λac=>?_
  ·exact gct rfl (gS (gR (gA rfl (gE (gRt (gr1 results85 rfl ⟨rfl,hm.below⟩))))))
  refine gcf rfl (gSk (gS (gS (gR (gF fo_51_0 rfl (gL hm 1 isAgg3 rfl (gB rfl (gE (gsd 47 rfl (λae=>?_) λae=>?_)))))))))
  ·refine gct rfl (gS (gJ hm (fun aL => [(6, (.bool (aL)))]) (fun aL => []) (fun aL => ?_) ?_))
   ·refine gW (.p 0 (.p 2 (.p 3 (.e 1 (.e 4 (.p 5 (.p 6 (.p 9 (.p 11 (.q 7 (.p 8 (.q 10 (.e 12 (.p 13 (.p 14 (.e 15 (.p 16 (.p 17 (.p 18 .fin))) .nil))) .nil)))))))) .nil) .nil)))) [7, 10, 12, 15] [0, 2, 3, 5, 6, 8, 9, 11, 13, 14, 16, 17, 18] hm [0, 1] [blk aA [sV aE aF u.codes.length aG] 28, blk aC [nV x_.op, nV x_.to, v2, nV x_.n_] 51] rfl mxo (by kernel_rfl) (fun _ _ _ h => h.2) fun w hm hS => tP rfl (fun w => yF fo_51_3 rfl) (tP rfl (fun w => yM rfl) (tP rfl (fun w => yB rfl) (tO (tY rfl (yL hm 1 isAgg3 rfl) (tAn rfl (tO (gb fun bB af => tf rfl rfl (fun a hf => e_call hf rfl call19 rfl (spec_l1In_ok _ x_.n_ 0 (w64 (k_ - 1)) _ af)) ?_)))))))
    rintro bC w ⟨rfl,hB⟩
    replace hm := hm.below' hB; clear hB
    refine tAk hm [0,1] rfl λhS=>tP rfl (λw=>yM rfl) (gs 53 rfl (λah=>?_) λah=>?_)
    ·refine tP rfl (fun w => yF fo_51_2 rfl) (tP rfl (fun w => yF fo_28_0 rfl) (tP rfl (fun w => yF fo_51_3 rfl) (tQ rfl hS (fun w hm => yL hm 1 isAgg47 rfl) ?_)))
     obtain ⟨bD,bE,rfl,bF⟩ := ro_slice h2
     refine tP rfl (λw=>yV st_47 rfl) (tQ rfl hS (λw hm=>yL hm 0 isAgg26 rfl) (tO (tY rfl (yL hm 1 isAgg3 rfl) (tAs hS (gg λbG ai aR=>?_)))))
     obtain ⟨bH,aj,bJ⟩ := rk_Code_ h1 aR
     exact tP rfl (λw=>yI st_26 ai (idx_lt aR) rfl) (tP rfl (λw=>yF fo_44_0 rfl) (tO (tY rfl (yl isAgg3 ((aj.mono hm.lez).cell (j := 0) rfl) rfl) (tAs hS (tP rfl (λw=>yB rfl) (tP rfl (λw=>yKt rfl) (tP rfl (λw=>yA rfl) (tE (gz hm [] rfl)))))))))
    exact tPo rfl rfl (tPo rfl rfl (tPo rfl rfl (tQo rfl hS rfl (tPo rfl rfl (tQo rfl hS rfl (tO (tEo rfl rfl (tAs hS (tPo rfl rfl (tPo rfl rfl (tO (tEo rfl rfl (tAs hS (tPo rfl rfl (tP rfl (λw=>yKf rfl) (tP rfl (λw=>yA rfl) (tE (gz hm [] rfl))))))))))))))))))
   repeat clear hm
   intro aL w hm
   exact gRt (gr1 results85 rfl ⟨rfl,hm.below⟩)
  refine gcf rfl (gSk (gS (gJ hm (λaM=>[(6,(.bool (aM)))]) (λaM=>[]) (λaM=>?_) ?_)))
  ·refine gW (.p 0 (.p 3 (.q 1 (.p 2 (.e 4 (.e 5 (.p 6 (.p 7 (.p 8 (.e 9 (.e 10 (.p 11 (.p 12 (.p 13 (.e 14 (.p 15 (.p 16 (.p 17 (.e 18 (.p 19 (.p 20 (.p 21 (.p 22 .fin)))) .nil)))) .nil)))) .nil) .nil)))) .nil) .nil))))) [4, 5] [0, 2, 3, 6, 7, 8, 11, 12, 13, 15, 16, 17, 19, 20, 21, 22] hm [0, 1] [blk aA [sV aE aF u.codes.length aG] 28, blk aC [nV x_.op, nV x_.to, v2, nV x_.n_] 51] rfl mxo (by kernel_rfl) (fun _ _ _ h => h.2) fun w hm hS => tP rfl (fun w => yF fo_51_2 rfl) (tP rfl (fun w => yF fo_51_0 rfl) (tQ rfl hS (fun w hm => yL hm 1 isAgg47 rfl) ?_))
   obtain ⟨bK,bL,rfl,bM⟩ := ro_slice h2
   refine tP rfl (λw=>yV st_47 rfl) (tO (tY rfl (yL hm 1 isAgg3 rfl) (tAs hS (tO (gb λbN ak=>tf rfl rfl (λa hf=>e_call hf rfl call143 rfl (spec_l7Args_ok _ x_.op _ ak)) ?_)))))
   rintro bO w ⟨rfl,hB⟩
   replace hm := hm.below' hB; clear hB
   refine tAk hm [0,1] rfl λhS=>tP rfl (λw=>yB rfl) (tP rfl (λw=>yM rfl) (gsd 73 rfl (λal=>?_) λal=>?_))
   ·refine tP rfl (fun w => yF fo_51_3 rfl) (tO (tY rfl (yL hm 1 isAgg3 rfl) (tAn rfl (tO (gb fun bP am => tf rfl rfl (fun a hf => e_call hf rfl call19 rfl (spec_l1In_ok _ x_.n_ 0 255 _ am)) ?_)))))
    rintro bQ w ⟨rfl,hB⟩
    replace hm := hm.below' hB; clear hB
    refine tAn rfl (tP rfl (λw=>yKt rfl) (tP rfl (λw=>yM rfl) (gs 78 rfl (λan=>?_) λan=>?_)))
    ·refine tP rfl (fun w => yF fo_51_3 rfl) (tO (tY rfl (yL hm 1 isAgg3 rfl) (tAn rfl (tP rfl (fun w => yB rfl) (tP rfl (fun w => yM rfl) (gsd 82 rfl (fun ao => ?_) fun ao => ?_))))))
     ·exact tPo rfl rfl (tO (tEo rfl rfl (tAn rfl (tPo rfl rfl (tP rfl (λw=>yKt rfl) (tP rfl (λw=>yKt rfl) (tP rfl (λw=>yA rfl) (tE (gz hm [] rfl)))))))))
     exact tP rfl (λw=>yF fo_51_0 rfl) (tO (tY rfl (yL hm 1 isAgg3 rfl) (tAn rfl (tP rfl (λw=>yB rfl) (tP rfl (λw=>yKf rfl) (tP rfl (λw=>yKt rfl) (tP rfl (λw=>yA rfl) (tE (gz hm [] rfl)))))))))
    exact tPo rfl rfl (tO (tEo rfl rfl (tAn rfl (tPo rfl rfl (tPo rfl rfl (tPo rfl rfl (tO (tEo rfl rfl (tAn rfl (tPo rfl rfl (tPo rfl rfl (tP rfl (λw=>yKf rfl) (tP rfl (λw=>yA rfl) (tE (gz hm [] rfl)))))))))))))))
   exact tPo rfl rfl (tO (tEo rfl rfl (tAn rfl (tO (tEo rfl rfl (tAn rfl (tP rfl (λw=>yKf rfl) (tP rfl (λw=>yM rfl) (tPo rfl rfl (tO (tEo rfl rfl (tAn rfl (tPo rfl rfl (tPo rfl rfl (tPo rfl rfl (tO (tEo rfl rfl (tAn rfl (tPo rfl rfl (tPo rfl rfl (tP rfl (λw=>yKf rfl) (tP rfl (λw=>yA rfl) (tE (gz hm [] rfl))))))))))))))))))))))))
  repeat clear hm
  intro aM w hm
  exact gRt (gr1 results85 rfl ⟨rfl,hm.below⟩)
theorem spec_l7Preds_ok (w0 : World) (c_ : Code_) (v1 : Value) (h1 : GT.rep (hp w0) [v1] c_.blocks) (b_ : Int) :
    ConM Tryz.prog 83 [(.agg #[nV c_.params,nV c_.regs,v1]),nV b_] w0 (spec_l7Preds c_ b_) λr v w'=>∃ (x1 : Value),v = x1 ∧ Mem w0 (hp w0) w' [ow [x1] r] := by
  unfold spec_l7Preds
  refine gcon func83 rfl λr=>?_
  have hm := Mem.start w0
  refine gS (gR (gBx hm rfl λaC w hm=>gA rfl (gE (gS (gR (gf rfl (λa hf=>e_build0 (α := Int) et_47 hm rfl) ?_))))))
  rintro aj w hm
  refine gA rfl (gE (gS (gS (gR (gA rfl (gE ?_))))))
  obtain ⟨aW,aX,rfl,ak⟩ := ro_slice (hm.ow_rep 0 rfl)
  refine gBk (gNg (λaA aD a w=>∃ (aG : Value),St 43 [(1,(nV b_)),(2,(pV aC)),(5,aG),(6,(nV aA))] w0 (hp w0) [blk aC [nV c_.params,nV c_.regs,v1] 44,ow [aG] aD] a w) (λa hf=>⟨.slice aW ([] : List Int).length aX,hf.sb rfl,hm.pk [1,0] rfl rfl⟩) ?_ ?_)
  ·repeat clear hm
   rintro _ _ aA aD a w ⟨aG,hf,hm⟩ al am an _
   refine gv hf (gS (gS (gR (gM rfl (gF fo_44_2 rfl (gL hm 0 isAgg42 rfl ?_))))))
   obtain ⟨aP,aQ,rfl,ao⟩ := ro_slice h1
   refine gY (yV st_42 rfl) (gB rfl (gE (go _ 13 rfl (decide_eq_true (by omega)) (gct rfl (gSk (gS (gBk (gS (gR (gA rfl (gE ?_)))))))))))
   obtain ⟨aH,aJ,rfl,ap⟩ := ro_slice (hm.ow_rep 1 rfl)
   refine gJg (λaL a w=>∃ (aE : Value),St 43 [(1,(nV b_)),(2,(pV aC)),(5,aE),(6,(nV aA))] w0 (hp w0) [blk aC [nV c_.params,nV c_.regs,.slice aP c_.blocks.length aQ] 44,ow [aE] aL] a w) (λaL=>?_) ?_
   ·refine gBk (gMf hm (fun aM => [(1, (nV b_)), (2, (pV aC)), (5, (.slice aH aD.length aJ)), (6, (nV aA)), (7, (nV aM))]) (fun aM => [blk aC [nV c_.params, nV c_.regs, .slice aP c_.blocks.length aQ] 44, ow [.slice aH aD.length aJ] aD]) [0, 1] rfl ?_)
    repeat clear hm
    intro aq aR aM w hm ar aS
    refine gS (gS (gR (gM rfl (gF fo_44_2 rfl (gL hm 0 isAgg42 rfl (gM rfl (gg λau aT aF=>?_)))))))
    obtain ⟨av,aw,ax,he⟩ := idx_form' h1 aF
    obtain ⟨rfl,_,rfl⟩ := sl3 he
    obtain ⟨ay,az,bA,aV,bB,bC,aN⟩ := rk_Block_ h1 aF
    refine gI st_42 aT (idx_lt aF) rfl (gF fo_49_4 rfl (gY (yl isAgg47 ((aV.mono hm.lez).cell (j := 4) rfl) rfl) ?_))
    obtain ⟨bD,bE,rfl,bF⟩ := ro_slice aN
    refine gY (yV st_47 rfl) (gB rfl (gE (gsd 24 rfl (λaY=>?_) λaY=>?_)))
    ·refine gct rfl (gSk (gS (gBk (gS (gR (gF fo_44_2 rfl (gL hm 0 isAgg42 rfl (gM rfl (gI st_42 aT (idx_lt aF) rfl (gF fo_49_4 rfl (gY (yl isAgg47 ((aV.mono hm.lez).cell (j := 4) rfl) rfl) (gM rfl (gg fun aZ aa aO => ?_)))))))))))))
     obtain ⟨bG,bH,bJ,he⟩ := idx_form aN aO
     obtain ⟨rfl,_,rfl⟩ := sl3 he
     refine gI st_47 aa (idx_lt aO) rfl (gY (yl isAgg3 ((flat_cells (cs := [nV aZ]) (hm.now aN) aO rfl).cell (j := 0) rfl) rfl) (gM rfl (gB rfl (gE (gsd 37 rfl (λab=>?_) λab=>?_)))))
     ·refine gct rfl (gS (gR (gM rfl (gM rfl (gf rfl (fun a hf => e_build (vs := #[(0, (nV aA))]) (cs := [nV aA]) et_47 hf hm rfl rfl (by kernel_rfl) rfl rfl) ?_)))))
      rintro _ w ⟨bK,rfl,hm⟩
      replace hm := hm.lit (xs := ([aA] : List Int)) 0 rfl rfl rfl rfl
      refine gb λbL ac=>?_
      obtain ⟨ae,af⟩ := appM_some.1 ac
      refine gf rfl (λa hf=>e_append 2 et_47 hf hm rfl (hm.ow_rep 0 rfl) rfl rfl rfl ae) ?_
      rintro ah w hm
      rw [af] at hm
      exact gA rfl (gE (gXt (gHm rfl (gHh (gLp aS aR (gZ λa hf=>⟨ah,hf.sb rfl,hm.pk [1,2] rfl rfl⟩))))))
     exact gcf rfl (gSk (gR (gM rfl (gB rfl (gA rfl (gE (gze hm [0,1] rfl)))))))
    exact gcf rfl (gXt (gHh (gLp aS aR (gZ λa hf=>⟨.slice aH aD.length aJ,hf.sb rfl,hm.pk [0,1] rfl rfl⟩))))
   repeat clear hm
   rintro aL a w ⟨aE,hf,hm⟩
   exact gv hf (gR (gM rfl (gP (by omega) (by omega) rfl (gA rfl (gE (gZe λa hf=>⟨aE,hf.sb rfl,hm.pk [0,1] rfl rfl⟩))))))
  repeat clear hm
  rintro bM bN a w ⟨ai,hf,hm⟩ bO bP
  refine gv hf (gS (gS (gR (gM rfl (gF fo_44_2 rfl (gL hm 0 isAgg42 rfl ?_))))))
  obtain ⟨bQ,bR,rfl,bS⟩ := ro_slice h1
  exact gY (yV st_42 rfl) (gB rfl (gE (go _ 13 rfl (decide_eq_false (by omega)) (gcf rfl (gXt (gHh (gS (gR (gM rfl (gA rfl (gE (gRt (gr1 results83 rfl ⟨ai,rfl,hm.pk [1] rfl rfl⟩)))))))))))))
theorem spec_l7Block_ok (w0 : World) (u : Unit_) (v1 : Value) (h1 : GT.rep (hp w0) [v1] u.codes) (k_ : Int) (b_ : Int) :
    ConM Tryz.prog 49 [(.agg #[v1]),nV k_,nV b_] w0 (spec_l7Block u k_ b_) λr v w'=>v = (.bool (r)) ∧ Below w0.heap.size w0 w' := by
  unfold spec_l7Block
  refine gcon func49 rfl λr=>?_
  have hm := Mem.start w0
  refine gS (gR (gBx hm rfl λaF w hm=>gA rfl (gE (gS (gR (gF fo_28_0 rfl (gL hm 0 isAgg26 rfl (gM rfl (gg λaC bG aj=>?_)))))))))
  obtain ⟨aL,aM,aN,he⟩ := idx_form' h1 aj
  subst he
  obtain ⟨bv,bH,aR⟩ := rk_Code_ h1 aj
  refine gI st_26 bG (idx_lt aj) rfl (gY (yn (bH.mono hm.lez) isAgg44 sizeOf44 rfl) (gAl hm zeroValue44 rfl λaD w hm=>gSN hm 0 sizeOf44 (one_cons rfl (one_cons rfl (one_cons (rep_one aR) one_nil))) rfl λw hm=>gE (gS (gR (gF fo_44_2 rfl (gL hm 0 isAgg42 rfl (gM rfl (gg λaA bJ ak=>?_))))))))
  obtain ⟨aG,aH,aJ,he⟩ := idx_form' aR ak
  subst he
  obtain ⟨aO,aQ,aT,bK,aV,aW,aS⟩ := rk_Block_ aR ak
  refine gI st_42 bJ (idx_lt ak) rfl (gY (yn (bK.mono hm.lez) isAgg49 sizeOf49 rfl) (gAl hm zeroValue49 rfl λaE w hm=>gSN hm 0 sizeOf49 (one_cons (rep_one aV) (one_cons (rep_one aW) (one_cons rfl (one_cons rfl (one_cons (rep_one aS) one_nil))))) rfl λw hm=>gE (gS (gR (gA rfl (gE (gS (gS (gR (gF fo_49_2 rfl (gL hm 0 isAgg3 rfl (gE (gJge (λac a w=>0 ≤ aA.jump ∧ aA.jump ≤ 3 ∧ 0 ≤ ac ∧ ac ≤ 2 ∧ St 136 [(1,(nV k_)),(2,(nV b_)),(3,(pV aF)),(7,(pV aD)),(8,(pV aE)),(9,(nV ac))] w0 (hp w0) [blk aF [sV aL aM u.codes.length aN] 28,blk aD [nV aC.params,nV aC.regs,sV aG aH aC.blocks.length aJ] 44,blk aE [aO,aQ,nV aA.jump,nV aA.on,aT] 49] a w) (λbx ax=>?_) ?_)))))))))))))
  ·refine gBk (gS (gR (gB rfl (gA rfl (gE (gJge (fun ae a w => 0 ≤ aA.jump ∧ aA.jump ≤ 3 ∧ 0 ≤ ae ∧ ae ≤ 2 ∧ St 136 [(1, (nV k_)), (2, (nV b_)), (3, (pV aF)), (7, (pV aD)), (8, (pV aE)), (9, (nV ae))] w0 (hp w0) [blk aF [sV aL aM u.codes.length aN] 28, blk aD [nV aC.params, nV aC.regs, sV aG aH aC.blocks.length aJ] 44, blk aE [aO, aQ, nV aA.jump, nV aA.on, aT] 49] a w) (fun bz ay => ?_) ?_))))))
   ·refine gsd 26 rfl (fun bL => ?_) fun bL => ?_
    ·refine gct rfl (gS (gR (gF fo_49_3 rfl (gL hm 0 isAgg3 rfl (gB rfl (gE (gsd 30 rfl (fun bM => ?_) fun bM => ?_)))))))
     ·exact gct rfl (gS (gR (gA rfl (gE (gRt (gEr ay (gEr ax (gr1 results49 rfl ⟨rfl,hm.below⟩))))))))
     exact gcf rfl (gSk (gZe λa hf=>⟨(by first | omega | (dsimp only; omega)),(by first | omega | (dsimp only; omega)),(by first | omega | (dsimp only; omega)),(by first | omega | (dsimp only; omega)),hf.sb rfl,hm.pk [2,1,0] rfl rfl⟩))
    refine gcf rfl (gS (gR (gB rfl (gA rfl (gE (gJge (λaf a w=>0 ≤ aA.jump ∧ aA.jump ≤ 3 ∧ 0 ≤ af ∧ af ≤ 2 ∧ St 136 [(1,(nV k_)),(2,(nV b_)),(3,(pV aF)),(7,(pV aD)),(8,(pV aE)),(9,(nV af))] w0 (hp w0) [blk aF [sV aL aM u.codes.length aN] 28,blk aD [nV aC.params,nV aC.regs,sV aG aH aC.blocks.length aJ] 44,blk aE [aO,aQ,nV aA.jump,nV aA.on,aT] 49] a w) (λcA bN=>?_) ?_))))))
    ·refine gsd 31 rfl (fun bO => ?_) fun bO => ?_
     ·exact gct rfl (gR (gA rfl (gE (gZe λa hf=>⟨(by first | omega | (dsimp only; omega)),(by first | omega | (dsimp only; omega)),(by first | omega | (dsimp only; omega)),(by first | omega | (dsimp only; omega)),hf.sb rfl,hm.pk [2,1,0] rfl rfl⟩))))
     refine gcf rfl (gS (gR (gB rfl (gA rfl (gE (gsd 33 rfl (λbP=>?_) λbP=>?_))))))
     ·exact gct rfl (gR (gA rfl (gE (gZe λa hf=>⟨(by first | omega | (dsimp only; omega)),(by first | omega | (dsimp only; omega)),(by first | omega | (dsimp only; omega)),(by first | omega | (dsimp only; omega)),hf.sb rfl,hm.pk [2,1,0] rfl rfl⟩))))
     exact gcf rfl (gS (gR (gA rfl (gE (gRt (gEr bN (gEr ay (gEr ax (gr1 results49 rfl ⟨rfl,hm.below⟩)))))))))
    repeat clear hm
    rintro af a w ⟨cB,cC,cD,cE,hf,hm⟩
    exact gv hf (gZe λa hf=>⟨(by first | omega | (dsimp only; omega)),(by first | omega | (dsimp only; omega)),(by first | omega | (dsimp only; omega)),(by first | omega | (dsimp only; omega)),hf.sb rfl,hm.pk [0,1,2] rfl rfl⟩)
   repeat clear hm
   rintro ae a w ⟨cF,cG,cH,cI,hf,hm⟩
   exact gv hf (gZe λa hf=>⟨(by first | omega | (dsimp only; omega)),(by first | omega | (dsimp only; omega)),(by first | omega | (dsimp only; omega)),(by first | omega | (dsimp only; omega)),hf.sb rfl,hm.pk [0,1,2] rfl rfl⟩)
  repeat clear hm
  rintro ac a w ⟨cJ,cK,cL,cM,hf,hm⟩
  refine gv hf (gS (gS (gJg (λal a w=>0 ≤ aA.jump ∧ aA.jump ≤ 3 ∧ St 136 [(1,(nV k_)),(2,(nV b_)),(3,(pV aF)),(7,(pV aD)),(8,(pV aE)),(53,(.bool (al)))] w0 (hp w0) [blk aF [sV aL aM u.codes.length aN] 28,blk aD [nV aC.params,nV aC.regs,sV aG aH aC.blocks.length aJ] 44,blk aE [aO,aQ,nV aA.jump,nV aA.on,aT] 49] a w) (λal=>?_) ?_)))
  ·refine gR (gF fo_49_4 rfl (gL hm 2 isAgg47 rfl ?_))
   obtain ⟨cN,cO,rfl,cP⟩ := ro_slice aS
   refine gY (yV st_47 rfl) (gM rfl (gB rfl (gM rfl (gsd 40 rfl (λbQ=>?_) λbQ=>?_))))
   ·exact gO rfl (gO rfl (gO rfl (gO rfl (gO rfl (gO rfl (gO rfl (gO rfl (gO rfl (gO rfl (gO rfl (gO rfl (gKt rfl (gE (gZ λa hf=>⟨(by first | omega | (dsimp only; omega)),(by first | omega | (dsimp only; omega)),hf.sb rfl,hm.pk [0,1,2] rfl rfl⟩))))))))))))))
   refine gF fo_49_2 rfl (gL hm 2 isAgg3 rfl (gB rfl (gM rfl (gsd 44 rfl (λbR=>?_) λbR=>?_))))
   ·exact gF fo_49_3 rfl (gL hm 2 isAgg3 rfl (gF fo_44_1 rfl (gL hm 1 isAgg3 rfl (gB rfl (gC hm rfl call19 (spec_l1In_ok _ aA.on 0 (w64 (aC.regs - 1))) λcQ cR w hm=>gN rfl (gKt rfl (gKf rfl (gE (gZ λa hf=>⟨(by first | omega | (dsimp only; omega)),(by first | omega | (dsimp only; omega)),hf.sb rfl,hm.pk [0,1,2] rfl rfl⟩)))))))))
   exact gO rfl (gO rfl (gO rfl (gO rfl (gO rfl (gO rfl (gO rfl (gKf rfl (gKf rfl (gE (gZ λa hf=>⟨(by first | omega | (dsimp only; omega)),(by first | omega | (dsimp only; omega)),hf.sb rfl,hm.pk [0,1,2] rfl rfl⟩))))))))))
  repeat clear hm
  rintro al a w ⟨cS,cT,hf,hm⟩
  refine gv hf (gs 53 rfl (λbS=>?_) λbS=>?_)
  ·exact gct rfl (gS (gR (gA rfl (gE (gRt (gr1 results49 rfl ⟨rfl,hm.below⟩))))))
  refine gcf rfl (gSk (gS (gS (gR (gA rfl (gE (gBk (gNf hm (λam az=>[(1,(nV k_)),(2,(nV b_)),(3,(pV aF)),(7,(pV aD)),(8,(pV aE)),(10,(nV am))]) (λam az=>[blk aF [sV aL aM u.codes.length aN] 28,blk aD [nV aC.params,nV aC.regs,sV aG aH aC.blocks.length aJ] 44,blk aE [aO,aQ,nV aA.jump,nV aA.on,aT] 49]) [0,1,2] rfl ?_ ?_))))))))
  ·repeat clear hm
   intro cU bT am az w hm cV cW cX bU
   refine gS (gS (gR (gM rfl (gF fo_49_4 rfl (gL hm 2 isAgg47 rfl ?_)))))
   obtain ⟨bV,bW,rfl,cY⟩ := ro_slice aS
   refine gY (yV st_47 rfl) (gB rfl (gE (go _ 58 rfl (decide_eq_true (by omega)) (gct rfl (gSk (gS (gBk (gS (gW (.p 0 (.p 2 (.p 5 (.q 1 (.p 3 (.q 4 (.e 6 (.p 7 (.p 8 (.e 9 (.p 10 .fin) .nil))) .nil))))))) [6] [0,2,3,5,7,8,10] hm [0,1,2] [blk aF [sV aL aM u.codes.length aN] 28,blk aD [nV aC.params,nV aC.regs,sV aG aH aC.blocks.length aJ] 44,blk aE [aO,aQ,nV aA.jump,nV aA.on,.slice bV aA.next_.length bW] 49] rfl mxo (by kernel_rfl) (λ_ _ _ h=>h.2) λw hm hS=>tP rfl (λw=>yF fo_49_4 rfl) (tP rfl (λw=>yM rfl) (tP rfl (λw=>yF fo_44_2 rfl) (tQ rfl hS (λw hm=>yL hm 2 isAgg47 rfl) (gg λbA bX an=>?_)))))))))))))
   obtain ⟨cZ,c4,c5,he⟩ := idx_form aS an
   obtain ⟨rfl,_,rfl⟩ := sl3 he
   refine tP rfl (λw=>yI st_47 bX (idx_lt an) rfl) (tQ rfl hS (λw hm=>yl isAgg3 ((flat_cells (cs := [nV bA]) (hm.now aS) an rfl).cell (j := 0) rfl) rfl) (tO (tY rfl (yL hm 1 isAgg42 rfl) (tAs hS ?_))))
   have c6 := rep_len aR
   refine tP rfl (λw=>yV st_42 rfl) (tP rfl (λw=>yS (by omega) (by omega) rfl) (tO (gb λc7 bY=>tf rfl rfl (λa hf=>e_call hf rfl call19 rfl (spec_l1In_ok _ bA 1 (((aC.blocks.length : Int)) - 1) _ bY)) ?_)))
   rintro c8 w ⟨rfl,hB⟩
   replace hm := hm.below' hB; clear hB
   refine tAn rfl (tP rfl (λw=>yN rfl) (tE (gsn 71 rfl (λbZ=>?_) λbZ=>?_)))
   ·exact gct rfl (gS (gR (gA rfl (gE (gRt (gLr bU bT (gr1 results49 rfl ⟨rfl,hm.below⟩)))))))
   exact gcf rfl (gSk (gR (gM rfl (gP (by omega) (by omega) rfl (gA rfl (gE (gze hm [0,1,2] rfl)))))))
  repeat clear hm
  intro c9 ca w hm cb cd
  refine gS (gS (gR (gM rfl (gF fo_49_4 rfl (gL hm 2 isAgg47 rfl ?_)))))
  obtain ⟨aX,aY,rfl,ce⟩ := ro_slice aS
  refine gY (yV st_47 rfl) (gB rfl (gE (go _ 58 rfl (decide_eq_false (by omega)) (gcf rfl (gXt (gHh (gS (gS (gR (gA rfl (gE (gBk (gNf hm (λao bB=>[(1,(nV k_)),(2,(nV b_)),(3,(pV aF)),(7,(pV aD)),(8,(pV aE)),(11,(nV ao))]) (λao bB=>[blk aF [sV aL aM u.codes.length aN] 28,blk aD [nV aC.params,nV aC.regs,sV aG aH aC.blocks.length aJ] 44,blk aE [aO,aQ,nV aA.jump,nV aA.on,.slice aX aA.next_.length aY] 49]) [0,1,2] rfl ?_ ?_)))))))))))))
  ·repeat clear hm
   intro cf b6 ao bB w hm cg ci cj b7
   refine gS (gS (gR (gM rfl (gF fo_49_1 rfl (gL hm 2 isAgg46 rfl ?_)))))
   obtain ⟨b8,b9,rfl,ck⟩ := ro_slice aW
   refine gY (yV st_46 rfl) (gB rfl (gE (go _ 76 rfl (decide_eq_true (by omega)) (gct rfl (gSk (gS (gBk (gS (gW (.p 1 (.p 2 (.p 4 (.q 0 (.e 3 (.p 5 (.e 6 (.e 7 (.p 8 .fin) .nil) .nil)) .nil))))) [3,6] [1,2,4,5,8] hm [0,1,2] [blk aF [sV aL aM u.codes.length aN] 28,blk aD [nV aC.params,nV aC.regs,sV aG aH aC.blocks.length aJ] 44,blk aE [aO,.slice b8 aA.ins.length b9,nV aA.jump,nV aA.on,.slice aX aA.next_.length aY] 49] rfl mxo (by kernel_rfl) (λ_ _ _ h=>h.2) λw hm hS=>tP rfl (λw=>yM rfl) (tP rfl (λw=>yF fo_49_1 rfl) (tP rfl (λw=>yM rfl) (tQ rfl hS (λw hm=>yn (hm.blk_at 0 rfl) isAgg28 sizeOf28 rfl) (tO (tY rfl (yL hm 2 isAgg46 rfl) (tAs hS (gg λba bc ap=>?_))))))))))))))))
   obtain ⟨cl,cm,cn,he⟩ := idx_form' aW ap
   obtain ⟨rfl,_,rfl⟩ := sl3 he
   obtain ⟨bd,be,bf⟩ := rk_Ins_ aW ap
   refine tP rfl (λw=>yI st_46 bc (idx_lt ap) rfl) (tO (tY rfl (yn (be.mono hm.lez) isAgg51 sizeOf51 rfl) (tAs hS (tO (gb λco bg=>tf rfl rfl (λa hf=>e_call hf rfl call85 rfl (spec_l7Ins_ok _ u (sV aL aM u.codes.length aN) (hm.now h1) k_ ba bd (hm.now bf) _ bg)) ?_)))))
   rintro cq w ⟨rfl,hB⟩
   replace hm := hm.below' hB; clear hB
   refine tAn rfl (tP rfl (λw=>yN rfl) (tE (gsn 87 rfl (λbh=>?_) λbh=>?_)))
   ·exact gct rfl (gS (gR (gA rfl (gE (gRt (gLr b7 b6 (gr1 results49 rfl ⟨rfl,hm.below⟩)))))))
   exact gcf rfl (gSk (gR (gM rfl (gP (by omega) (by omega) rfl (gA rfl (gE (gze hm [0,1,2] rfl)))))))
  repeat clear hm
  intro cr ct w hm cu cv
  refine gS (gS (gR (gM rfl (gF fo_49_1 rfl (gL hm 2 isAgg46 rfl ?_)))))
  obtain ⟨aq,ar,rfl,cw⟩ := ro_slice aW
  refine gY (yV st_46 rfl) (gB rfl (gE (go _ 76 rfl (decide_eq_false (by omega)) (gcf rfl (gXt (gHh (gS (gR (gY (yn (hm.blk_at 1 rfl) isAgg44 sizeOf44 rfl) (gM rfl (gCg rfl call83 (spec_l7Preds_ok _ aC (sV aG aH aC.blocks.length aJ) (hm.now aR) b_) ?_)))))))))))
  rintro aP cx cy w ⟨_,rfl,hB⟩
  replace hm := hm.give hB; clear hB
  refine gA rfl (gE (gS (gS (gR (gA rfl (gE ?_))))))
  obtain ⟨aZ,aa,rfl,cz⟩ := ro_slice (hm.ow_rep 0 rfl)
  refine gBk (gNf hm (λah bC=>[(2,(nV b_)),(7,(pV aD)),(8,(pV aE)),(12,(.slice aZ aP.length aa)),(13,(nV ah))]) (λah bC=>[blk aD [nV aC.params,nV aC.regs,sV aG aH aC.blocks.length aJ] 44,blk aE [aO,.slice aq aA.ins.length ar,nV aA.jump,nV aA.on,.slice aX aA.next_.length aY] 49,ow [.slice aZ aP.length aa] aP]) [2,3,0] rfl ?_ ?_)
  ·repeat clear hm
   intro dA bi ah bC w hm dB dC dD bj
   refine gS (gS (gR (gM rfl (gF fo_49_0 rfl (gL hm 1 isAgg45 rfl ?_)))))
   obtain ⟨bD,bE,rfl,dE⟩ := ro_slice aV
   refine gY (yV st_45 rfl) (gB rfl (gE (go _ 95 rfl (decide_eq_true (by omega)) (gct rfl (gSk (gS (gBk (gS (gJ hm (λai=>[(2,(nV b_)),(7,(pV aD)),(8,(pV aE)),(12,(.slice aZ aP.length aa)),(13,(nV ah)),(135,(.bool (ai)))]) (λai=>[blk aD [nV aC.params,nV aC.regs,sV aG aH aC.blocks.length aJ] 44,blk aE [.slice bD aA.phis.length bE,.slice aq aA.ins.length ar,nV aA.jump,nV aA.on,.slice aX aA.next_.length aY] 49,ow [.slice aZ aP.length aa] aP]) (λai=>?_) ?_)))))))))
   ·refine gW (.p 0 (.p 1 (.p 2 (.p 3 (.p 5 (.p 10 (.p 11 (.e 4 (.p 6 (.p 7 (.e 8 (.p 9 (.p 12 (.p 13 (.p 14 (.p 16 (.p 18 (.q 15 (.e 17 (.p 19 (.p 20 (.e 21 (.e 22 (.p 23 (.p 24 (.p 25 (.p 26 (.p 28 (.p 32 (.q 27 (.p 29 (.p 30 (.q 31 (.e 33 (.p 34 (.e 35 (.p 36 (.p 37 .fin)) .nil)) .nil))))))))))) .nil) .nil))) .nil)))))))) .nil))) .nil)))))))) [17, 21, 33] [0, 1, 2, 3, 5, 6, 7, 9, 10, 11, 12, 13, 14, 16, 18, 19, 20, 23, 24, 25, 26, 28, 29, 30, 32, 34, 36, 37] hm [0, 1, 2] [blk aD [nV aC.params, nV aC.regs, sV aG aH aC.blocks.length aJ] 44, blk aE [.slice bD aA.phis.length bE, .slice aq aA.ins.length ar, nV aA.jump, nV aA.on, .slice aX aA.next_.length aY] 49, ow [.slice aZ aP.length aa] aP] rfl mxo (by kernel_rfl) (fun _ _ _ h => h.2) fun w hm hS => tP rfl (fun w => yM rfl) (tP rfl (fun w => yB rfl) (tP rfl (fun w => yM rfl) (gsd 100 rfl (fun bk => ?_) fun bk => ?_)))
    ·refine tPo rfl rfl (tPo rfl rfl (tPo rfl rfl (tPo rfl rfl (tO (tEo rfl rfl (tAn rfl (tPo rfl rfl (tPo rfl rfl (tO (tEo rfl rfl (tAn rfl (tPo rfl rfl (tPo rfl rfl (tP rfl (fun w => yKt rfl) (tP rfl (fun w => yM rfl) (tPo rfl rfl (tPo rfl rfl (tQo rfl hS rfl (tO (tEo rfl rfl (tAs hS (tPo rfl rfl (tPo rfl rfl (tO (tEo rfl rfl (tAs hS (tO (tEo rfl rfl (tAn rfl (tPo rfl rfl ?_))))))))))))))))))))))))))))))
     exact tP rfl (λw=>yKt rfl) (tP rfl (λw=>yM rfl) (tPo rfl rfl (tPo rfl rfl (tPo rfl rfl (tQo rfl hS rfl (tPo rfl rfl (tPo rfl rfl (tQo rfl hS rfl (tO (tEo rfl rfl (tAs hS (tPo rfl rfl (tO (tEo rfl rfl (tAn rfl (tPo rfl rfl (tP rfl (λw=>yKt rfl) (tE (gz hm [0,1,2] rfl)))))))))))))))))))
    refine tP rfl (λw=>yF fo_49_0 rfl) (tP rfl (λw=>yM rfl) (tP rfl (λw=>yM rfl) (tP rfl (λw=>yV st_47 rfl) (tO (tY rfl (yL hm 1 isAgg45 rfl) (tAn rfl (gg λau av ab=>?_)))))))
    obtain ⟨dF,dG,dH,he⟩ := idx_form' aV ab
    obtain ⟨rfl,_,rfl⟩ := sl3 he
    obtain ⟨dI,aw,bF⟩ := rk_Phi_ aV ab
    refine tP rfl (λw=>yI st_45 av (idx_lt ab) rfl) (tP rfl (λw=>yF fo_105_1 rfl) (tO (tY rfl (yl isAgg47 ((aw.mono hm.lez).cell (j := 1) rfl) rfl) (tAn rfl ?_))))
    obtain ⟨bm,bp,rfl,dJ⟩ := ro_slice bF
    refine tP rfl (λw=>yV st_47 rfl) (tP rfl (λw=>yB rfl) (tP rfl (λw=>yKf rfl) (tP rfl (λw=>yM rfl) (gsd 112 rfl (λbq=>?_) λbq=>?_))))
    ·refine tPo rfl rfl (tPo rfl rfl (tQo rfl hS rfl (tO (tEo rfl rfl (tAs hS (tPo rfl rfl (tPo rfl rfl (tO (tEo rfl rfl (tAs hS (tO (tEo rfl rfl (tAn rfl (tPo rfl rfl (tP rfl (fun w => yKt rfl) (tP rfl (fun w => yM rfl) (tPo rfl rfl (tPo rfl rfl (tPo rfl rfl (tQo rfl hS rfl (tPo rfl rfl (tPo rfl rfl (tQo rfl hS rfl (tO (tEo rfl rfl (tAs hS (tPo rfl rfl (tO (tEo rfl rfl (tAn rfl ?_))))))))))))))))))))))))))))))
     exact tPo rfl rfl (tP rfl (λw=>yKt rfl) (tE (gz hm [0,1,2] rfl)))
    refine tP rfl (λw=>yF fo_49_0 rfl) (tP rfl (λw=>yM rfl) (tQ rfl hS (λw hm=>yn (hm.blk_at 0 rfl) isAgg44 sizeOf44 rfl) (tO (tY rfl (yL hm 1 isAgg45 rfl) (tAs hS (tP rfl (λw=>yI st_45 av (idx_lt ab) rfl) (tP rfl (λw=>yF fo_105_1 rfl) (tO (tY rfl (yl isAgg47 ((aw.mono hm.lez).cell (j := 1) rfl) rfl) (tAs hS (tO (gb λdK br=>tf rfl rfl (λa hf=>e_call hf rfl call86 rfl (spec_l7Regs_ok _ aC (sV aG aH aC.blocks.length aJ) (hm.now aR) au.args (.slice bm au.args.length bp) (hm.now bF) _ br)) ?_))))))))))))
    rintro dL w ⟨rfl,hB⟩
    replace hm := hm.below' hB; clear hB
    refine tAk hm [0,1,2] rfl λhS=>tP rfl (λw=>yN rfl) (tP rfl (λw=>yKf rfl) (tP rfl (λw=>yM rfl) (gsn 123 rfl (λbs=>?_) λbs=>?_)))
    ·exact tPo rfl rfl (tPo rfl rfl (tPo rfl rfl (tQo rfl hS rfl (tPo rfl rfl (tPo rfl rfl (tQo rfl hS rfl (tO (tEo rfl rfl (tAs hS (tPo rfl rfl (tO (tEo rfl rfl (tAn rfl (tPo rfl rfl (tP rfl (λw=>yKt rfl) (tE (gz hm [0,1,2] rfl)))))))))))))))))
    refine tP rfl (λw=>yF fo_49_0 rfl) (tP rfl (λw=>yM rfl) (tP rfl (λw=>yF fo_44_1 rfl) (tQ rfl hS (λw hm=>yL hm 1 isAgg45 rfl) (tP rfl (λw=>yI st_45 av (idx_lt ab) rfl) (tP rfl (λw=>yF fo_105_0 rfl) (tQ rfl hS (λw hm=>yl isAgg3 ((aw.mono hm.lez).cell (j := 0) rfl) rfl) (tO (tY rfl (yL hm 0 isAgg3 rfl) (tAs hS (tP rfl (λw=>yB rfl) (tO (gb λdM bt=>tf rfl rfl (λa hf=>e_call hf rfl call19 rfl (spec_l1In_ok _ au.to 0 (w64 (aC.regs - 1)) _ bt)) ?_))))))))))))
    rintro dN w ⟨rfl,hB⟩
    replace hm := hm.below' hB; clear hB
    exact tAn rfl (tP rfl (λw=>yN rfl) (tP rfl (λw=>yKf rfl) (tE (gz hm [0,1,2] rfl))))
   repeat clear hm
   intro ai w hm
   refine gs 135 rfl (λbu=>?_) λbu=>?_
   ·exact gct rfl (gS (gR (gA rfl (gE (gRt (gLr bj bi (gr1 results49 rfl ⟨rfl,hm.below⟩)))))))
   exact gcf rfl (gSk (gR (gM rfl (gP (by omega) (by omega) rfl (gA rfl (gE (gze hm [0,1,2] rfl)))))))
  repeat clear hm
  intro dO dP w hm dQ dR
  refine gS (gS (gR (gM rfl (gF fo_49_0 rfl (gL hm 1 isAgg45 rfl ?_)))))
  obtain ⟨dS,dT,rfl,dU⟩ := ro_slice aV
  exact gY (yV st_45 rfl) (gB rfl (gE (go _ 95 rfl (decide_eq_false (by omega)) (gcf rfl (gXt (gHh (gS (gR (gA rfl (gE (gRt (gr1 results49 rfl ⟨rfl,hm.below⟩))))))))))))
theorem spec_UnitValid_ok (w0 : World) (u : Unit_) (v1 : Value) (h1 : GT.rep (hp w0) [v1] u.codes) :
    ConM Tryz.prog 22 [(.agg #[v1])] w0 (spec_UnitValid u) λr v w'=>v = (.bool (r)) ∧ Below w0.heap.size w0 w' := by
  unfold spec_UnitValid
  refine gcon func22 rfl λr=>?_
  have hm := Mem.start w0
  refine gS (gR (gBx hm rfl λaC w hm=>gA rfl (gE (gS (gS (gR (gF fo_28_0 rfl (gL hm 0 isAgg26 rfl ?_))))))))
  obtain ⟨aa,aF,rfl,au⟩ := ro_slice h1
  refine gY (yV st_26 rfl) (gC hm rfl call19 (spec_l1In_ok _ (u.codes.length : Int) 1 4) λav aw w hm=>gN rfl (gE (gsn 11 rfl (λab=>?_) λab=>?_)))
  ·exact gct rfl (gS (gR (gA rfl (gE (gRt (gr1 results22 rfl ⟨rfl,hm.below⟩))))))
  refine gcf rfl (gSk (gS (gR (gA rfl (gE (gS (gS (gR (gA rfl (gE (gBk (gNf hm (λaD aM=>[(1,(pV aC)),(3,(nV aM)),(4,(nV aD))]) (λaD aM=>[blk aC [.slice aa u.codes.length aF] 28]) [0] rfl ?_ ?_))))))))))))
  ·repeat clear hm
   intro ax aS aD aM w hm ay az bA aT
   refine gS (gS (gR (gM rfl (gF fo_28_0 rfl (gL hm 0 isAgg26 rfl (gY (yV st_26 rfl) (gB rfl (gE (go _ 16 rfl (decide_eq_true (by omega)) (gct rfl (gSk (gS (gBk (gS (gR (gF fo_28_0 rfl (gL hm 0 isAgg26 rfl (gM rfl (gg λaA ac aR=>?_)))))))))))))))))))
   obtain ⟨aH,aJ,bB,he⟩ := idx_form' h1 aR
   obtain ⟨rfl,_,rfl⟩ := sl3 he
   obtain ⟨aV,ae,aG⟩ := rk_Code_ h1 aR
   refine gI st_26 ac (idx_lt aR) rfl (gY (yn (ae.mono hm.lez) isAgg44 sizeOf44 rfl) (gAl hm zeroValue44 rfl λaE w hm=>gSN hm 0 sizeOf44 (one_cons rfl (one_cons rfl (one_cons (rep_one aG) one_nil))) rfl λw hm=>gE (gS (gS (gJ hm (λaN=>[(1,(pV aC)),(3,(nV aM)),(4,(nV aD)),(5,(pV aE)),(42,(.bool (aN)))]) (λaN=>[blk aC [sV aH aJ u.codes.length aF] 28,blk aE [nV aA.params,nV aA.regs,aV] 44]) (λaN=>?_) ?_)))))
   ·refine gR (gF fo_44_0 rfl (gL hm 0 isAgg3 rfl (gC hm rfl call19 (spec_l1In_ok _ aA.params 0 3) fun bC bD w hm => gN rfl (gM rfl (gsn 28 rfl (fun af => ?_) fun af => ?_)))))
    ·exact gO rfl (gO rfl (gO rfl (gO rfl (gO rfl (gO rfl (gKt rfl (gM rfl (gO rfl (gO rfl (gO rfl (gO rfl (gO rfl (gKt rfl (gE (gz hm [1,0] rfl)))))))))))))))
    refine gF fo_44_1 rfl (gL hm 0 isAgg3 rfl (gF fo_44_0 rfl (gL hm 0 isAgg3 rfl (gC hm rfl call19 (spec_l1In_ok _ aA.regs aA.params 300) λbE bF w hm=>gN rfl (gKf rfl (gM rfl (gsn 36 rfl (λah=>?_) λah=>?_)))))))
    ·exact gO rfl (gO rfl (gO rfl (gO rfl (gO rfl (gKt rfl (gE (gz hm [1,0] rfl)))))))
    refine gF fo_44_2 rfl (gL hm 0 isAgg42 rfl ?_)
    obtain ⟨bG,bH,rfl,bJ⟩ := ro_slice aG
    exact gY (yV st_42 rfl) (gC hm rfl call19 (spec_l1In_ok _ (aA.blocks.length : Int) 1 160) λbK bL w hm=>gN rfl (gKf rfl (gE (gz hm [1,0] rfl))))
   repeat clear hm
   intro aN w hm
   refine gs 42 rfl (λai=>?_) λai=>?_
   ·exact gct rfl (gS (gR (gA rfl (gE (gRt (gLr aT aS (gr1 results22 rfl ⟨rfl,hm.below⟩)))))))
   refine gcf rfl (gSk (gS (gR (gA rfl (gE (gBk (gNf hm (λaL aO=>[(1,(pV aC)),(3,(nV aO)),(4,(nV aD)),(5,(pV aE)),(6,(nV aL))]) (λaL aO=>[blk aC [sV aH aJ u.codes.length aF] 28,blk aE [nV aA.params,nV aA.regs,aV] 44]) [0,1] rfl ?_ ?_)))))))
   ·repeat clear hm
    intro bM aj aL aO w hm bN bO bP ak
    refine gS (gS (gR (gM rfl (gF fo_44_2 rfl (gL hm 1 isAgg42 rfl ?_)))))
    obtain ⟨al,aW,rfl,bQ⟩ := ro_slice aG
    refine gY (yV st_42 rfl) (gB rfl (gE (go _ 47 rfl (decide_eq_true (by omega)) (gct rfl (gSk (gS (gBk (gS (gW (.p 0 (.p 1 (.p 3 (.p 9 (.p 11 (.q 2 (.p 4 (.p 5 (.q 6 (.p 7 (.p 8 (.e 10 (.p 12 (.p 13 (.e 14 (.p 15 (.p 16 (.p 17 .fin))) .nil))) .nil)))))))))))) [10,14] [0,1,3,4,5,7,8,9,11,12,13,15,16,17] hm [0,1] [blk aC [sV aH aJ u.codes.length aF] 28,blk aE [nV aA.params,nV aA.regs,.slice al aA.blocks.length aW] 44] rfl mxo (by kernel_rfl) (λ_ _ _ h=>h.2) λw hm hS=>tP rfl (λw=>yM rfl) (tP rfl (λw=>yF fo_44_2 rfl) (tP rfl (λw=>yM rfl) (tP rfl (λw=>yF fo_44_2 rfl) (tP rfl (λw=>yM rfl) (tQ rfl hS (λw hm=>yL hm 1 isAgg42 rfl) (gg λaX aY aP=>?_)))))))))))))))
    obtain ⟨am,an,bR,he⟩ := idx_form' aG aP
    obtain ⟨rfl,_,rfl⟩ := sl3 he
    obtain ⟨bS,bT,bU,aZ,ao,ap,bV⟩ := rk_Block_ aG aP
    refine tP rfl (λw=>yI st_42 aY (idx_lt aP) rfl) (tP rfl (λw=>yF fo_49_1 rfl) (tQ rfl hS (λw hm=>yl isAgg46 ((aZ.mono hm.lez).cell (j := 1) rfl) rfl) ?_))
    obtain ⟨bW,bX,rfl,bY⟩ := ro_slice ap
    refine tP rfl (λw=>yV st_46 rfl) (tP rfl (λw=>yB rfl) (tO (tY rfl (yL hm 1 isAgg42 rfl) (tAs hS (tP rfl (λw=>yI st_42 aY (idx_lt aP) rfl) (tP rfl (λw=>yF fo_49_0 rfl) (tO (tY rfl (yl isAgg45 ((aZ.mono hm.lez).cell (j := 0) rfl) rfl) (tAs hS ?_)))))))))
    obtain ⟨bZ,b6,rfl,b7⟩ := ro_slice ao
    refine tP rfl (λw=>yV st_45 rfl) (tP rfl (λw=>yB rfl) (tP rfl (λw=>yA rfl) (tE (gS (gJ hm (λaQ=>[(1,(pV aC)),(3,(nV (w64 ((w64 (aO + ((aX.ins.length : Int)))) + ((aX.phis.length : Int)))))),(4,(nV aD)),(5,(pV aE)),(6,(nV aL)),(75,(.bool (aQ)))]) (λaQ=>[blk aC [sV aH aJ u.codes.length aF] 28,blk aE [nV aA.params,nV aA.regs,sV am an aA.blocks.length aW] 44]) (λaQ=>?_) ?_)))))
    ·refine gR (gM rfl (gB rfl (gM rfl (gsd 69 rfl (fun aq => ?_) fun aq => ?_))))
     ·exact gO rfl (gO rfl (gO rfl (gO rfl (gO rfl (gKt rfl (gE (gz hm [0,1] rfl)))))))
     exact gY (yn (hm.blk_at 0 rfl) isAgg28 sizeOf28 rfl) (gM rfl (gM rfl (gC hm rfl call49 (spec_l7Block_ok _ u (sV aH aJ u.codes.length aF) (hm.now h1) aD aL) λb8 b9 w hm=>gN rfl (gKf rfl (gE (gz hm [0,1] rfl))))))
    repeat clear hm
    intro aQ w hm
    refine gs 75 rfl (λar=>?_) λar=>?_
    ·exact gct rfl (gS (gR (gA rfl (gE (gRt (gLr ak aj (gLr aT aS (gr1 results22 rfl ⟨rfl,hm.below⟩))))))))
    exact gcf rfl (gSk (gR (gM rfl (gP (by omega) (by omega) rfl (gA rfl (gE (gze hm [0,1] rfl)))))))
   repeat clear hm
   intro ba bc w hm bd be
   refine gS (gS (gR (gM rfl (gF fo_44_2 rfl (gL hm 1 isAgg42 rfl ?_)))))
   obtain ⟨bf,bg,rfl,bh⟩ := ro_slice aG
   exact gY (yV st_42 rfl) (gB rfl (gE (go _ 47 rfl (decide_eq_false (by omega)) (gcf rfl (gXt (gHh (gR (gM rfl (gP (by omega) (by omega) rfl (gA rfl (gE (gze hm [0] rfl))))))))))))
  repeat clear hm
  intro bi bj w hm bk bm
  exact gS (gS (gR (gM rfl (gF fo_28_0 rfl (gL hm 0 isAgg26 rfl (gY (yV st_26 rfl) (gB rfl (gE (go _ 16 rfl (decide_eq_false (by omega)) (gcf rfl (gXt (gHh (gS (gR (gA rfl (gE (gRt (gr1 results22 rfl ⟨rfl,hm.below⟩))))))))))))))))))
theorem spec_l12Has_ok (w0 : World) (u : Unit_) (v1 : Value) (h1 : GT.rep (hp w0) [v1] u.codes) (k_ : Int) :
    ConM Tryz.prog 18 [(.agg #[v1]),nV k_] w0 (spec_l12Has u k_) λr v w'=>v = (.bool (r)) ∧ Below w0.heap.size w0 w' := by
  unfold spec_l12Has
  refine gcon func18 rfl λr=>?_
  have hm := Mem.start w0
  refine gS (gR (gBx hm rfl λaD w hm=>gA rfl (gE (gS (gJ hm (λaA=>[(4,(.bool (aA)))]) (λaA=>[]) (λaA=>?_) ?_)))))
  ·refine gR (gY (yn (hm.blk_at 0 rfl) isAgg28 sizeOf28 rfl) (gC hm rfl call22 (spec_UnitValid_ok _ u v1 (hm.now h1)) fun aE aF w hm => gM rfl (gs 7 rfl (fun aC => ?_) fun aC => ?_)))
   ·refine gM rfl (gF fo_28_0 rfl (gL hm 0 isAgg26 rfl ?_))
    obtain ⟨aG,aH,rfl,aJ⟩ := ro_slice h1
    exact gY (yV st_26 rfl) (gY (yS (by omega) (by omega) rfl) (gC hm rfl call19 (spec_l1In_ok _ k_ 0 (((u.codes.length : Int)) - 1)) λaL aM w hm=>gKt rfl (gA rfl (gE (gz hm [] rfl)))))
   exact gO rfl (gO rfl (gO rfl (gO rfl (gO rfl (gO rfl (gKf rfl (gA rfl (gE (gz hm [] rfl)))))))))
  repeat clear hm
  intro aA w hm
  exact gRt (gr1 results18 rfl ⟨rfl,hm.below⟩)
abbrev od79_1 : Go.Wk.Ord := (.p 10 (.e 12 .fin .nil))
abbrev od79_2 : Go.Wk.Ord := (.p 10 (.e 11 (.e 12 .fin .nil) .nil))
abbrev od79_3 : Go.Wk.Ord := (.e 9 od79_2 (.e 11 (.e 9 od79_1 .nil) .nil))
abbrev od79_4 : Go.Wk.Ord := (.e 6 (.e 9 od79_1 .nil) .nil)
abbrev od79_5 : Go.Wk.Ord := (.e 1 od79_2 (.e 11 (.e 1 od79_1 .nil) .nil))
abbrev od79_6 : Go.Wk.Ord := (.e 1 (.e 9 od79_1 .nil) (.e 9 (.e 1 od79_1 .nil) .nil))
abbrev od79_7 : Go.Wk.Ord := (.e 0 od79_2 (.e 11 (.e 0 od79_1 .nil) .nil))
abbrev od79_8 : Go.Wk.Ord := (.e 0 (.e 9 od79_1 .nil) (.e 9 (.e 0 od79_1 .nil) .nil))
abbrev od79_9 : Go.Wk.Ord := (.e 0 (.e 1 od79_1 .nil) (.e 1 (.e 0 od79_1 .nil) .nil))
abbrev od79_10 : Go.Wk.Ord := (.e 6 od79_3 (.e 11 od79_4 .nil))
abbrev od79_11 : Go.Wk.Ord := (.e 1 od79_3 (.e 9 od79_5 (.e 11 od79_6 .nil)))
abbrev od79_12 : Go.Wk.Ord := (.e 1 od79_4 (.e 6 od79_6 .nil))
abbrev od79_13 : Go.Wk.Ord := (.e 0 od79_3 (.e 9 od79_7 (.e 11 od79_8 .nil)))
abbrev od79_14 : Go.Wk.Ord := (.e 0 od79_4 (.e 6 od79_8 .nil))
abbrev od79_15 : Go.Wk.Ord := (.e 0 od79_6 (.e 1 od79_8 (.e 9 od79_9 .nil)))
theorem spec_l7CopyBlock_ok (w0 : World) (b_ : Block_) (v1 : Value) (h1 : GT.rep (hp w0) [v1] b_.phis) (v2 : Value) (h2 : GT.rep (hp w0) [v2] b_.ins) (v3 : Value) (h3 : GT.rep (hp w0) [v3] b_.next_) :
    ConM Tryz.prog 79 [(.agg #[v1,v2,nV b_.jump,nV b_.on,v3])] w0 (spec_l7CopyBlock b_) λr v w'=>∃ (x1 : Value) (x2 : Value) (x3 : Value),v = (.agg #[x1,x2,nV r.jump,nV r.on,x3]) ∧ Mem w0 (hp w0) w' [ow [x1] r.phis,ow [x2] r.ins,ow [x3] r.next_] := by
  unfold spec_l7CopyBlock
  refine gcon func79 rfl λr=>?_
  have hm := Mem.start w0
  refine gS (gR (gBx hm rfl λaC w hm=>gAl hm zeroValue49 rfl λaD w hm=>gE (gS (gJg (λaE a w=>∃ (aL : Nat) (cA cB cC : Value),St 74 [(1,(pV aC)),(2,(pV aD)),(3,(pV aL))] w0 (hp w0) [blk aC [v1,v2,nV b_.jump,nV b_.on,v3] 49,blk aD [.slice none 0 0,.slice none 0 0,nV 0,nV 0,.slice none 0 0] 49,blk aL [cA,cB,nV b_.jump,nV b_.on,cC] 49,ow [cA] ([] : List Phi_),ow [cB] ([] : List Ins_),ow [cC] aE] a w) (λaE=>?_) ?_))))
  ·refine gW (.p 2 (.p 4 (.p 7 (.q 3 (.q 5 (.q 8 (.e 0 (.e 1 od79_10 (.e 6 od79_11 (.e 11 od79_12 .nil))) (.e 1 (.e 0 od79_10 (.e 6 od79_13 (.e 11 od79_14 .nil))) (.e 6 (.e 0 od79_11 (.e 1 od79_13 (.e 9 (.e 0 od79_5 (.e 1 od79_7 (.e 11 od79_9 .nil))) (.e 11 od79_15 .nil)))) (.e 11 (.e 0 od79_12 (.e 1 od79_14 (.e 6 od79_15 .nil))) .nil)))))))))) [0, 1, 3, 5, 6, 8, 9, 11] [2, 4, 7, 10] hm [0, 1] [blk aD [.slice none 0 0, .slice none 0 0, nV 0, nV 0, .slice none 0 0] 49, blk aC [v1, v2, nV b_.jump, nV b_.on, v3] 49] rfl mxo (by kernel_rfl) (fun _ _ _ h => h.2) fun w hm hS => tP rfl (fun w => yF fo_49_2 rfl) (tP rfl (fun w => yF fo_49_3 rfl) (tP rfl (fun w => yF fo_49_4 rfl) (tQ rfl hS (fun w hm => yL hm 1 isAgg3 rfl) (tQ rfl hS (fun w hm => yL hm 1 isAgg3 rfl) (tQ rfl hS (fun w hm => yL hm 1 isAgg47 rfl) (gb fun aQ ab => tSh ((.e 12 .fin .nil)) (fun a w => ∃ (bZ : Nat) (b6 b7 b8 : Value), St 74 [(1, (pV aC)), (2, (pV aD)), (3, (pV bZ)), (17, (.agg #[b6, b7, nV b_.jump, nV b_.on, b8]))] w0 (hp w0) [blk aC [v1, v2, nV b_.jump, nV b_.on, v3] 49, blk aD [.slice none 0 0, .slice none 0 0, nV 0, nV 0, .slice none 0 0] 49, blk bZ [.slice none 0 0, .slice none 0 0, nV 0, nV 0, .slice none 0 0] 49, ow [b6] ([] : List Phi_), ow [b7] ([] : List Ins_), ow [b8] aQ] a w) ?_ fun hT2_1 => ?_))))))
   ·rintro a w ⟨bZ, b6, b7, b8, hf, hm⟩
    refine tSv hf hm [1,0] rfl λhS=>tO (tf0 rfl rfl (λa hf=>e_storeN 2 hf hm rfl sizeOf49 rfl rfl rfl (one_cons (rep_one (hm.ow_rep 3 rfl)) (one_cons (rep_one (hm.ow_rep 4 rfl)) (one_cons rfl (one_cons rfl (one_cons (rep_one (hm.ow_rep 5 rfl)) one_nil))))) rfl rfl) ?_)
    rintro _ w hm
    exact tAn rfl (tE (gZ λa hf=>⟨bZ,b6,b7,b8,hf.sb rfl,hm.pk [0,1,2,3,4,5] rfl rfl⟩))
   refine tSh (od79_1) (λa w=>∃ (b9 : Nat) (cD cE cF : Value),St 74 [(1,(pV aC)),(2,(pV aD)),(3,(pV b9)),(7,cD),(8,cE),(10,(nV b_.jump)),(12,(nV b_.on)),(16,cF)] w0 (hp w0) [blk aC [v1,v2,nV b_.jump,nV b_.on,v3] 49,blk aD [.slice none 0 0,.slice none 0 0,nV 0,nV 0,.slice none 0 0] 49,blk b9 [.slice none 0 0,.slice none 0 0,nV 0,nV 0,.slice none 0 0] 49,ow [cD] ([] : List Phi_),ow [cE] ([] : List Ins_),ow [cF] aQ] a w) ?_ λhT2_2=>?_
   ·rintro a w ⟨b9, cD, cE, cF, hf, hm⟩
    refine tSv hf hm [1,0] rfl λhS=>?_
    obtain ⟨ak,al,rfl,cV⟩ := ro_slice (hm.ow_rep 3 rfl)
    obtain ⟨am,an,rfl,cW⟩ := ro_slice (hm.ow_rep 4 rfl)
    obtain ⟨ao,ap,rfl,cX⟩ := ro_slice (hm.ow_rep 5 rfl)
    exact tP rfl (λw=>yG rfl (y_build (vs := [(0,(.slice ak ([] : List Phi_).length al)),(1,(.slice am ([] : List Ins_).length an)),(2,(nV b_.jump)),(3,(nV b_.on)),(4,(.slice ao aQ.length ap))]) (cs := #[.slice ak ([] : List Phi_).length al,.slice am ([] : List Ins_).length an,nV b_.jump,nV b_.on,.slice ao aQ.length ap]) rfl rfl (by kernel_rfl))) (tUse hT2_1 λa hf=>⟨b9,.slice ak ([] : List Phi_).length al,.slice am ([] : List Ins_).length an,.slice ao aQ.length ap,hf.sb rfl,hm.pk [0,1,2,3,4,5] rfl rfl⟩)
   refine tSh ((.e 0 od79_1 .nil)) (λa w=>∃ (ba : Nat) (bc bd : Value),St 74 [(1,(pV aC)),(2,(pV aD)),(3,(pV ba)),(8,bc),(10,(nV b_.jump)),(12,(nV b_.on)),(16,bd)] w0 (hp w0) [blk aC [v1,v2,nV b_.jump,nV b_.on,v3] 49,blk aD [.slice none 0 0,.slice none 0 0,nV 0,nV 0,.slice none 0 0] 49,blk ba [.slice none 0 0,.slice none 0 0,nV 0,nV 0,.slice none 0 0] 49,ow [bc] ([] : List Ins_),ow [bd] aQ] a w) ?_ λhT2_3=>?_
   ·rintro a w ⟨ba, bc, bd, hf, hm⟩
    refine tSv hf hm [1,0] rfl λhS=>tO (tf rfl rfl (λa hf=>e_build0 (α := Phi_) et_45 hm rfl) ?_)
    rintro aF w hm
    exact tAk hm [2,1] rfl λhS=>tUse hT2_2 λa hf=>⟨ba,aF,bc,bd,hf.sb rfl,hm.pk [1,2,3,0,4,5] rfl rfl⟩
   refine tSh ((.e 1 od79_1 .nil)) (λa w=>∃ (be : Nat) (bf bg : Value),St 74 [(1,(pV aC)),(2,(pV aD)),(3,(pV be)),(7,bf),(10,(nV b_.jump)),(12,(nV b_.on)),(16,bg)] w0 (hp w0) [blk aC [v1,v2,nV b_.jump,nV b_.on,v3] 49,blk aD [.slice none 0 0,.slice none 0 0,nV 0,nV 0,.slice none 0 0] 49,blk be [.slice none 0 0,.slice none 0 0,nV 0,nV 0,.slice none 0 0] 49,ow [bf] ([] : List Phi_),ow [bg] aQ] a w) ?_ λhT2_4=>?_
   ·rintro a w ⟨be, bf, bg, hf, hm⟩
    refine tSv hf hm [1,0] rfl λhS=>tO (tf rfl rfl (λa hf=>e_build0 (α := Ins_) et_46 hm rfl) ?_)
    rintro aF w hm
    exact tAk hm [2,1] rfl λhS=>tUse hT2_2 λa hf=>⟨be,bf,aF,bg,hf.sb rfl,hm.pk [1,2,3,4,0,5] rfl rfl⟩
   refine tSh ((.e 9 od79_1 .nil)) (λa w=>∃ (bh : Nat) (bi bj cG : Value),St 74 [(1,(pV aC)),(2,(pV aD)),(3,(pV bh)),(7,bi),(8,bj),(10,(nV b_.jump)),(12,(nV b_.on)),(13,cG),(15,v3)] w0 (hp w0) [blk aC [v1,v2,nV b_.jump,nV b_.on,v3] 49,blk aD [.slice none 0 0,.slice none 0 0,nV 0,nV 0,.slice none 0 0] 49,blk bh [.slice none 0 0,.slice none 0 0,nV 0,nV 0,.slice none 0 0] 49,ow [bi] ([] : List Phi_),ow [bj] ([] : List Ins_),ow [cG] ([] : List Int)] a w) ?_ λhT2_5=>?_
   ·rintro a w ⟨bh, bi, bj, cG, hf, hm⟩
    refine tSv hf hm [1,0] rfl λhS=>tO ?_
    obtain ⟨aN,aO⟩ := appM_some.1 ab
    refine tf rfl rfl (λa hf=>e_append 5 et_47 hf hm rfl (hm.now h3) rfl rfl rfl aN) ?_
    rintro aF w hm
    rw [aO] at hm
    exact tAk hm [1,0] rfl λhS=>tUse hT2_2 λa hf=>⟨bh,bi,bj,aF,hf.sb rfl,hm.pk [0,1,2,3,4,5] rfl rfl⟩
   refine tSh (od79_2) (λa w=>∃ (cH cI cJ : Value),St 74 [(1,(pV aC)),(2,(pV aD)),(7,cH),(8,cI),(10,(nV b_.jump)),(12,(nV b_.on)),(16,cJ)] w0 (hp w0) [blk aC [v1,v2,nV b_.jump,nV b_.on,v3] 49,blk aD [.slice none 0 0,.slice none 0 0,nV 0,nV 0,.slice none 0 0] 49,ow [cH] ([] : List Phi_),ow [cI] ([] : List Ins_),ow [cJ] aQ] a w) ?_ λhT2_6=>?_
   ·rintro a w ⟨cH, cI, cJ, hf, hm⟩
    refine tSv hf hm [1,0] rfl λhS=>?_
    obtain ⟨ak,al,rfl,cV⟩ := ro_slice (hm.ow_rep 2 rfl)
    obtain ⟨am,an,rfl,cW⟩ := ro_slice (hm.ow_rep 3 rfl)
    obtain ⟨ao,ap,rfl,cX⟩ := ro_slice (hm.ow_rep 4 rfl)
    refine tP rfl (λw=>yG rfl (y_build (vs := [(0,(.slice ak ([] : List Phi_).length al)),(1,(.slice am ([] : List Ins_).length an)),(2,(nV b_.jump)),(3,(nV b_.on)),(4,(.slice ao aQ.length ap))]) (cs := #[.slice ak ([] : List Phi_).length al,.slice am ([] : List Ins_).length an,nV b_.jump,nV b_.on,.slice ao aQ.length ap]) rfl rfl (by kernel_rfl))) (tO (tf rfl rfl (λa hf=>e_alloc hm zeroValue49 rfl rfl) ?_))
    rintro _ w ⟨aP,rfl,hm⟩
    exact tAk hm [2,1] rfl λhS=>tUse hT2_1 λa hf=>⟨aP,.slice ak ([] : List Phi_).length al,.slice am ([] : List Ins_).length an,.slice ao aQ.length ap,hf.sb rfl,hm.pk [1,2,0,3,4,5] rfl rfl⟩
   refine tSh (od79_9) (λa w=>∃ (ax : Nat) (ay : Value),St 74 [(1,(pV aC)),(2,(pV aD)),(3,(pV ax)),(10,(nV b_.jump)),(12,(nV b_.on)),(16,ay)] w0 (hp w0) [blk aC [v1,v2,nV b_.jump,nV b_.on,v3] 49,blk aD [.slice none 0 0,.slice none 0 0,nV 0,nV 0,.slice none 0 0] 49,blk ax [.slice none 0 0,.slice none 0 0,nV 0,nV 0,.slice none 0 0] 49,ow [ay] aQ] a w) ?_ λhT2_7=>?_
   ·rintro a w ⟨ax, ay, hf, hm⟩
    refine tSv hf hm [1,0] rfl λhS=>tMo ?_ ?_
    ·refine tf rfl rfl (fun a hf => e_build0 (α := Phi_) et_45 hm rfl) ?_
     rintro aF w hm
     exact tAk hm [2,1] rfl λhS=>tUse hT2_4 λa hf=>⟨ax,aF,ay,hf.sb rfl,hm.pk [1,2,3,0,4] rfl rfl⟩
    refine tO (tf rfl rfl (λa hf=>e_build0 (α := Ins_) et_46 hm rfl) ?_)
    rintro aM w hm
    exact tAk hm [2,1] rfl λhS=>tUse hT2_3 λa hf=>⟨ax,aM,ay,hf.sb rfl,hm.pk [1,2,3,0,4] rfl rfl⟩
   refine tSh (od79_8) (λa w=>∃ (az : Nat) (bA bk : Value),St 74 [(1,(pV aC)),(2,(pV aD)),(3,(pV az)),(8,bA),(10,(nV b_.jump)),(12,(nV b_.on)),(13,bk),(15,v3)] w0 (hp w0) [blk aC [v1,v2,nV b_.jump,nV b_.on,v3] 49,blk aD [.slice none 0 0,.slice none 0 0,nV 0,nV 0,.slice none 0 0] 49,blk az [.slice none 0 0,.slice none 0 0,nV 0,nV 0,.slice none 0 0] 49,ow [bA] ([] : List Ins_),ow [bk] ([] : List Int)] a w) ?_ λhT2_8=>?_
   ·rintro a w ⟨az, bA, bk, hf, hm⟩
    refine tSv hf hm [1,0] rfl λhS=>tMo ?_ ?_
    ·refine tf rfl rfl (fun a hf => e_build0 (α := Phi_) et_45 hm rfl) ?_
     rintro aF w hm
     exact tAk hm [2,1] rfl λhS=>tUse hT2_5 λa hf=>⟨az,aF,bA,bk,hf.sb rfl,hm.pk [1,2,3,0,4,5] rfl rfl⟩
    refine tO ?_
    obtain ⟨aN,aO⟩ := appM_some.1 ab
    refine tf rfl rfl (λa hf=>e_append 4 et_47 hf hm rfl (hm.now h3) rfl rfl rfl aN) ?_
    rintro aM w hm
    rw [aO] at hm
    exact tAk hm [1,0] rfl λhS=>tUse hT2_3 λa hf=>⟨az,bA,aM,hf.sb rfl,hm.pk [0,1,2,3,4] rfl rfl⟩
   refine tSh (od79_7) (λa w=>∃ (bB bC : Value),St 74 [(1,(pV aC)),(2,(pV aD)),(8,bB),(10,(nV b_.jump)),(12,(nV b_.on)),(16,bC)] w0 (hp w0) [blk aC [v1,v2,nV b_.jump,nV b_.on,v3] 49,blk aD [.slice none 0 0,.slice none 0 0,nV 0,nV 0,.slice none 0 0] 49,ow [bB] ([] : List Ins_),ow [bC] aQ] a w) ?_ λhT2_9=>?_
   ·rintro a w ⟨bB, bC, hf, hm⟩
    refine tSv hf hm [1,0] rfl λhS=>tMo ?_ ?_
    ·refine tf rfl rfl (fun a hf => e_build0 (α := Phi_) et_45 hm rfl) ?_
     rintro aF w hm
     exact tAk hm [2,1] rfl λhS=>tUse hT2_6 λa hf=>⟨aF,bB,bC,hf.sb rfl,hm.pk [1,2,0,3,4] rfl rfl⟩
    refine tO (tf rfl rfl (λa hf=>e_alloc hm zeroValue49 rfl rfl) ?_)
    rintro _ w ⟨aP,rfl,hm⟩
    exact tAk hm [2,1] rfl λhS=>tUse hT2_3 λa hf=>⟨aP,bB,bC,hf.sb rfl,hm.pk [1,2,0,3,4] rfl rfl⟩
   refine tSh (od79_6) (λa w=>∃ (bD : Nat) (bE bm : Value),St 74 [(1,(pV aC)),(2,(pV aD)),(3,(pV bD)),(7,bE),(10,(nV b_.jump)),(12,(nV b_.on)),(13,bm),(15,v3)] w0 (hp w0) [blk aC [v1,v2,nV b_.jump,nV b_.on,v3] 49,blk aD [.slice none 0 0,.slice none 0 0,nV 0,nV 0,.slice none 0 0] 49,blk bD [.slice none 0 0,.slice none 0 0,nV 0,nV 0,.slice none 0 0] 49,ow [bE] ([] : List Phi_),ow [bm] ([] : List Int)] a w) ?_ λhT2_10=>?_
   ·rintro a w ⟨bD, bE, bm, hf, hm⟩
    refine tSv hf hm [1,0] rfl λhS=>tMo ?_ ?_
    ·refine tf rfl rfl (fun a hf => e_build0 (α := Ins_) et_46 hm rfl) ?_
     rintro aF w hm
     exact tAk hm [2,1] rfl λhS=>tUse hT2_5 λa hf=>⟨bD,bE,aF,bm,hf.sb rfl,hm.pk [1,2,3,4,0,5] rfl rfl⟩
    refine tO ?_
    obtain ⟨aN,aO⟩ := appM_some.1 ab
    refine tf rfl rfl (λa hf=>e_append 4 et_47 hf hm rfl (hm.now h3) rfl rfl rfl aN) ?_
    rintro aM w hm
    rw [aO] at hm
    exact tAk hm [1,0] rfl λhS=>tUse hT2_4 λa hf=>⟨bD,bE,aM,hf.sb rfl,hm.pk [0,1,2,3,4] rfl rfl⟩
   refine tSh (od79_5) (λa w=>∃ (bF bG : Value),St 74 [(1,(pV aC)),(2,(pV aD)),(7,bF),(10,(nV b_.jump)),(12,(nV b_.on)),(16,bG)] w0 (hp w0) [blk aC [v1,v2,nV b_.jump,nV b_.on,v3] 49,blk aD [.slice none 0 0,.slice none 0 0,nV 0,nV 0,.slice none 0 0] 49,ow [bF] ([] : List Phi_),ow [bG] aQ] a w) ?_ λhT2_11=>?_
   ·rintro a w ⟨bF, bG, hf, hm⟩
    refine tSv hf hm [1,0] rfl λhS=>tMo ?_ ?_
    ·refine tf rfl rfl (fun a hf => e_build0 (α := Ins_) et_46 hm rfl) ?_
     rintro aF w hm
     exact tAk hm [2,1] rfl λhS=>tUse hT2_6 λa hf=>⟨bF,aF,bG,hf.sb rfl,hm.pk [1,2,3,0,4] rfl rfl⟩
    refine tO (tf rfl rfl (λa hf=>e_alloc hm zeroValue49 rfl rfl) ?_)
    rintro _ w ⟨aP,rfl,hm⟩
    exact tAk hm [2,1] rfl λhS=>tUse hT2_4 λa hf=>⟨aP,bF,bG,hf.sb rfl,hm.pk [1,2,0,3,4] rfl rfl⟩
   refine tSh (od79_4) (λa w=>∃ (bp : Nat) (bq br : Value),St 74 [(1,(pV aC)),(2,(pV aD)),(3,(pV bp)),(7,bq),(8,br),(10,(nV b_.jump)),(12,(nV b_.on)),(15,v3)] w0 (hp w0) [blk aC [v1,v2,nV b_.jump,nV b_.on,v3] 49,blk aD [.slice none 0 0,.slice none 0 0,nV 0,nV 0,.slice none 0 0] 49,blk bp [.slice none 0 0,.slice none 0 0,nV 0,nV 0,.slice none 0 0] 49,ow [bq] ([] : List Phi_),ow [br] ([] : List Ins_)] a w) ?_ λhT2_12=>?_
   ·rintro a w ⟨bp, bq, br, hf, hm⟩
    refine tSv hf hm [1,0] rfl λhS=>tO (tf rfl rfl (λa hf=>e_build0 (α := Int) et_47 hm rfl) ?_)
    rintro aF w hm
    exact tAk hm [2,1] rfl λhS=>tUse hT2_5 λa hf=>⟨bp,bq,br,aF,hf.sb rfl,hm.pk [1,2,3,4,5,0] rfl rfl⟩
   refine tSh (od79_3) (λa w=>∃ (bH bJ bs : Value),St 74 [(1,(pV aC)),(2,(pV aD)),(7,bH),(8,bJ),(10,(nV b_.jump)),(12,(nV b_.on)),(13,bs),(15,v3)] w0 (hp w0) [blk aC [v1,v2,nV b_.jump,nV b_.on,v3] 49,blk aD [.slice none 0 0,.slice none 0 0,nV 0,nV 0,.slice none 0 0] 49,ow [bH] ([] : List Phi_),ow [bJ] ([] : List Ins_),ow [bs] ([] : List Int)] a w) ?_ λhT2_13=>?_
   ·rintro a w ⟨bH, bJ, bs, hf, hm⟩
    refine tSv hf hm [1,0] rfl λhS=>tMo ?_ ?_
    ·obtain ⟨aN, aO⟩ := appM_some.1 ab
     refine tf rfl rfl (λa hf=>e_append 4 et_47 hf hm rfl (hm.now h3) rfl rfl rfl aN) ?_
     rintro aF w hm
     rw [aO] at hm
     exact tAk hm [1,0] rfl λhS=>tUse hT2_6 λa hf=>⟨bH,bJ,aF,hf.sb rfl,hm.pk [0,1,2,3,4] rfl rfl⟩
    refine tO (tf rfl rfl (λa hf=>e_alloc hm zeroValue49 rfl rfl) ?_)
    rintro _ w ⟨aP,rfl,hm⟩
    exact tAk hm [2,1] rfl λhS=>tUse hT2_5 λa hf=>⟨aP,bH,bJ,bs,hf.sb rfl,hm.pk [1,2,0,3,4,5] rfl rfl⟩
   refine tSh (od79_15) (λa w=>∃ (aq : Nat) (bK : Value),St 74 [(1,(pV aC)),(2,(pV aD)),(3,(pV aq)),(10,(nV b_.jump)),(12,(nV b_.on)),(13,bK),(15,v3)] w0 (hp w0) [blk aC [v1,v2,nV b_.jump,nV b_.on,v3] 49,blk aD [.slice none 0 0,.slice none 0 0,nV 0,nV 0,.slice none 0 0] 49,blk aq [.slice none 0 0,.slice none 0 0,nV 0,nV 0,.slice none 0 0] 49,ow [bK] ([] : List Int)] a w) ?_ λhT2_14=>?_
   ·rintro a w ⟨aq, bK, hf, hm⟩
    refine tSv hf hm [1,0] rfl λhS=>tMo ?_ ?_
    ·refine tf rfl rfl (fun a hf => e_build0 (α := Phi_) et_45 hm rfl) ?_
     rintro aF w hm
     exact tAk hm [2,1] rfl λhS=>tUse hT2_10 λa hf=>⟨aq,aF,bK,hf.sb rfl,hm.pk [1,2,3,0,4] rfl rfl⟩
    refine tMo ?_ ?_
    ·refine tf rfl rfl (fun a hf => e_build0 (α := Ins_) et_46 hm rfl) ?_
     rintro aM w hm
     exact tAk hm [2,1] rfl λhS=>tUse hT2_8 λa hf=>⟨aq,aM,bK,hf.sb rfl,hm.pk [1,2,3,0,4] rfl rfl⟩
    refine tO ?_
    obtain ⟨aN,aO⟩ := appM_some.1 ab
    refine tf rfl rfl (λa hf=>e_append 3 et_47 hf hm rfl (hm.now h3) rfl rfl rfl aN) ?_
    rintro cK w hm
    rw [aO] at hm
    exact tAk hm [1,0] rfl λhS=>tUse hT2_7 λa hf=>⟨aq,cK,hf.sb rfl,hm.pk [0,1,2,3] rfl rfl⟩
   refine tSh (od79_14) (λa w=>∃ (bL : Nat) (bM : Value),St 74 [(1,(pV aC)),(2,(pV aD)),(3,(pV bL)),(8,bM),(10,(nV b_.jump)),(12,(nV b_.on)),(15,v3)] w0 (hp w0) [blk aC [v1,v2,nV b_.jump,nV b_.on,v3] 49,blk aD [.slice none 0 0,.slice none 0 0,nV 0,nV 0,.slice none 0 0] 49,blk bL [.slice none 0 0,.slice none 0 0,nV 0,nV 0,.slice none 0 0] 49,ow [bM] ([] : List Ins_)] a w) ?_ λhT2_15=>?_
   ·rintro a w ⟨bL, bM, hf, hm⟩
    refine tSv hf hm [1,0] rfl λhS=>tMo ?_ ?_
    ·refine tf rfl rfl (fun a hf => e_build0 (α := Phi_) et_45 hm rfl) ?_
     rintro aF w hm
     exact tAk hm [2,1] rfl λhS=>tUse hT2_12 λa hf=>⟨bL,aF,bM,hf.sb rfl,hm.pk [1,2,3,0,4] rfl rfl⟩
    refine tO (tf rfl rfl (λa hf=>e_build0 (α := Int) et_47 hm rfl) ?_)
    rintro aM w hm
    exact tAk hm [2,1] rfl λhS=>tUse hT2_8 λa hf=>⟨bL,bM,aM,hf.sb rfl,hm.pk [1,2,3,4,0] rfl rfl⟩
   refine tSh (od79_13) (λa w=>∃ (ar bN : Value),St 74 [(1,(pV aC)),(2,(pV aD)),(8,ar),(10,(nV b_.jump)),(12,(nV b_.on)),(13,bN),(15,v3)] w0 (hp w0) [blk aC [v1,v2,nV b_.jump,nV b_.on,v3] 49,blk aD [.slice none 0 0,.slice none 0 0,nV 0,nV 0,.slice none 0 0] 49,ow [ar] ([] : List Ins_),ow [bN] ([] : List Int)] a w) ?_ λhT2_16=>?_
   ·rintro a w ⟨ar, bN, hf, hm⟩
    refine tSv hf hm [1,0] rfl λhS=>tMo ?_ ?_
    ·refine tf rfl rfl (fun a hf => e_build0 (α := Phi_) et_45 hm rfl) ?_
     rintro aF w hm
     exact tAk hm [2,1] rfl λhS=>tUse hT2_13 λa hf=>⟨aF,ar,bN,hf.sb rfl,hm.pk [1,2,0,3,4] rfl rfl⟩
    refine tMo ?_ ?_
    ·obtain ⟨aN, aO⟩ := appM_some.1 ab
     refine tf rfl rfl (λa hf=>e_append 3 et_47 hf hm rfl (hm.now h3) rfl rfl rfl aN) ?_
     rintro aM w hm
     rw [aO] at hm
     exact tAk hm [1,0] rfl λhS=>tUse hT2_9 λa hf=>⟨ar,aM,hf.sb rfl,hm.pk [0,1,2,3] rfl rfl⟩
    refine tO (tf rfl rfl (λa hf=>e_alloc hm zeroValue49 rfl rfl) ?_)
    rintro _ w ⟨aP,rfl,hm⟩
    exact tAk hm [2,1] rfl λhS=>tUse hT2_8 λa hf=>⟨aP,ar,bN,hf.sb rfl,hm.pk [1,2,0,3,4] rfl rfl⟩
   refine tSh (od79_12) (λa w=>∃ (bO : Nat) (bP : Value),St 74 [(1,(pV aC)),(2,(pV aD)),(3,(pV bO)),(7,bP),(10,(nV b_.jump)),(12,(nV b_.on)),(15,v3)] w0 (hp w0) [blk aC [v1,v2,nV b_.jump,nV b_.on,v3] 49,blk aD [.slice none 0 0,.slice none 0 0,nV 0,nV 0,.slice none 0 0] 49,blk bO [.slice none 0 0,.slice none 0 0,nV 0,nV 0,.slice none 0 0] 49,ow [bP] ([] : List Phi_)] a w) ?_ λhT2_17=>?_
   ·rintro a w ⟨bO, bP, hf, hm⟩
    refine tSv hf hm [1,0] rfl λhS=>tMo ?_ ?_
    ·refine tf rfl rfl (fun a hf => e_build0 (α := Ins_) et_46 hm rfl) ?_
     rintro aF w hm
     exact tAk hm [2,1] rfl λhS=>tUse hT2_12 λa hf=>⟨bO,bP,aF,hf.sb rfl,hm.pk [1,2,3,4,0] rfl rfl⟩
    refine tO (tf rfl rfl (λa hf=>e_build0 (α := Int) et_47 hm rfl) ?_)
    rintro aM w hm
    exact tAk hm [2,1] rfl λhS=>tUse hT2_10 λa hf=>⟨bO,bP,aM,hf.sb rfl,hm.pk [1,2,3,4,0] rfl rfl⟩
   refine tSh (od79_11) (λa w=>∃ (au bQ : Value),St 74 [(1,(pV aC)),(2,(pV aD)),(7,au),(10,(nV b_.jump)),(12,(nV b_.on)),(13,bQ),(15,v3)] w0 (hp w0) [blk aC [v1,v2,nV b_.jump,nV b_.on,v3] 49,blk aD [.slice none 0 0,.slice none 0 0,nV 0,nV 0,.slice none 0 0] 49,ow [au] ([] : List Phi_),ow [bQ] ([] : List Int)] a w) ?_ λhT2_18=>?_
   ·rintro a w ⟨au, bQ, hf, hm⟩
    refine tSv hf hm [1,0] rfl λhS=>tMo ?_ ?_
    ·refine tf rfl rfl (fun a hf => e_build0 (α := Ins_) et_46 hm rfl) ?_
     rintro aF w hm
     exact tAk hm [2,1] rfl λhS=>tUse hT2_13 λa hf=>⟨au,aF,bQ,hf.sb rfl,hm.pk [1,2,3,0,4] rfl rfl⟩
    refine tMo ?_ ?_
    ·obtain ⟨aN, aO⟩ := appM_some.1 ab
     refine tf rfl rfl (λa hf=>e_append 3 et_47 hf hm rfl (hm.now h3) rfl rfl rfl aN) ?_
     rintro aM w hm
     rw [aO] at hm
     exact tAk hm [1,0] rfl λhS=>tUse hT2_11 λa hf=>⟨au,aM,hf.sb rfl,hm.pk [0,1,2,3] rfl rfl⟩
    refine tO (tf rfl rfl (λa hf=>e_alloc hm zeroValue49 rfl rfl) ?_)
    rintro _ w ⟨aP,rfl,hm⟩
    exact tAk hm [2,1] rfl λhS=>tUse hT2_10 λa hf=>⟨aP,au,bQ,hf.sb rfl,hm.pk [1,2,0,3,4] rfl rfl⟩
   refine tSh (od79_10) (λa w=>∃ (bR bS : Value),St 74 [(1,(pV aC)),(2,(pV aD)),(7,bR),(8,bS),(10,(nV b_.jump)),(12,(nV b_.on)),(15,v3)] w0 (hp w0) [blk aC [v1,v2,nV b_.jump,nV b_.on,v3] 49,blk aD [.slice none 0 0,.slice none 0 0,nV 0,nV 0,.slice none 0 0] 49,ow [bR] ([] : List Phi_),ow [bS] ([] : List Ins_)] a w) ?_ λhT2_19=>?_
   ·rintro a w ⟨bR, bS, hf, hm⟩
    refine tSv hf hm [1,0] rfl λhS=>tMo ?_ ?_
    ·refine tf rfl rfl (fun a hf => e_build0 (α := Int) et_47 hm rfl) ?_
     rintro aF w hm
     exact tAk hm [2,1] rfl λhS=>tUse hT2_13 λa hf=>⟨bR,bS,aF,hf.sb rfl,hm.pk [1,2,3,4,0] rfl rfl⟩
    refine tO (tf rfl rfl (λa hf=>e_alloc hm zeroValue49 rfl rfl) ?_)
    rintro _ w ⟨aP,rfl,hm⟩
    exact tAk hm [2,1] rfl λhS=>tUse hT2_12 λa hf=>⟨aP,bR,bS,hf.sb rfl,hm.pk [1,2,0,3,4] rfl rfl⟩
   refine tMo ?_ ?_
   ·refine tf rfl rfl (fun a hf => e_build0 (α := Phi_) et_45 hm rfl) ?_
    rintro aF w hm
    refine tAk hm [1,2] rfl λhS=>tMo ?_ ?_
    ·refine tf rfl rfl (fun a hf => e_build0 (α := Ins_) et_46 hm rfl) ?_
     rintro aM w hm
     exact tAk hm [2,3] rfl λhS=>tUse hT2_19 λa hf=>⟨aF,aM,hf.sb rfl,hm.pk [3,2,1,0] rfl rfl⟩
    refine tMo ?_ ?_
    ·refine tf rfl rfl (fun a hf => e_build0 (α := Int) et_47 hm rfl) ?_
     rintro cK w hm
     exact tAk hm [2,3] rfl λhS=>tUse hT2_18 λa hf=>⟨aF,cK,hf.sb rfl,hm.pk [3,2,1,0] rfl rfl⟩
    refine tO (tf rfl rfl (λa hf=>e_alloc hm zeroValue49 rfl rfl) ?_)
    rintro _ w ⟨aP,rfl,hm⟩
    exact tAk hm [2,3] rfl λhS=>tUse hT2_17 λa hf=>⟨aP,aF,hf.sb rfl,hm.pk [3,2,0,1] rfl rfl⟩
   refine tMo ?_ ?_
   ·refine tf rfl rfl (fun a hf => e_build0 (α := Ins_) et_46 hm rfl) ?_
    rintro cL w hm
    refine tAk hm [1,2] rfl λhS=>tMo ?_ ?_
    ·refine tf rfl rfl (fun a hf => e_build0 (α := Phi_) et_45 hm rfl) ?_
     rintro cY w hm
     exact tAk hm [2,3] rfl λhS=>tUse hT2_19 λa hf=>⟨cY,cL,hf.sb rfl,hm.pk [3,2,0,1] rfl rfl⟩
    refine tMo ?_ ?_
    ·refine tf rfl rfl (fun a hf => e_build0 (α := Int) et_47 hm rfl) ?_
     rintro cZ w hm
     exact tAk hm [2,3] rfl λhS=>tUse hT2_16 λa hf=>⟨cL,cZ,hf.sb rfl,hm.pk [3,2,1,0] rfl rfl⟩
    refine tO (tf rfl rfl (λa hf=>e_alloc hm zeroValue49 rfl rfl) ?_)
    rintro _ w ⟨c4,rfl,hm⟩
    exact tAk hm [2,3] rfl λhS=>tUse hT2_15 λa hf=>⟨c4,cL,hf.sb rfl,hm.pk [3,2,0,1] rfl rfl⟩
   refine tMo ?_ ?_
   ·refine tf rfl rfl (fun a hf => e_build0 (α := Int) et_47 hm rfl) ?_
    rintro cM w hm
    refine tAk hm [1,2] rfl λhS=>tMo ?_ ?_
    ·refine tf rfl rfl (fun a hf => e_build0 (α := Phi_) et_45 hm rfl) ?_
     rintro c5 w hm
     exact tAk hm [2,3] rfl λhS=>tUse hT2_18 λa hf=>⟨c5,cM,hf.sb rfl,hm.pk [3,2,0,1] rfl rfl⟩
    refine tMo ?_ ?_
    ·refine tf rfl rfl (fun a hf => e_build0 (α := Ins_) et_46 hm rfl) ?_
     rintro c6 w hm
     exact tAk hm [2,3] rfl λhS=>tUse hT2_16 λa hf=>⟨c6,cM,hf.sb rfl,hm.pk [3,2,0,1] rfl rfl⟩
    refine tMo ?_ ?_
    ·obtain ⟨aN, aO⟩ := appM_some.1 ab
     refine tf rfl rfl (λa hf=>e_append 0 et_47 hf hm rfl (hm.now h3) rfl rfl rfl aN) ?_
     rintro cN w hm
     rw [aO] at hm
     refine tAk hm [1,2] rfl λhS=>tMo ?_ ?_
     ·refine tf rfl rfl (fun a hf => e_build0 (α := Phi_) et_45 hm rfl) ?_
      rintro c7 w hm
      exact tAk hm [2,3] rfl λhS=>tUse hT2_11 λa hf=>⟨c7,cN,hf.sb rfl,hm.pk [3,2,0,1] rfl rfl⟩
     refine tMo ?_ ?_
     ·refine tf rfl rfl (fun a hf => e_build0 (α := Ins_) et_46 hm rfl) ?_
      rintro c8 w hm
      exact tAk hm [2,3] rfl λhS=>tUse hT2_9 λa hf=>⟨c8,cN,hf.sb rfl,hm.pk [3,2,0,1] rfl rfl⟩
     refine tO (tf rfl rfl (λa hf=>e_alloc hm zeroValue49 rfl rfl) ?_)
     rintro _ w ⟨c9,rfl,hm⟩
     exact tAk hm [2,3] rfl λhS=>tUse hT2_7 λa hf=>⟨c9,cN,hf.sb rfl,hm.pk [3,2,0,1] rfl rfl⟩
    refine tO (tf rfl rfl (λa hf=>e_alloc hm zeroValue49 rfl rfl) ?_)
    rintro _ w ⟨ca,rfl,hm⟩
    exact tAk hm [2,3] rfl λhS=>tUse hT2_14 λa hf=>⟨ca,cM,hf.sb rfl,hm.pk [3,2,0,1] rfl rfl⟩
   refine tO (tf rfl rfl (λa hf=>e_alloc hm zeroValue49 rfl rfl) ?_)
   rintro _ w ⟨cO,rfl,hm⟩
   refine tAk hm [1,2] rfl λhS=>tMo ?_ ?_
   ·refine tf rfl rfl (fun a hf => e_build0 (α := Phi_) et_45 hm rfl) ?_
    rintro cb w hm
    exact tAk hm [2,3] rfl λhS=>tUse hT2_17 λa hf=>⟨cO,cb,hf.sb rfl,hm.pk [3,2,1,0] rfl rfl⟩
   refine tMo ?_ ?_
   ·refine tf rfl rfl (fun a hf => e_build0 (α := Ins_) et_46 hm rfl) ?_
    rintro cd w hm
    exact tAk hm [2,3] rfl λhS=>tUse hT2_15 λa hf=>⟨cO,cd,hf.sb rfl,hm.pk [3,2,1,0] rfl rfl⟩
   refine tO (tf rfl rfl (λa hf=>e_build0 (α := Int) et_47 hm rfl) ?_)
   rintro ce w hm
   exact tAk hm [2,3] rfl λhS=>tUse hT2_14 λa hf=>⟨cO,ce,hf.sb rfl,hm.pk [3,2,1,0] rfl rfl⟩
  repeat clear hm
  rintro aE a w ⟨aL,cA,cB,cC,hf,hm⟩
  refine gv hf (gS (gS (gR (gA rfl (gE ?_)))))
  obtain ⟨cf,cg,rfl,dD⟩ := ro_slice (hm.ow_rep 3 rfl)
  obtain ⟨aS,aT,rfl,dE⟩ := ro_slice (hm.ow_rep 4 rfl)
  obtain ⟨aG,aH,rfl,dF⟩ := ro_slice (hm.ow_rep 5 rfl)
  refine gBk (gNg (λcQ ac a w=>∃ (aV : Value),St 74 [(1,(pV aC)),(2,(pV aD)),(3,(pV aL)),(4,(nV cQ))] w0 (hp w0) [blk aC [v1,v2,nV b_.jump,nV b_.on,v3] 49,blk aD [.slice none 0 0,.slice none 0 0,nV 0,nV 0,.slice none 0 0] 49,blk aL [aV,.slice aS ([] : List Ins_).length aT,nV b_.jump,nV b_.on,.slice aG aE.length aH] 49,ow [aV] ac,ow [.slice aS ([] : List Ins_).length aT] ([] : List Ins_),ow [.slice aG aE.length aH] aE] a w) (λa hf=>⟨.slice cf ([] : List Phi_).length cg,hf.sb rfl,hm.pk [0,1,2,3,4,5] rfl rfl⟩) ?_ ?_)
  ·repeat clear hm
   rintro _ _ cQ ac a w ⟨aV,hf,hm⟩ dG dH dI _
   refine gv hf (gS (gS (gR (gM rfl (gF fo_49_0 rfl (gL hm 0 isAgg45 rfl ?_))))))
   obtain ⟨ci,bT,rfl,dJ⟩ := ro_slice h1
   refine gY (yV st_45 rfl) (gB rfl (gE (go _ 22 rfl (decide_eq_true (by omega)) (gct rfl (gSk (gS (gBk (gW (.p 0 (.p 2 (.p 4 (.p 9 (.p 11 (.q 1 (.q 3 (.p 5 (.p 6 (.q 7 (.q 10 (.p 12 (.p 13 (.q 14 (.e 8 (.e 15 (.p 16 (.e 17 (.e 18 (.p 19 (.e 20 .fin .nil)) .nil) .nil)) .nil) .nil))))))))))))))) [1,3,7,8,10,14,15,17] [0,2,4,5,6,9,11,12,13,16,19] hm [0,1,2,3,4,5] [blk aC [.slice ci b_.phis.length bT,v2,nV b_.jump,nV b_.on,v3] 49,blk aD [.slice none 0 0,.slice none 0 0,nV 0,nV 0,.slice none 0 0] 49,blk aL [aV,.slice aS ([] : List Ins_).length aT,nV b_.jump,nV b_.on,.slice aG aE.length aH] 49,ow [aV] ac,ow [.slice aS ([] : List Ins_).length aT] ([] : List Ins_),ow [.slice aG aE.length aH] aE] rfl mxo (by kernel_rfl) (λ_ _ _ h=>h.2) λw hm hS=>tP rfl (λw=>yF fo_49_0 rfl) (tP rfl (λw=>yF fo_49_0 rfl) (tP rfl (λw=>yM rfl) (tP rfl (λw=>yF fo_49_0 rfl) (tP rfl (λw=>yM rfl) (tQ rfl hS (λw hm=>yL hm 2 isAgg45 rfl) (tQ rfl hS (λw hm=>yL hm 0 isAgg45 rfl) (gg λaR cR bt=>?_)))))))))))))))
   obtain ⟨bu,bv,dK,he⟩ := idx_form' h1 bt
   obtain ⟨rfl,_,rfl⟩ := sl3 he
   obtain ⟨dL,cS,cj⟩ := rk_Phi_ h1 bt
   refine tP rfl (λw=>yI st_45 cR (idx_lt bt) rfl) (tP rfl (λw=>yF fo_105_0 rfl) (tQ rfl hS (λw hm=>yl isAgg3 ((cS.mono hm.lez).cell (j := 0) rfl) rfl) (tQ rfl hS (λw hm=>yL hm 0 isAgg45 rfl) (tP rfl (λw=>yI st_45 cR (idx_lt bt) rfl) (tP rfl (λw=>yF fo_105_1 rfl) (tQ rfl hS (λw hm=>yl isAgg47 ((cS.mono hm.lez).cell (j := 1) rfl) rfl) (tO (tf rfl rfl (λa hf=>e_build0 (α := Int) et_47 hm rfl) ?_))))))))
   rintro dM w hm
   refine tAk hm [1,2,3,4,5,6] rfl λhS=>tO (gb λaW ck=>?_)
   obtain ⟨cl,cm⟩ := appM_some.1 ck
   refine tf rfl rfl (λa hf=>e_append 0 et_47 hf hm rfl (hm.now cj) rfl rfl rfl cl) ?_
   rintro dN w hm
   rw [cm] at hm
   refine tAk hm [1,2,3,4,5,6] rfl λhS=>?_
   obtain ⟨ae,af,rfl,dO⟩ := ro_slice (hm.ow_rep 0 rfl)
   refine tP rfl (λw=>yG rfl (y_build (vs := [(0,(nV aR.to)),(1,(.slice ae aW.length af))]) (cs := #[nV aR.to,.slice ae aW.length af]) rfl rfl (by kernel_rfl))) (tO (tf rfl rfl (λa hf=>e_build (vs := #[(0,(.agg #[nV aR.to,.slice ae aW.length af]))]) (cs := [nV aR.to,.slice ae aW.length af]) et_45 hf hm rfl rfl (by kernel_rfl) rfl rfl) ?_))
   rintro _ w ⟨bx,rfl,hm⟩
   replace hm := hm.els_nil (α := Phi_)
   replace hm : Mem w0 (hp w0) _ [els [] ([] : List Phi_),blk bx [nV aR.to,.slice ae aW.length af] 105,ow [nV aR.to,.slice ae aW.length af] ((⟨aR.to,aW⟩ : Phi_) : Phi_),blk aC [sV bu bv b_.phis.length bT,v2,nV b_.jump,nV b_.on,v3] 49,blk aD [.slice none 0 0,.slice none 0 0,nV 0,nV 0,.slice none 0 0] 49,blk aL [aV,.slice aS ([] : List Ins_).length aT,nV b_.jump,nV b_.on,.slice aG aE.length aH] 49,ow [aV] ac,ow [.slice aS ([] : List Ins_).length aT] ([] : List Ins_),ow [.slice aG aE.length aH] aE] := mk_Phi_ aR.to hm 2 rfl
   replace hm := (hm.els_cons 0 2 (by decide) rfl rfl).pk (L' := [els [nV aR.to,.slice ae aW.length af] ([(⟨aR.to,aW⟩ : Phi_)] : List Phi_),blk bx [nV aR.to,.slice ae aW.length af] 105,blk aC [sV bu bv b_.phis.length bT,v2,nV b_.jump,nV b_.on,v3] 49,blk aD [.slice none 0 0,.slice none 0 0,nV 0,nV 0,.slice none 0 0] 49,blk aL [aV,.slice aS ([] : List Ins_).length aT,nV b_.jump,nV b_.on,.slice aG aE.length aH] 49,ow [aV] ac,ow [.slice aS ([] : List Ins_).length aT] ([] : List Ins_),ow [.slice aG aE.length aH] aE]) [0,1,3,4,5,6,7,8] rfl rfl
   replace hm := (hm.lit_els 1 0 (by decide) rfl rfl rfl rfl).pk (L' := [ow [sV bx 0 1 1] ([(⟨aR.to,aW⟩ : Phi_)] : List Phi_),blk aC [sV bu bv b_.phis.length bT,v2,nV b_.jump,nV b_.on,v3] 49,blk aD [.slice none 0 0,.slice none 0 0,nV 0,nV 0,.slice none 0 0] 49,blk aL [aV,.slice aS ([] : List Ins_).length aT,nV b_.jump,nV b_.on,.slice aG aE.length aH] 49,ow [aV] ac,ow [.slice aS ([] : List Ins_).length aT] ([] : List Ins_),ow [.slice aG aE.length aH] aE]) [1,2,3,4,5,6,7] rfl rfl
   refine tAk hm [1,2,3,4,5,6] rfl λhS=>tO (gb λdP cn=>?_)
   obtain ⟨co,cq⟩ := appM_some.1 cn
   replace hm := (hm.both 4 0 (by decide) rfl rfl).pk (L' := [blk aC [sV bu bv b_.phis.length bT,v2,nV b_.jump,nV b_.on,v3] 49,blk aD [.slice none 0 0,.slice none 0 0,nV 0,nV 0,.slice none 0 0] 49,blk aL [aV,.slice aS ([] : List Ins_).length aT,nV b_.jump,nV b_.on,.slice aG aE.length aH] 49,both (ow [aV] ac) (ow [sV bx 0 1 1] ([(⟨aR.to,aW⟩ : Phi_)] : List Phi_)),ow [.slice aS ([] : List Ins_).length aT] ([] : List Ins_),ow [.slice aG aE.length aH] aE]) [1,2,3,4,5,6] rfl rfl
   refine tf rfl rfl (λa hf=>e_appendD (xs := ac) (ys := ([(⟨aR.to,aW⟩ : Phi_)] : List Phi_)) 3 et_45 hf hm rfl rfl rfl rfl co) ?_
   rintro cr w hm
   rw [cq] at hm
   refine tAn rfl (tP rfl (λw=>yF fo_49_0 rfl) (tO (tf0 rfl rfl (λa hf=>e_store1 2 hf hm rfl sizeOf45 rfl rfl rfl (rep_one (hm.ow_rep 3 rfl)) rfl) ?_)))
   rintro _ w hm
   exact tAn rfl (tE (gR (gM rfl (gP (by omega) (by omega) rfl (gA rfl (gE (gZe λa hf=>⟨cr,hf.sb rfl,hm.pk [0,1,2,3,4,5] rfl rfl⟩)))))))
  repeat clear hm
  rintro dQ aJ a w ⟨dR,hf,hm⟩ dS dT
  refine gv hf (gS (gS (gR (gM rfl (gF fo_49_0 rfl (gL hm 0 isAgg45 rfl ?_))))))
  obtain ⟨av,aw,rfl,dU⟩ := ro_slice h1
  refine gY (yV st_45 rfl) (gB rfl (gE (go _ 22 rfl (decide_eq_false (by omega)) (gcf rfl (gXt (gHh (gS (gS (gR (gA rfl (gE ?_)))))))))))
  obtain ⟨aX,aY,rfl,dV⟩ := ro_slice (hm.ow_rep 3 rfl)
  refine gBk (gNg (λcT ah a w=>∃ (aZ : Value),St 74 [(1,(pV aC)),(2,(pV aD)),(3,(pV aL)),(5,(nV cT))] w0 (hp w0) [blk aC [.slice av b_.phis.length aw,v2,nV b_.jump,nV b_.on,v3] 49,blk aD [.slice none 0 0,.slice none 0 0,nV 0,nV 0,.slice none 0 0] 49,blk aL [.slice aX aJ.length aY,aZ,nV b_.jump,nV b_.on,.slice aG aE.length aH] 49,ow [.slice aX aJ.length aY] aJ,ow [aZ] ah,ow [.slice aG aE.length aH] aE] a w) (λa hf=>⟨.slice aS ([] : List Ins_).length aT,hf.sb rfl,hm.pk [0,1,2,3,4,5] rfl rfl⟩) ?_ ?_)
  ·repeat clear hm
   rintro _ _ cT ah a w ⟨aZ,hf,hm⟩ dW dX dY _
   refine gv hf (gS (gS (gR (gM rfl (gF fo_49_1 rfl (gL hm 0 isAgg46 rfl ?_))))))
   obtain ⟨dZ,bU,rfl,d4⟩ := ro_slice h2
   refine gY (yV st_46 rfl) (gB rfl (gE (go _ 49 rfl (decide_eq_true (by omega)) (gct rfl (gSk (gS (gBk (gS (gR (gF fo_49_1 rfl (gL hm 0 isAgg46 rfl (gM rfl (gg λaA ct cP=>?_)))))))))))))
   obtain ⟨bV,bW,d5,he⟩ := idx_form' h2 cP
   obtain ⟨rfl,_,rfl⟩ := sl3 he
   obtain ⟨bX,cu,cU⟩ := rk_Ins_ h2 cP
   refine gI st_46 ct (idx_lt cP) rfl (gY (yn (cu.mono hm.lez) isAgg51 sizeOf51 rfl) (gAl hm zeroValue51 rfl λbY w hm=>gSN hm 0 sizeOf51 (one_cons rfl (one_cons rfl (one_cons (rep_one cU) (one_cons rfl one_nil)))) rfl λw hm=>gE (gW (.p 0 (.p 2 (.p 4 (.p 7 (.p 10 (.q 1 (.q 3 (.q 5 (.q 8 (.q 11 (.e 6 (.e 9 (.p 12 (.e 13 (.e 14 (.p 15 (.e 16 .fin .nil)) .nil) .nil)) .nil) .nil))))))))))) [1,3,5,6,8,9,11,13] [0,2,4,7,10,12,15] hm [0,1,2,3,4,5,6] [blk bY [nV aA.op,nV aA.to,bX,nV aA.n_] 51,blk aC [.slice av b_.phis.length aw,sV bV bW b_.ins.length bU,nV b_.jump,nV b_.on,v3] 49,blk aD [.slice none 0 0,.slice none 0 0,nV 0,nV 0,.slice none 0 0] 49,blk aL [.slice aX aJ.length aY,aZ,nV b_.jump,nV b_.on,.slice aG aE.length aH] 49,ow [.slice aX aJ.length aY] aJ,ow [aZ] ah,ow [.slice aG aE.length aH] aE] rfl mxo (by kernel_rfl) (λ_ _ _ h=>h.2) λw hm hS=>tP rfl (λw=>yF fo_49_1 rfl) (tP rfl (λw=>yF fo_51_0 rfl) (tP rfl (λw=>yF fo_51_1 rfl) (tP rfl (λw=>yF fo_51_2 rfl) (tP rfl (λw=>yF fo_51_3 rfl) (tQ rfl hS (λw hm=>yL hm 3 isAgg46 rfl) (tQ rfl hS (λw hm=>yL hm 0 isAgg3 rfl) (tQ rfl hS (λw hm=>yL hm 0 isAgg3 rfl) (tQ rfl hS (λw hm=>yL hm 0 isAgg47 rfl) (tQ rfl hS (λw hm=>yL hm 0 isAgg3 rfl) (tO (tf rfl rfl (λa hf=>e_build0 (α := Int) et_47 hm rfl) ?_))))))))))))))
   rintro d6 w hm
   refine tAk hm [1,2,3,4,5,6,7] rfl λhS=>tO (gb λaa cv=>?_)
   obtain ⟨cw,cx⟩ := appM_some.1 cv
   refine tf rfl rfl (λa hf=>e_append 0 et_47 hf hm rfl (hm.now cU) rfl rfl rfl cw) ?_
   rintro d7 w hm
   rw [cx] at hm
   refine tAk hm [1,2,3,4,5,6,7] rfl λhS=>?_
   obtain ⟨ai,aj,rfl,d8⟩ := ro_slice (hm.ow_rep 0 rfl)
   refine tP rfl (λw=>yG rfl (y_build (vs := [(0,(nV aA.op)),(1,(nV aA.to)),(2,(.slice ai aa.length aj)),(3,(nV aA.n_))]) (cs := #[nV aA.op,nV aA.to,.slice ai aa.length aj,nV aA.n_]) rfl rfl (by kernel_rfl))) (tO (tf rfl rfl (λa hf=>e_build (vs := #[(0,(.agg #[nV aA.op,nV aA.to,.slice ai aa.length aj,nV aA.n_]))]) (cs := [nV aA.op,nV aA.to,.slice ai aa.length aj,nV aA.n_]) et_46 hf hm rfl rfl (by kernel_rfl) rfl rfl) ?_))
   rintro _ w ⟨bz,rfl,hm⟩
   replace hm := hm.els_nil (α := Ins_)
   replace hm : Mem w0 (hp w0) _ [els [] ([] : List Ins_),blk bz [nV aA.op,nV aA.to,.slice ai aa.length aj,nV aA.n_] 51,ow [nV aA.op,nV aA.to,.slice ai aa.length aj,nV aA.n_] ((⟨aA.op,aA.to,aa,aA.n_⟩ : Ins_) : Ins_),blk bY [nV aA.op,nV aA.to,bX,nV aA.n_] 51,blk aC [.slice av b_.phis.length aw,sV bV bW b_.ins.length bU,nV b_.jump,nV b_.on,v3] 49,blk aD [.slice none 0 0,.slice none 0 0,nV 0,nV 0,.slice none 0 0] 49,blk aL [.slice aX aJ.length aY,aZ,nV b_.jump,nV b_.on,.slice aG aE.length aH] 49,ow [.slice aX aJ.length aY] aJ,ow [aZ] ah,ow [.slice aG aE.length aH] aE] := mk_Ins_ aA.op aA.to aA.n_ hm 2 rfl
   replace hm := (hm.els_cons 0 2 (by decide) rfl rfl).pk (L' := [els [nV aA.op,nV aA.to,.slice ai aa.length aj,nV aA.n_] ([(⟨aA.op,aA.to,aa,aA.n_⟩ : Ins_)] : List Ins_),blk bz [nV aA.op,nV aA.to,.slice ai aa.length aj,nV aA.n_] 51,blk bY [nV aA.op,nV aA.to,bX,nV aA.n_] 51,blk aC [.slice av b_.phis.length aw,sV bV bW b_.ins.length bU,nV b_.jump,nV b_.on,v3] 49,blk aD [.slice none 0 0,.slice none 0 0,nV 0,nV 0,.slice none 0 0] 49,blk aL [.slice aX aJ.length aY,aZ,nV b_.jump,nV b_.on,.slice aG aE.length aH] 49,ow [.slice aX aJ.length aY] aJ,ow [aZ] ah,ow [.slice aG aE.length aH] aE]) [0,1,3,4,5,6,7,8,9] rfl rfl
   replace hm := (hm.lit_els 1 0 (by decide) rfl rfl rfl rfl).pk (L' := [ow [sV bz 0 1 1] ([(⟨aA.op,aA.to,aa,aA.n_⟩ : Ins_)] : List Ins_),blk bY [nV aA.op,nV aA.to,bX,nV aA.n_] 51,blk aC [.slice av b_.phis.length aw,sV bV bW b_.ins.length bU,nV b_.jump,nV b_.on,v3] 49,blk aD [.slice none 0 0,.slice none 0 0,nV 0,nV 0,.slice none 0 0] 49,blk aL [.slice aX aJ.length aY,aZ,nV b_.jump,nV b_.on,.slice aG aE.length aH] 49,ow [.slice aX aJ.length aY] aJ,ow [aZ] ah,ow [.slice aG aE.length aH] aE]) [1,2,3,4,5,6,7,8] rfl rfl
   refine tAk hm [1,2,3,4,5,6,7] rfl λhS=>tO (gb λd9 cy=>?_)
   obtain ⟨cz,dA⟩ := appM_some.1 cy
   replace hm := (hm.both 6 0 (by decide) rfl rfl).pk (L' := [blk bY [nV aA.op,nV aA.to,bX,nV aA.n_] 51,blk aC [.slice av b_.phis.length aw,sV bV bW b_.ins.length bU,nV b_.jump,nV b_.on,v3] 49,blk aD [.slice none 0 0,.slice none 0 0,nV 0,nV 0,.slice none 0 0] 49,blk aL [.slice aX aJ.length aY,aZ,nV b_.jump,nV b_.on,.slice aG aE.length aH] 49,ow [.slice aX aJ.length aY] aJ,both (ow [aZ] ah) (ow [sV bz 0 1 1] ([(⟨aA.op,aA.to,aa,aA.n_⟩ : Ins_)] : List Ins_)),ow [.slice aG aE.length aH] aE]) [1,2,3,4,5,6,7] rfl rfl
   refine tf rfl rfl (λa hf=>e_appendD (xs := ah) (ys := ([(⟨aA.op,aA.to,aa,aA.n_⟩ : Ins_)] : List Ins_)) 5 et_46 hf hm rfl rfl rfl rfl cz) ?_
   rintro dB w hm
   rw [dA] at hm
   refine tAn rfl (tP rfl (λw=>yF fo_49_1 rfl) (tO (tf0 rfl rfl (λa hf=>e_store1 3 hf hm rfl sizeOf46 rfl rfl rfl (rep_one (hm.ow_rep 5 rfl)) rfl) ?_)))
   rintro _ w hm
   exact tAn rfl (tE (gR (gM rfl (gP (by omega) (by omega) rfl (gA rfl (gE (gZe λa hf=>⟨dB,hf.sb rfl,hm.pk [1,2,3,4,5,6] rfl rfl⟩)))))))
  repeat clear hm
  rintro da db a w ⟨dC,hf,hm⟩ dc dd
  refine gv hf (gS (gS (gR (gM rfl (gF fo_49_1 rfl (gL hm 0 isAgg46 rfl ?_))))))
  obtain ⟨de,df,rfl,dg⟩ := ro_slice h2
  exact gY (yV st_46 rfl) (gB rfl (gE (go _ 49 rfl (decide_eq_false (by omega)) (gcf rfl (gXt (gHh (gS (gR (gY (yn (hm.blk_at 2 rfl) isAgg49 sizeOf49 rfl) (gSN hm 1 sizeOf49 (one_cons rfl (one_cons (rep_one (hm.ow_rep 4 rfl)) (one_cons rfl (one_cons rfl (one_cons rfl one_nil))))) rfl λw hm=>gE (gRt (grc 1 results79 hm rfl isAgg49 sizeOf49 ⟨.slice aX aJ.length aY,dC,.slice aG aE.length aH,rfl,hm.pk [3,4,5] rfl rfl⟩))))))))))))
theorem spec_l7Copy_ok (w0 : World) (c_ : Code_) (v1 : Value) (h1 : GT.rep (hp w0) [v1] c_.blocks) :
    ConM Tryz.prog 45 [(.agg #[nV c_.params,nV c_.regs,v1])] w0 (spec_l7Copy c_) λr v w'=>∃ (x1 : Value),v = (.agg #[nV r.params,nV r.regs,x1]) ∧ Mem w0 (hp w0) w' [ow [x1] r.blocks] := by
  unfold spec_l7Copy
  refine gcon func45 rfl λr=>?_
  have hm := Mem.start w0
  refine gS (gR (gBx hm rfl λaE w hm=>gAl hm zeroValue44 rfl λaF w hm=>gE (gS (gR (gF fo_44_0 rfl (gL hm 1 isAgg3 rfl (gF fo_44_1 rfl (gL hm 1 isAgg3 rfl (gY (yG rfl (y_build (vs := [(0,(nV c_.params)),(1,(nV c_.regs))]) (cs := #[nV c_.params,nV c_.regs,.slice none 0 0]) rfl rfl (by kernel_rfl))) (gAl hm zeroValue44 rfl λaG w hm=>gSN hm 0 sizeOf44 (one_cons rfl (one_cons rfl (one_cons rfl one_nil))) rfl λw hm=>gE (gS (gS (gR (gA rfl (gE (gBk ?_))))))))))))))))
  replace hm := hm.nilow (α := Block_)
  refine gNg (λaR aD a w=>∃ (aC : Value),St 29 [(1,(pV aE)),(2,(pV aF)),(3,(pV aG)),(4,(nV aR))] w0 (hp w0) [blk aE [nV c_.params,nV c_.regs,v1] 44,blk aF [nV 0,nV 0,.slice none 0 0] 44,blk aG [nV c_.params,nV c_.regs,aC] 44,ow [aC] aD] a w) (λa hf=>⟨.slice none 0 0,hf.sb rfl,hm.pk [3,2,1,0] rfl rfl⟩) ?_ ?_
  ·repeat clear hm
   rintro _ _ aR aD a w ⟨aC,hf,hm⟩ al am an _
   refine gv hf (gS (gS (gR (gM rfl (gF fo_44_2 rfl (gL hm 0 isAgg42 rfl ?_))))))
   obtain ⟨aS,aM,rfl,ao⟩ := ro_slice h1
   refine gY (yV st_42 rfl) (gB rfl (gE (go _ 14 rfl (decide_eq_true (by omega)) (gct rfl (gSk (gS (gBk (gW (.p 0 (.p 2 (.p 4 (.q 1 (.e 3 (.p 5 (.e 6 (.e 7 (.e 8 (.e 9 (.p 10 (.e 11 .fin .nil)) .nil) .nil) .nil) .nil)) .nil))))) [3,6,7,8] [0,2,4,5,10] hm [0,1,2,3] [blk aE [nV c_.params,nV c_.regs,.slice aS c_.blocks.length aM] 44,blk aF [nV 0,nV 0,.slice none 0 0] 44,blk aG [nV c_.params,nV c_.regs,aC] 44,ow [aC] aD] rfl mxo (by kernel_rfl) (λ_ _ _ h=>h.2) λw hm hS=>tP rfl (λw=>yF fo_44_2 rfl) (tP rfl (λw=>yF fo_44_2 rfl) (tP rfl (λw=>yM rfl) (tQ rfl hS (λw hm=>yL hm 2 isAgg42 rfl) (tO (tY rfl (yL hm 0 isAgg42 rfl) (tAs hS (gg λaT aV aQ=>?_)))))))))))))))
   obtain ⟨aN,aO,ap,he⟩ := idx_form' h1 aQ
   obtain ⟨rfl,_,rfl⟩ := sl3 he
   obtain ⟨aW,aX,aY,aZ,aa,ab,ac⟩ := rk_Block_ h1 aQ
   refine tP rfl (λw=>yI st_42 aV (idx_lt aQ) rfl) (tO (tY rfl (yn (aZ.mono hm.lez) isAgg49 sizeOf49 rfl) (tAs hS (tO (gb λaA ae=>tf rfl rfl (λa hf=>e_call hf rfl call79 rfl (spec_l7CopyBlock_ok _ aT aW (hm.now aa) aX (hm.now ab) aY (hm.now ac) _ ae)) ?_)))))
   rintro aq w ⟨aH,aJ,aL,rfl,hB⟩
   replace hm := hm.give hB; clear hB
   refine tAk hm [3,4,5,6] rfl λhS=>tO (tf rfl rfl (λa hf=>e_build (vs := #[(0,(.agg #[aH,aJ,nV aA.jump,nV aA.on,aL]))]) (cs := [aH,aJ,nV aA.jump,nV aA.on,aL]) et_42 hf hm rfl rfl (by kernel_rfl) rfl rfl) ?_)
   rintro _ w ⟨aP,rfl,hm⟩
   replace hm := hm.els_nil (α := Block_)
   replace hm := (mk_Block_ aA.jump aA.on hm 2 3 4 rfl).pk (L' := [els [] ([] : List Block_),blk aP [aH,aJ,nV aA.jump,nV aA.on,aL] 49,ow [aH,aJ,nV aA.jump,nV aA.on,aL] (aA : Block_),blk aE [nV c_.params,nV c_.regs,sV aN aO c_.blocks.length aM] 44,blk aF [nV 0,nV 0,.slice none 0 0] 44,blk aG [nV c_.params,nV c_.regs,aC] 44,ow [aC] aD]) [0,1,2,5,6,7,8] rfl rfl
   replace hm := (hm.els_cons 0 2 (by decide) rfl rfl).pk (L' := [els [aH,aJ,nV aA.jump,nV aA.on,aL] ([aA] : List Block_),blk aP [aH,aJ,nV aA.jump,nV aA.on,aL] 49,blk aE [nV c_.params,nV c_.regs,sV aN aO c_.blocks.length aM] 44,blk aF [nV 0,nV 0,.slice none 0 0] 44,blk aG [nV c_.params,nV c_.regs,aC] 44,ow [aC] aD]) [0,1,3,4,5,6] rfl rfl
   replace hm := (hm.lit_els 1 0 (by decide) rfl rfl rfl rfl).pk (L' := [ow [sV aP 0 1 1] ([aA] : List Block_),blk aE [nV c_.params,nV c_.regs,sV aN aO c_.blocks.length aM] 44,blk aF [nV 0,nV 0,.slice none 0 0] 44,blk aG [nV c_.params,nV c_.regs,aC] 44,ow [aC] aD]) [1,2,3,4,5] rfl rfl
   refine tAk hm [1,2,3,4] rfl λhS=>tO (gb λar af=>?_)
   obtain ⟨ah,ai⟩ := appM_some.1 af
   replace hm := (hm.both 4 0 (by decide) rfl rfl).pk (L' := [blk aE [nV c_.params,nV c_.regs,sV aN aO c_.blocks.length aM] 44,blk aF [nV 0,nV 0,.slice none 0 0] 44,blk aG [nV c_.params,nV c_.regs,aC] 44,both (ow [aC] aD) (ow [sV aP 0 1 1] ([aA] : List Block_))]) [1,2,3,4] rfl rfl
   refine tf rfl rfl (λa hf=>e_appendD (xs := aD) (ys := ([aA] : List Block_)) 3 et_42 hf hm rfl rfl rfl rfl ah) ?_
   rintro aj w hm
   rw [ai] at hm
   refine tAn rfl (tP rfl (λw=>yF fo_44_2 rfl) (tO (tf0 rfl rfl (λa hf=>e_store1 2 hf hm rfl sizeOf42 rfl rfl rfl (rep_one (hm.ow_rep 3 rfl)) rfl) ?_)))
   rintro _ w hm
   exact tAn rfl (tE (gR (gM rfl (gP (by omega) (by omega) rfl (gA rfl (gE (gZe λa hf=>⟨aj,hf.sb rfl,hm.pk [0,1,2,3] rfl rfl⟩)))))))
  repeat clear hm
  rintro au av a w ⟨ak,hf,hm⟩ aw ax
  refine gv hf (gS (gS (gR (gM rfl (gF fo_44_2 rfl (gL hm 0 isAgg42 rfl ?_))))))
  obtain ⟨ay,az,rfl,bA⟩ := ro_slice h1
  exact gY (yV st_42 rfl) (gB rfl (gE (go _ 14 rfl (decide_eq_false (by omega)) (gcf rfl (gXt (gHh (gS (gR (gY (yn (hm.blk_at 2 rfl) isAgg44 sizeOf44 rfl) (gSN hm 1 sizeOf44 (one_cons rfl (one_cons rfl (one_cons (rep_one (hm.ow_rep 3 rfl)) one_nil))) rfl λw hm=>gE (gRt (grc 1 results45 hm rfl isAgg44 sizeOf44 ⟨ak,rfl,hm.pk [3] rfl rfl⟩))))))))))))
theorem spec_l7CopyUnit_ok (w0 : World) (u : Unit_) (v1 : Value) (h1 : GT.rep (hp w0) [v1] u.codes) :
    ConM Tryz.prog 20 [(.agg #[v1])] w0 (spec_l7CopyUnit u) λr v w'=>∃ (x1 : Value),v = (.agg #[x1]) ∧ Mem w0 (hp w0) w' [ow [x1] r.codes] := by
  unfold spec_l7CopyUnit
  refine gcon func20 rfl λr=>?_
  have hm := Mem.start w0
  refine gS (gR (gBx hm rfl λaE w hm=>gAl hm zeroValue28 rfl λaF w hm=>gE (gS (gR (gY (yG rfl (y_build (vs := []) (cs := #[.slice none 0 0]) rfl rfl (by kernel_rfl))) (gAl hm zeroValue28 rfl λaG w hm=>gSN hm 0 sizeOf28 (one_cons rfl one_nil) rfl λw hm=>gE (gS (gS (gR (gA rfl (gE (gBk ?_))))))))))))
  replace hm := hm.nilow (α := Code_)
  refine gNg (λaP aD a w=>∃ (aC : Value),St 25 [(1,(pV aE)),(2,(pV aF)),(3,(pV aG)),(4,(nV aP))] w0 (hp w0) [blk aE [v1] 28,blk aF [.slice none 0 0] 28,blk aG [aC] 28,ow [aC] aD] a w) (λa hf=>⟨.slice none 0 0,hf.sb rfl,hm.pk [3,2,1,0] rfl rfl⟩) ?_ ?_
  ·repeat clear hm
   rintro _ _ aP aD a w ⟨aC,hf,hm⟩ ae af ah _
   refine gv hf (gS (gS (gR (gM rfl (gF fo_28_0 rfl (gL hm 0 isAgg26 rfl ?_))))))
   obtain ⟨aQ,aJ,rfl,ai⟩ := ro_slice h1
   refine gY (yV st_26 rfl) (gB rfl (gE (go _ 10 rfl (decide_eq_true (by omega)) (gct rfl (gSk (gS (gBk (gW (.p 0 (.p 2 (.p 4 (.q 1 (.e 3 (.p 5 (.e 6 (.e 7 (.e 8 (.e 9 (.p 10 (.e 11 .fin .nil)) .nil) .nil) .nil) .nil)) .nil))))) [3,6,7,8] [0,2,4,5,10] hm [0,1,2,3] [blk aE [.slice aQ u.codes.length aJ] 28,blk aF [.slice none 0 0] 28,blk aG [aC] 28,ow [aC] aD] rfl mxo (by kernel_rfl) (λ_ _ _ h=>h.2) λw hm hS=>tP rfl (λw=>yF fo_28_0 rfl) (tP rfl (λw=>yF fo_28_0 rfl) (tP rfl (λw=>yM rfl) (tQ rfl hS (λw hm=>yL hm 2 isAgg26 rfl) (tO (tY rfl (yL hm 0 isAgg26 rfl) (tAs hS (gg λaR aS aO=>?_)))))))))))))))
   obtain ⟨aL,aM,aj,he⟩ := idx_form' h1 aO
   obtain ⟨rfl,_,rfl⟩ := sl3 he
   obtain ⟨aT,aV,aW⟩ := rk_Code_ h1 aO
   refine tP rfl (λw=>yI st_26 aS (idx_lt aO) rfl) (tO (tY rfl (yn (aV.mono hm.lez) isAgg44 sizeOf44 rfl) (tAs hS (tO (gb λaA aX=>tf rfl rfl (λa hf=>e_call hf rfl call45 rfl (spec_l7Copy_ok _ aR aT (hm.now aW) _ aX)) ?_)))))
   rintro ak w ⟨aH,rfl,hB⟩
   replace hm := hm.give hB; clear hB
   refine tAk hm [1,2,3,4] rfl λhS=>tO (tf rfl rfl (λa hf=>e_build (vs := #[(0,(.agg #[nV aA.params,nV aA.regs,aH]))]) (cs := [nV aA.params,nV aA.regs,aH]) et_26 hf hm rfl rfl (by kernel_rfl) rfl rfl) ?_)
   rintro _ w ⟨aN,rfl,hm⟩
   replace hm := hm.els_nil (α := Code_)
   replace hm : Mem w0 (hp w0) _ [els [] ([] : List Code_),blk aN [nV aA.params,nV aA.regs,aH] 44,ow [nV aA.params,nV aA.regs,aH] (aA : Code_),blk aE [sV aL aM u.codes.length aJ] 28,blk aF [.slice none 0 0] 28,blk aG [aC] 28,ow [aC] aD] := mk_Code_ aA.params aA.regs hm 2 rfl
   replace hm := (hm.els_cons 0 2 (by decide) rfl rfl).pk (L' := [els [nV aA.params,nV aA.regs,aH] ([aA] : List Code_),blk aN [nV aA.params,nV aA.regs,aH] 44,blk aE [sV aL aM u.codes.length aJ] 28,blk aF [.slice none 0 0] 28,blk aG [aC] 28,ow [aC] aD]) [0,1,3,4,5,6] rfl rfl
   replace hm := (hm.lit_els 1 0 (by decide) rfl rfl rfl rfl).pk (L' := [ow [sV aN 0 1 1] ([aA] : List Code_),blk aE [sV aL aM u.codes.length aJ] 28,blk aF [.slice none 0 0] 28,blk aG [aC] 28,ow [aC] aD]) [1,2,3,4,5] rfl rfl
   refine tAk hm [1,2,3,4] rfl λhS=>tO (gb λal aY=>?_)
   obtain ⟨aZ,aa⟩ := appM_some.1 aY
   replace hm := (hm.both 4 0 (by decide) rfl rfl).pk (L' := [blk aE [sV aL aM u.codes.length aJ] 28,blk aF [.slice none 0 0] 28,blk aG [aC] 28,both (ow [aC] aD) (ow [sV aN 0 1 1] ([aA] : List Code_))]) [1,2,3,4] rfl rfl
   refine tf rfl rfl (λa hf=>e_appendD (xs := aD) (ys := ([aA] : List Code_)) 3 et_26 hf hm rfl rfl rfl rfl aZ) ?_
   rintro ab w hm
   rw [aa] at hm
   refine tAn rfl (tP rfl (λw=>yF fo_28_0 rfl) (tO (tf0 rfl rfl (λa hf=>e_store1 2 hf hm rfl sizeOf26 rfl rfl rfl (rep_one (hm.ow_rep 3 rfl)) rfl) ?_)))
   rintro _ w hm
   exact tAn rfl (tE (gR (gM rfl (gP (by omega) (by omega) rfl (gA rfl (gE (gZe λa hf=>⟨ab,hf.sb rfl,hm.pk [0,1,2,3] rfl rfl⟩)))))))
  repeat clear hm
  rintro am an a w ⟨ac,hf,hm⟩ ao ap
  refine gv hf (gS (gS (gR (gM rfl (gF fo_28_0 rfl (gL hm 0 isAgg26 rfl ?_))))))
  obtain ⟨aq,ar,rfl,au⟩ := ro_slice h1
  exact gY (yV st_26 rfl) (gB rfl (gE (go _ 10 rfl (decide_eq_false (by omega)) (gcf rfl (gXt (gHh (gS (gR (gY (yn (hm.blk_at 2 rfl) isAgg28 sizeOf28 rfl) (gSN hm 1 sizeOf28 (one_cons (rep_one (hm.ow_rep 3 rfl)) one_nil) rfl λw hm=>gE (gRt (grc 1 results20 hm rfl isAgg28 sizeOf28 ⟨ac,rfl,hm.pk [3] rfl rfl⟩))))))))))))
theorem spec_l7Each_ok (w0 : World) (c_ : Code_) (v1 : Value) (h1 : GT.rep (hp w0) [v1] c_.blocks) (to : List Int) (v2 : Value) (h2 : GT.rep (hp w0) [v2] to) :
    ConM Tryz.prog 46 [(.agg #[nV c_.params,nV c_.regs,v1]),v2] w0 (spec_l7Each c_ to) λr v w'=>∃ (x1 : Value),v = (.agg #[nV r.params,nV r.regs,x1]) ∧ Mem w0 (hp w0) w' [ow [x1] r.blocks] := by
  unfold spec_l7Each
  refine gcon func46 rfl λr=>?_
  have hm := Mem.start w0
  refine gS (gR (gBx hm rfl λc5 w hm=>gAl hm zeroValue44 rfl λaL w hm=>gE (gS (gR (gY (yn (hm.blk_at 1 rfl) isAgg44 sizeOf44 rfl) (gCg rfl call45 (spec_l7Copy_ok _ c_ v1 (hm.now h1)) ?_))))))
  rintro aA c6 c7 w ⟨c8,rfl,hB⟩
  replace hm := hm.give hB; clear hB
  refine gAl hm zeroValue44 rfl λaM w hm=>gSN hm 0 sizeOf44 (one_cons rfl (one_cons rfl (one_cons (rep_one (hm.ow_rep 1 rfl)) one_nil))) rfl λw hm=>gE (gS (gS (gR (gA rfl (gE ?_)))))
  obtain ⟨az,aF,rfl,c9⟩ := ro_slice (hm.ow_rep 1 rfl)
  refine gBk (gNf hm (λaJ aR=>[(1,v2),(4,(pV aL)),(5,(pV aM)),(6,(nV aJ))]) (λaJ aR=>[blk aL [nV 0,nV 0,.slice none 0 0] 44,blk aM [nV aA.params,nV aA.regs,.slice az aA.blocks.length aF] 44,ow [.slice az aA.blocks.length aF] aR]) [2,0,1] rfl ?_ ?_)
  ·repeat clear hm
   intro _ _ aJ aR w hm ca cb cd _
   refine gS (gS (gR (gM rfl (gF fo_44_2 rfl (gL hm 1 isAgg42 rfl ?_)))))
   have ce := rep_len (hm.ow_rep 2 rfl)
   refine gY (yV st_42 rfl) (gB rfl (gE (go _ 18 rfl (decide_eq_true (by omega)) (gct rfl (gSk (gS (gJ hm (λbB=>[(1,v2),(4,(pV aL)),(5,(pV aM)),(6,(nV aJ))]) (λbB=>[blk aL [nV 0,nV 0,.slice none 0 0] 44,blk aM [nV aA.params,nV aA.regs,.slice az aA.blocks.length aF] 44,ow [.slice az aA.blocks.length aF] bB]) (λbB=>?_) ?_)))))))
   ·refine gBk (gS (gR (gF fo_44_2 rfl (gL hm 1 isAgg42 rfl (gM rfl (gg fun aC cB aq => ?_))))))
    obtain ⟨aD,aE,cf,he⟩ := idx_form' (hm.ow_rep 2 rfl) aq
    obtain ⟨rfl,_,rfl⟩ := sl3 he
    obtain ⟨cg,ci,cj,ck,cl,cm,cn⟩ := rk_Block_ (hm.ow_rep 2 rfl) aq
    have hL2_1 := rep_slice_len (hm.ow_rep 2 rfl)
    refine gI st_42 cB (idx_lt2 aq hL2_1) rfl (gA rfl (gE ?_))
    obtain ⟨aP,aQ,aH,hm⟩ := pin_Block_ hm 2 rfl aq
    refine gS (gS (gR (gA rfl (gE (gJ hm (λaX=>[(1,v2),(4,(pV aL)),(5,(pV aM)),(6,(nV aJ)),(7,(.pointer (some ⟨aD,aE + (aJ).toNat * 5,none⟩)))]) (λaX=>[blk aL [nV 0,nV 0,.slice none 0 0] 44,blk aM [nV aA.params,nV aA.regs,sV aD aE aA.blocks.length aF] 44,holeE aD aE aA.blocks.length aF (aR : List Block_) (aJ).toNat [aP,aQ,nV aC.jump,nV aC.on,aH],ow [aP] aX,ow [aQ] aC.ins,ow [aH] aC.next_]) (λaX=>?_) ?_)))))
    ·refine gBk (gMf hm (fun aO => [(1, v2), (4, (pV aL)), (5, (pV aM)), (6, (nV aJ)), (7, (.pointer (some ⟨aD, aE + (aJ).toNat * 5, none⟩))), (8, (nV aO.2))]) (fun aO => [blk aL [nV 0, nV 0, .slice none 0 0] 44, blk aM [nV aA.params, nV aA.regs, sV aD aE aA.blocks.length aF] 44, holeE aD aE aA.blocks.length aF (aR : List Block_) (aJ).toNat [aP, aQ, nV aC.jump, nV aC.on, aH], ow [aP] aO.1, ow [aQ] aC.ins, ow [aH] aC.next_]) [3, 4, 5, 2, 1, 0] rfl ?_)
     repeat clear hm
     intro co cC aO w hm cq cD
     refine gS (gS (gR (gM rfl (gM rfl (gY (yG rfl (y_nilptr rfl rfl)) (gF fo_49_0 rfl (gY (yl isAgg45 ((hm.holeE_at 2 rfl).cell (j := 0) rfl) rfl) ?_)))))))
     obtain ⟨cr,aY,rfl,ct⟩ := ro_slice (hm.ow_rep 3 rfl)
     refine gY (yV st_45 rfl) (gB rfl (gE (gsd 31 rfl (λcE=>?_) λcE=>?_)))
     ·refine gct rfl (gSk (gS (gBk (gS (gg fun ao bY bA => ?_)))))
      obtain ⟨aZ,aa,cu,he⟩ := idx_form' (hm.ow_rep 3 rfl) bA
      obtain ⟨rfl,_,rfl⟩ := sl3 he
      obtain ⟨ar,hm⟩ := pin_Phi_ hm 3 rfl bA
      refine gW (.p 0 (.p 1 (.p 2 (.p 4 (.p 5 (.p 6 (.p 7 (.p 8 (.p 10 (.q 3 (.e 9 (.p 11 (.p 12 (.e 13 (.p 14 (.e 15 (.p 16 (.p 17 (.e 18 .fin .nil))) .nil)) .nil))) .nil))))))))))) [9,13,15] [0,1,2,4,5,6,7,8,10,11,12,14,16,17] hm [0,1,2,3,4,5,6] [ow [ar] ao.args,blk aL [nV 0,nV 0,.slice none 0 0] 44,blk aM [nV aA.params,nV aA.regs,sV aD aE aA.blocks.length aF] 44,holeE aD aE aA.blocks.length aF (aR : List Block_) (aJ).toNat [sV aZ aa aO.1.length aY,aQ,nV aC.jump,nV aC.on,aH],holeE aZ aa aO.1.length aY (aO.1 : List Phi_) (aO.2).toNat [nV ao.to,ar],ow [aQ] aC.ins,ow [aH] aC.next_] rfl mxo (by kernel_rfl) (λ_ _ _ h=>h.2) λw hm hS=>tP rfl (λw=>yM rfl) (tP rfl (λw=>yG rfl (y_nilptr rfl rfl)) (tP rfl (λw=>yF fo_49_0 rfl) (tP rfl (λw=>yM rfl) (tP rfl (λw=>yM rfl) (tP rfl (λw=>yM rfl) (tP rfl (λw=>yG rfl (y_nilptr rfl rfl)) (tP rfl (λw=>yF fo_49_0 rfl) (tP rfl (λw=>yM rfl) (tQ rfl hS (λw hm=>yl isAgg45 ((hm.holeE_at 3 rfl).cell (j := 0) rfl) rfl) (tO (tY rfl (yl isAgg45 ((hm.holeE_at 3 rfl).cell (j := 0) rfl) rfl) (tAs hS ?_))))))))))))
      have hL4_1 := hm.holeE_len 4 rfl
      refine tP rfl (λw=>yI st_45 bY (idx_lt2 bA hL4_1) rfl) (tP rfl (λw=>yF fo_105_0 rfl) (tO (tY rfl (yl isAgg3 ((hm.holeE_at 4 rfl).cell (j := 0) rfl) rfl) (tAs hS (gg λaj cF bN=>?_)))))
      obtain ⟨bO,bP,bQ,he⟩ := idx_form h2 bN
      subst he
      refine tP rfl (λw=>yI st_47 cF (idx_lt bN) rfl) (tO (tY rfl (yl isAgg3 ((flat_cells (cs := [nV aj]) (hm.now h2) bN rfl).cell (j := 0) rfl) rfl) (tAs hS ?_)))
      have hL4_2 := hm.holeE_len 4 rfl
      refine tP rfl (λw=>yI st_45 bY (idx_lt2 bA hL4_2) rfl) (tP rfl (λw=>yF fo_105_0 rfl) (tO ?_))
      have cG : ∀ u ∈ ([nV aj] : List Value),u.oneCell' = true := (one_cons rfl one_nil)
      refine tf0 rfl rfl (λa hf=>e_storeH (j := 0) (vs := [nV aj]) 4 hf hm rfl rfl rfl sizeOf3 rfl rfl rfl cG rfl) ?_
      rintro _ w hm
      replace hm : Mem w0 (hp w0) _ [ow [ar] ao.args,blk aL [nV 0,nV 0,.slice none 0 0] 44,blk aM [nV aA.params,nV aA.regs,sV aD aE aA.blocks.length aF] 44,holeE aD aE aA.blocks.length aF (aR : List Block_) (aJ).toNat [sV aZ aa aO.1.length aY,aQ,nV aC.jump,nV aC.on,aH],holeE aZ aa aO.1.length aY (aO.1 : List Phi_) (aO.2).toNat [nV aj,ar],ow [aQ] aC.ins,ow [aH] aC.next_] := hm
      refine tAn rfl (tE (gS ?_))
      replace hm : Mem w0 (hp w0) _ [ow [nV aj,ar] ((⟨aj,ao.args⟩ : Phi_) : Phi_),blk aL [nV 0,nV 0,.slice none 0 0] 44,blk aM [nV aA.params,nV aA.regs,sV aD aE aA.blocks.length aF] 44,holeE aD aE aA.blocks.length aF (aR : List Block_) (aJ).toNat [sV aZ aa aO.1.length aY,aQ,nV aC.jump,nV aC.on,aH],holeE aZ aa aO.1.length aY (aO.1 : List Phi_) (aO.2).toNat [nV aj,ar],ow [aQ] aC.ins,ow [aH] aC.next_] := mk_Phi_ aj hm 0 rfl
      replace hm := (hm.shutE (y := ((⟨aj,ao.args⟩ : Phi_) : Phi_)) 4 0 (by decide) rfl rfl).pk (L' := [blk aL [nV 0,nV 0,.slice none 0 0] 44,blk aM [nV aA.params,nV aA.regs,sV aD aE aA.blocks.length aF] 44,holeE aD aE aA.blocks.length aF (aR : List Block_) (aJ).toNat [sV aZ aa aO.1.length aY,aQ,nV aC.jump,nV aC.on,aH],ow [sV aZ aa aO.1.length aY] (aO.1.set (aO.2).toNat (⟨aj,ao.args⟩ : Phi_)),ow [aQ] aC.ins,ow [aH] aC.next_]) [1,2,3,4,5,6] rfl rfl
      have cv := List.getElem?_set_self (a := ((⟨aj,ao.args⟩ : Phi_) : Phi_)) (idx_lt bA)
      refine gR (gA rfl (gE (gJ hm (λbC=>[(1,(sV bO bP to.length bQ)),(4,(pV aL)),(5,(pV aM)),(6,(nV aJ)),(7,(.pointer (some ⟨aD,aE + (aJ).toNat * 5,none⟩))),(8,(nV aO.2))]) (λbC=>[blk aL [nV 0,nV 0,.slice none 0 0] 44,blk aM [nV aA.params,nV aA.regs,sV aD aE aA.blocks.length aF] 44,holeE aD aE aA.blocks.length aF (aR : List Block_) (aJ).toNat [sV aZ aa aO.1.length aY,aQ,nV aC.jump,nV aC.on,aH],ow [sV aZ aa aO.1.length aY] bC,ow [aQ] aC.ins,ow [aH] aC.next_]) (λbC=>?_) ?_)))
      ·refine gBk (gMf hm (fun ac => [(1, (sV bO bP to.length bQ)), (4, (pV aL)), (5, (pV aM)), (6, (nV aJ)), (7, (.pointer (some ⟨aD, aE + (aJ).toNat * 5, none⟩))), (8, (nV aO.2)), (9, (nV ac.2))]) (fun ac => [blk aL [nV 0, nV 0, .slice none 0 0] 44, blk aM [nV aA.params, nV aA.regs, sV aD aE aA.blocks.length aF] 44, holeE aD aE aA.blocks.length aF (aR : List Block_) (aJ).toNat [sV aZ aa aO.1.length aY, aQ, nV aC.jump, nV aC.on, aH], ow [sV aZ aa aO.1.length aY] ac.1, ow [aQ] aC.ins, ow [aH] aC.next_]) [0, 1, 2, 3, 4, 5] rfl ?_)
       repeat clear hm
       intro cw cH ac w hm cx cI
       refine gS (gS (gR (gM rfl (gM rfl (gY (yG rfl (y_nilptr rfl rfl)) (gF fo_49_0 rfl (gY (yl isAgg45 ((hm.holeE_at 2 rfl).cell (j := 0) rfl) rfl) (gM rfl (gg λaS bR am=>?_)))))))))
       obtain ⟨cy,cz,dA⟩ := rk_Phi_ (hm.ow_rep 3 rfl) am
       have hL6_1 := rep_slice_len (hm.ow_rep 3 rfl)
       refine gI st_45 bR (idx_lt2 am hL6_1) rfl (gF fo_105_1 rfl ?_)
       obtain ⟨dB,hm⟩ := pin_Phi_ hm 3 rfl am
       refine gY (yl isAgg47 ((hm.holeE_at 4 rfl).cell (j := 1) rfl) rfl) ?_
       obtain ⟨bD,bE,rfl,dC⟩ := ro_slice (hm.ow_rep 0 rfl)
       refine gY (yV st_47 rfl) (gB rfl (gE (gsd 62 rfl (λcJ=>?_) λcJ=>?_)))
       ·refine gct rfl (gSk (gS (gBk ?_)))
        replace hm : Mem w0 (hp w0) _ [ow [nV aS.to,.slice bD aS.args.length bE] (aS : Phi_),blk aL [nV 0,nV 0,.slice none 0 0] 44,blk aM [nV aA.params,nV aA.regs,sV aD aE aA.blocks.length aF] 44,holeE aD aE aA.blocks.length aF (aR : List Block_) (aJ).toNat [sV aZ aa aO.1.length aY,aQ,nV aC.jump,nV aC.on,aH],holeE aZ aa aO.1.length aY (ac.1 : List Phi_) (aO.2).toNat [nV aS.to,.slice bD aS.args.length bE],ow [aQ] aC.ins,ow [aH] aC.next_] := mk_Phi_ aS.to hm 0 rfl
        replace hm := (hm.shutE (y := (aS : Phi_)) 4 0 (by decide) rfl rfl).pk (L' := [blk aL [nV 0,nV 0,.slice none 0 0] 44,blk aM [nV aA.params,nV aA.regs,sV aD aE aA.blocks.length aF] 44,holeE aD aE aA.blocks.length aF (aR : List Block_) (aJ).toNat [sV aZ aa aO.1.length aY,aQ,nV aC.jump,nV aC.on,aH],ow [sV aZ aa aO.1.length aY] (ac.1.set (aO.2).toNat aS),ow [aQ] aC.ins,ow [aH] aC.next_]) [1,2,3,4,5,6] rfl rfl
        rw [set_same am] at hm
        obtain ⟨bZ,hm⟩ := pin_Phi_ hm 3 rfl am
        refine gJ hm (λbF=>[(1,(sV bO bP to.length bQ)),(4,(pV aL)),(5,(pV aM)),(6,(nV aJ)),(7,(.pointer (some ⟨aD,aE + (aJ).toNat * 5,none⟩))),(8,(nV aO.2)),(9,(nV ac.2))]) (λbF=>[blk aL [nV 0,nV 0,.slice none 0 0] 44,blk aM [nV aA.params,nV aA.regs,sV aD aE aA.blocks.length aF] 44,holeE aD aE aA.blocks.length aF (aR : List Block_) (aJ).toNat [sV aZ aa aO.1.length aY,aQ,nV aC.jump,nV aC.on,aH],ow [sV aZ aa aO.1.length aY] bF,ow [aQ] aC.ins,ow [aH] aC.next_]) (λbF=>?_) ?_
        ·refine gW (.p 0 (.p 1 (.p 2 (.p 4 (.p 8 (.p 9 (.p 10 (.p 11 (.p 12 (.p 14 (.p 18 (.q 3 (.p 5 (.p 6 (.q 13 (.p 15 (.p 16 (.e 7 (.e 17 (.p 19 (.e 20 (.p 21 (.e 22 (.p 23 (.e 24 .fin .nil)) .nil)) .nil)) .nil) (.e 17 (.p 19 (.q 20 (.p 21 (.q 22 (.e 7 (.p 23 (.e 24 .fin .nil)) .nil))))) .nil))))))))))))))))))) [3, 7, 13, 17, 20, 22] [0, 1, 2, 4, 5, 6, 8, 9, 10, 11, 12, 14, 15, 16, 18, 19, 21, 23] hm [0, 1, 2, 3, 4, 5, 6] [ow [bZ] aS.args, blk aL [nV 0, nV 0, .slice none 0 0] 44, blk aM [nV aA.params, nV aA.regs, sV aD aE aA.blocks.length aF] 44, holeE aD aE aA.blocks.length aF (aR : List Block_) (aJ).toNat [sV aZ aa aO.1.length aY, aQ, nV aC.jump, nV aC.on, aH], holeE aZ aa aO.1.length aY (ac.1 : List Phi_) (aO.2).toNat [nV aS.to, bZ], ow [aQ] aC.ins, ow [aH] aC.next_] rfl mxo (by kernel_rfl) (fun _ _ _ h => h.2) fun w hm hS => tP rfl (fun w => yM rfl) (tP rfl (fun w => yG rfl (y_nilptr rfl rfl)) (tP rfl (fun w => yF fo_49_0 rfl) (tP rfl (fun w => yM rfl) (tP rfl (fun w => yM rfl) (tP rfl (fun w => yM rfl) (tP rfl (fun w => yM rfl) (tP rfl (fun w => yG rfl (y_nilptr rfl rfl)) (tP rfl (fun w => yF fo_49_0 rfl) (tP rfl (fun w => yM rfl) (tP rfl (fun w => yM rfl) (tQ rfl hS (fun w hm => yl isAgg45 ((hm.holeE_at 3 rfl).cell (j := 0) rfl) rfl) ?_)))))))))))
         have hL7_1 := hm.holeE_len 4 rfl
         refine tP rfl (λw=>yI st_45 bR (idx_lt2 am hL7_1) rfl) (tP rfl (λw=>yF fo_105_1 rfl) (tQ rfl hS (λw hm=>yl isAgg45 ((hm.holeE_at 3 rfl).cell (j := 0) rfl) rfl) ?_))
         have hL7_2 := hm.holeE_len 4 rfl
         refine tP rfl (λw=>yI st_45 bR (idx_lt2 am hL7_2) rfl) (tP rfl (λw=>yF fo_105_1 rfl) (gb λb6 b7=>gb λaf b8=>tMo ?_ ?_))
         ·refine tY rfl (yl isAgg47 ((hm.holeE_at 4 rfl).cell (j := 1) rfl) rfl) (tAs hS (tO (tY rfl (yl isAgg47 ((hm.holeE_at 4 rfl).cell (j := 1) rfl) rfl) (tAs hS ?_))))
          obtain ⟨b9,au⟩ := getI_some.1 b7
          obtain ⟨ba,bc,bd,he⟩ := idx_form (hm.ow_rep 0 rfl) au
          subst he
          refine tP rfl (λw=>yI st_47 b9 (idx_lt au) rfl) (tO (tY rfl (yl isAgg3 ((flat_cells (cs := [nV b6]) (hm.ow_rep 0 rfl) au rfl).cell (j := 0) rfl) rfl) (tAs hS ?_)))
          obtain ⟨cK,be⟩ := getI_some.1 b8
          refine tP rfl (λw=>yI st_47 cK (idx_lt be) rfl) (tO (tY rfl (yl isAgg3 ((flat_cells (cs := [nV af]) (hm.now h2) be rfl).cell (j := 0) rfl) rfl) (tAs hS (tP rfl (λw=>yI st_47 b9 (idx_lt au) rfl) (tO (tf0 rfl rfl (λa hf=>e_setElem (x1 := af) (j := 0) (vs := [nV af]) 0 hf hm rfl au rfl sizeOf3 rfl rfl rfl (one_cons rfl one_nil) rfl rfl) ?_))))))
          rintro _ w hm
          have dD := List.getElem?_set_self (a := af) (idx_lt au)
          refine tAn rfl (tE ?_)
          replace hm : Mem w0 (hp w0) _ [ow [nV aS.to,sV ba bc aS.args.length bd] ((⟨aS.to,(aS.args.set (ac.2).toNat af)⟩ : Phi_) : Phi_),blk aL [nV 0,nV 0,.slice none 0 0] 44,blk aM [nV aA.params,nV aA.regs,sV aD aE aA.blocks.length aF] 44,holeE aD aE aA.blocks.length aF (aR : List Block_) (aJ).toNat [sV aZ aa aO.1.length aY,aQ,nV aC.jump,nV aC.on,aH],holeE aZ aa aO.1.length aY (ac.1 : List Phi_) (aO.2).toNat [nV aS.to,sV ba bc aS.args.length bd],ow [aQ] aC.ins,ow [aH] aC.next_] := mk_Phi_ aS.to hm 0 rfl
          replace hm := (hm.shutE (y := ((⟨aS.to,(aS.args.set (ac.2).toNat af)⟩ : Phi_) : Phi_)) 4 0 (by decide) rfl rfl).pk (L' := [blk aL [nV 0,nV 0,.slice none 0 0] 44,blk aM [nV aA.params,nV aA.regs,sV aD aE aA.blocks.length aF] 44,holeE aD aE aA.blocks.length aF (aR : List Block_) (aJ).toNat [sV aZ aa aO.1.length aY,aQ,nV aC.jump,nV aC.on,aH],ow [sV aZ aa aO.1.length aY] (ac.1.set (aO.2).toNat (⟨aS.to,(aS.args.set (ac.2).toNat af)⟩ : Phi_)),ow [aQ] aC.ins,ow [aH] aC.next_]) [1,2,3,4,5,6] rfl rfl
          have dE := List.getElem?_set_self (a := ((⟨aS.to,(aS.args.set (ac.2).toNat af)⟩ : Phi_) : Phi_)) (idx_lt am)
          exact gz hm [0,1,2,3,4,5] rfl
         refine tO (tY rfl (yl isAgg47 ((hm.holeE_at 4 rfl).cell (j := 1) rfl) rfl) (tAs hS ?_))
         obtain ⟨bf,av⟩ := getI_some.1 b7
         obtain ⟨bg,bh,bi,he⟩ := idx_form (hm.ow_rep 0 rfl) av
         subst he
         refine tP rfl (λw=>yI st_47 bf (idx_lt av) rfl) (tQ rfl hS (λw hm=>yl isAgg3 ((flat_cells (cs := [nV b6]) (hm.ow_rep 0 rfl) av rfl).cell (j := 0) rfl) rfl) ?_)
         obtain ⟨cL,bj⟩ := getI_some.1 b8
         refine tP rfl (λw=>yI st_47 cL (idx_lt bj) rfl) (tQ rfl hS (λw hm=>yl isAgg3 ((flat_cells (cs := [nV af]) (hm.now h2) bj rfl).cell (j := 0) rfl) rfl) (tO (tY rfl (yl isAgg47 ((hm.holeE_at 4 rfl).cell (j := 1) rfl) rfl) (tAs hS (tP rfl (λw=>yI st_47 bf (idx_lt av) rfl) (tO (tf0 rfl rfl (λa hf=>e_setElem (x1 := af) (j := 0) (vs := [nV af]) 0 hf hm rfl av rfl sizeOf3 rfl rfl rfl (one_cons rfl one_nil) rfl rfl) ?_)))))))
         rintro _ w hm
         have dF := List.getElem?_set_self (a := af) (idx_lt av)
         refine tAn rfl (tE ?_)
         replace hm : Mem w0 (hp w0) _ [ow [nV aS.to,sV bg bh aS.args.length bi] ((⟨aS.to,(aS.args.set (ac.2).toNat af)⟩ : Phi_) : Phi_),blk aL [nV 0,nV 0,.slice none 0 0] 44,blk aM [nV aA.params,nV aA.regs,sV aD aE aA.blocks.length aF] 44,holeE aD aE aA.blocks.length aF (aR : List Block_) (aJ).toNat [sV aZ aa aO.1.length aY,aQ,nV aC.jump,nV aC.on,aH],holeE aZ aa aO.1.length aY (ac.1 : List Phi_) (aO.2).toNat [nV aS.to,sV bg bh aS.args.length bi],ow [aQ] aC.ins,ow [aH] aC.next_] := mk_Phi_ aS.to hm 0 rfl
         replace hm := (hm.shutE (y := ((⟨aS.to,(aS.args.set (ac.2).toNat af)⟩ : Phi_) : Phi_)) 4 0 (by decide) rfl rfl).pk (L' := [blk aL [nV 0,nV 0,.slice none 0 0] 44,blk aM [nV aA.params,nV aA.regs,sV aD aE aA.blocks.length aF] 44,holeE aD aE aA.blocks.length aF (aR : List Block_) (aJ).toNat [sV aZ aa aO.1.length aY,aQ,nV aC.jump,nV aC.on,aH],ow [sV aZ aa aO.1.length aY] (ac.1.set (aO.2).toNat (⟨aS.to,(aS.args.set (ac.2).toNat af)⟩ : Phi_)),ow [aQ] aC.ins,ow [aH] aC.next_]) [1,2,3,4,5,6] rfl rfl
         have dG := List.getElem?_set_self (a := ((⟨aS.to,(aS.args.set (ac.2).toNat af)⟩ : Phi_) : Phi_)) (idx_lt am)
         exact gz hm [0,1,2,3,4,5] rfl
        repeat clear hm
        intro bF w hm
        exact gR (gM rfl (gB rfl (gA rfl (gE (gze hm [0,1,2,3,4,5] rfl)))))
       refine gcf rfl (gXt (gHh ?_))
       replace hm : Mem w0 (hp w0) _ [ow [nV aS.to,.slice bD aS.args.length bE] (aS : Phi_),blk aL [nV 0,nV 0,.slice none 0 0] 44,blk aM [nV aA.params,nV aA.regs,sV aD aE aA.blocks.length aF] 44,holeE aD aE aA.blocks.length aF (aR : List Block_) (aJ).toNat [sV aZ aa aO.1.length aY,aQ,nV aC.jump,nV aC.on,aH],holeE aZ aa aO.1.length aY (ac.1 : List Phi_) (aO.2).toNat [nV aS.to,.slice bD aS.args.length bE],ow [aQ] aC.ins,ow [aH] aC.next_] := mk_Phi_ aS.to hm 0 rfl
       replace hm := (hm.shutE (y := (aS : Phi_)) 4 0 (by decide) rfl rfl).pk (L' := [blk aL [nV 0,nV 0,.slice none 0 0] 44,blk aM [nV aA.params,nV aA.regs,sV aD aE aA.blocks.length aF] 44,holeE aD aE aA.blocks.length aF (aR : List Block_) (aJ).toNat [sV aZ aa aO.1.length aY,aQ,nV aC.jump,nV aC.on,aH],ow [sV aZ aa aO.1.length aY] (ac.1.set (aO.2).toNat aS),ow [aQ] aC.ins,ow [aH] aC.next_]) [1,2,3,4,5,6] rfl rfl
       rw [set_same am] at hm
       exact gLp cI cH (gz hm [0,1,2,3,4,5] rfl)
      repeat clear hm
      intro bC w hm
      exact gR (gM rfl (gB rfl (gA rfl (gE (gze hm [0,1,2,3,4,5] rfl)))))
     exact gcf rfl (gXt (gHh (gLp cD cC (gz hm [0,1,2,3,4,5] rfl))))
    repeat clear hm
    intro aX w hm
    refine gS (gS (gR (gA rfl (gE (gJ hm (λai=>[(1,v2),(4,(pV aL)),(5,(pV aM)),(6,(nV aJ)),(7,(.pointer (some ⟨aD,aE + (aJ).toNat * 5,none⟩)))]) (λai=>[blk aL [nV 0,nV 0,.slice none 0 0] 44,blk aM [nV aA.params,nV aA.regs,sV aD aE aA.blocks.length aF] 44,holeE aD aE aA.blocks.length aF (aR : List Block_) (aJ).toNat [aP,aQ,nV aC.jump,nV aC.on,aH],ow [aP] aX,ow [aQ] ai,ow [aH] aC.next_]) (λai=>?_) ?_)))))
    ·refine gBk (gMf hm (fun aN => [(1, v2), (4, (pV aL)), (5, (pV aM)), (6, (nV aJ)), (7, (.pointer (some ⟨aD, aE + (aJ).toNat * 5, none⟩))), (10, (nV aN.2))]) (fun aN => [blk aL [nV 0, nV 0, .slice none 0 0] 44, blk aM [nV aA.params, nV aA.regs, sV aD aE aA.blocks.length aF] 44, holeE aD aE aA.blocks.length aF (aR : List Block_) (aJ).toNat [aP, aQ, nV aC.jump, nV aC.on, aH], ow [aP] aX, ow [aQ] aN.1, ow [aH] aC.next_]) [0, 1, 2, 3, 4, 5] rfl ?_)
     repeat clear hm
     intro dH cM aN w hm dI cN
     refine gS (gS (gR (gM rfl (gM rfl (gY (yG rfl (y_nilptr rfl rfl)) (gF fo_49_1 rfl (gY (yl isAgg46 ((hm.holeE_at 2 rfl).cell (j := 1) rfl) rfl) ?_)))))))
     obtain ⟨dJ,aT,rfl,dK⟩ := ro_slice (hm.ow_rep 4 rfl)
     refine gY (yV st_46 rfl) (gB rfl (gE (gsd 95 rfl (λcO=>?_) λcO=>?_)))
     ·refine gct rfl (gSk (gS (gBk (gS (gS (gR (gM rfl (gY (yG rfl (y_nilptr rfl rfl)) (gF fo_49_1 rfl (gY (yl isAgg46 ((hm.holeE_at 2 rfl).cell (j := 1) rfl) rfl) (gM rfl (gg fun ab bS ap => ?_))))))))))))
      obtain ⟨aV,aW,dL,he⟩ := idx_form' (hm.ow_rep 4 rfl) ap
      obtain ⟨rfl,_,rfl⟩ := sl3 he
      obtain ⟨dM,cP,dN⟩ := rk_Ins_ (hm.ow_rep 4 rfl) ap
      refine gI st_46 bS (idx_lt ap) rfl (gF fo_51_0 rfl (gY (yl isAgg3 (cP.cell (j := 0) rfl) rfl) (gC hm rfl call80 (spec_l7Makes_ok _ ab.op) λdO dP w hm=>gE (gJ hm (λbG=>[(1,v2),(4,(pV aL)),(5,(pV aM)),(6,(nV aJ)),(7,(.pointer (some ⟨aD,aE + (aJ).toNat * 5,none⟩))),(10,(nV aN.2))]) (λbG=>[blk aL [nV 0,nV 0,.slice none 0 0] 44,blk aM [nV aA.params,nV aA.regs,sV aD aE aA.blocks.length aF] 44,holeE aD aE aA.blocks.length aF (aR : List Block_) (aJ).toNat [aP,sV aV aW aN.1.length aT,nV aC.jump,nV aC.on,aH],ow [aP] aX,ow [sV aV aW aN.1.length aT] bG,ow [aH] aC.next_]) (λbG=>?_) ?_))))
      ·refine gs 106 rfl (fun cQ => ?_) fun cQ => ?_
       ·refine gct rfl ?_
        obtain ⟨aw,hm⟩ := pin_Ins_ hm 4 rfl ap
        refine gW (.p 0 (.p 1 (.p 2 (.p 4 (.p 5 (.p 6 (.p 7 (.p 8 (.p 10 (.q 3 (.e 9 (.p 11 (.p 12 (.e 13 (.p 14 (.e 15 (.p 16 (.p 17 (.e 18 .fin .nil))) .nil)) .nil))) .nil))))))))))) [9,13,15] [0,1,2,4,5,6,7,8,10,11,12,14,16,17] hm [0,1,2,3,4,5,6] [ow [aw] ab.args,blk aL [nV 0,nV 0,.slice none 0 0] 44,blk aM [nV aA.params,nV aA.regs,sV aD aE aA.blocks.length aF] 44,holeE aD aE aA.blocks.length aF (aR : List Block_) (aJ).toNat [aP,sV aV aW aN.1.length aT,nV aC.jump,nV aC.on,aH],ow [aP] aX,holeE aV aW aN.1.length aT (aN.1 : List Ins_) (aN.2).toNat [nV ab.op,nV ab.to,aw,nV ab.n_],ow [aH] aC.next_] rfl mxo (by kernel_rfl) (λ_ _ _ h=>h.2) λw hm hS=>tP rfl (λw=>yM rfl) (tP rfl (λw=>yG rfl (y_nilptr rfl rfl)) (tP rfl (λw=>yF fo_49_1 rfl) (tP rfl (λw=>yM rfl) (tP rfl (λw=>yM rfl) (tP rfl (λw=>yM rfl) (tP rfl (λw=>yG rfl (y_nilptr rfl rfl)) (tP rfl (λw=>yF fo_49_1 rfl) (tP rfl (λw=>yM rfl) (tQ rfl hS (λw hm=>yl isAgg46 ((hm.holeE_at 3 rfl).cell (j := 1) rfl) rfl) (tO (tY rfl (yl isAgg46 ((hm.holeE_at 3 rfl).cell (j := 1) rfl) rfl) (tAs hS ?_))))))))))))
        have hL5_1 := hm.holeE_len 5 rfl
        refine tP rfl (λw=>yI st_46 bS (idx_lt2 ap hL5_1) rfl) (tP rfl (λw=>yF fo_51_1 rfl) (tO (tY rfl (yl isAgg3 ((hm.holeE_at 5 rfl).cell (j := 1) rfl) rfl) (tAs hS (gg λak cR bT=>?_)))))
        obtain ⟨dQ,dR,dS,he⟩ := idx_form h2 bT
        subst he
        refine tP rfl (λw=>yI st_47 cR (idx_lt bT) rfl) (tO (tY rfl (yl isAgg3 ((flat_cells (cs := [nV ak]) (hm.now h2) bT rfl).cell (j := 0) rfl) rfl) (tAs hS ?_)))
        have hL5_2 := hm.holeE_len 5 rfl
        refine tP rfl (λw=>yI st_46 bS (idx_lt2 ap hL5_2) rfl) (tP rfl (λw=>yF fo_51_1 rfl) (tO ?_))
        have cS : ∀ u ∈ ([nV ak] : List Value),u.oneCell' = true := (one_cons rfl one_nil)
        refine tf0 rfl rfl (λa hf=>e_storeH (j := 1) (vs := [nV ak]) 5 hf hm rfl rfl rfl sizeOf3 rfl rfl rfl cS rfl) ?_
        rintro _ w hm
        replace hm : Mem w0 (hp w0) _ [ow [aw] ab.args,blk aL [nV 0,nV 0,.slice none 0 0] 44,blk aM [nV aA.params,nV aA.regs,sV aD aE aA.blocks.length aF] 44,holeE aD aE aA.blocks.length aF (aR : List Block_) (aJ).toNat [aP,sV aV aW aN.1.length aT,nV aC.jump,nV aC.on,aH],ow [aP] aX,holeE aV aW aN.1.length aT (aN.1 : List Ins_) (aN.2).toNat [nV ab.op,nV ak,aw,nV ab.n_],ow [aH] aC.next_] := hm
        refine tAn rfl (tE ?_)
        replace hm : Mem w0 (hp w0) _ [ow [nV ab.op,nV ak,aw,nV ab.n_] ((⟨ab.op,ak,ab.args,ab.n_⟩ : Ins_) : Ins_),blk aL [nV 0,nV 0,.slice none 0 0] 44,blk aM [nV aA.params,nV aA.regs,sV aD aE aA.blocks.length aF] 44,holeE aD aE aA.blocks.length aF (aR : List Block_) (aJ).toNat [aP,sV aV aW aN.1.length aT,nV aC.jump,nV aC.on,aH],ow [aP] aX,holeE aV aW aN.1.length aT (aN.1 : List Ins_) (aN.2).toNat [nV ab.op,nV ak,aw,nV ab.n_],ow [aH] aC.next_] := mk_Ins_ ab.op ak ab.n_ hm 0 rfl
        replace hm := (hm.shutE (y := ((⟨ab.op,ak,ab.args,ab.n_⟩ : Ins_) : Ins_)) 5 0 (by decide) rfl rfl).pk (L' := [blk aL [nV 0,nV 0,.slice none 0 0] 44,blk aM [nV aA.params,nV aA.regs,sV aD aE aA.blocks.length aF] 44,holeE aD aE aA.blocks.length aF (aR : List Block_) (aJ).toNat [aP,sV aV aW aN.1.length aT,nV aC.jump,nV aC.on,aH],ow [aP] aX,ow [sV aV aW aN.1.length aT] (aN.1.set (aN.2).toNat (⟨ab.op,ak,ab.args,ab.n_⟩ : Ins_)),ow [aH] aC.next_]) [1,2,3,4,5,6] rfl rfl
        have dT := List.getElem?_set_self (a := ((⟨ab.op,ak,ab.args,ab.n_⟩ : Ins_) : Ins_)) (idx_lt ap)
        exact gz hm [0,1,2,3,4,5] rfl
       exact gcf rfl (gSk (gz hm [0,1,2,3,4,5] rfl))
      repeat clear hm
      intro bG w hm
      refine gS (gR (gA rfl (gE (gJ hm (λbH=>[(1,v2),(4,(pV aL)),(5,(pV aM)),(6,(nV aJ)),(7,(.pointer (some ⟨aD,aE + (aJ).toNat * 5,none⟩))),(10,(nV aN.2))]) (λbH=>[blk aL [nV 0,nV 0,.slice none 0 0] 44,blk aM [nV aA.params,nV aA.regs,sV aD aE aA.blocks.length aF] 44,holeE aD aE aA.blocks.length aF (aR : List Block_) (aJ).toNat [aP,sV aV aW aN.1.length aT,nV aC.jump,nV aC.on,aH],ow [aP] aX,ow [sV aV aW aN.1.length aT] bH,ow [aH] aC.next_]) (λbH=>?_) ?_))))
      ·refine gBk (gMf hm (fun ae => [(1, v2), (4, (pV aL)), (5, (pV aM)), (6, (nV aJ)), (7, (.pointer (some ⟨aD, aE + (aJ).toNat * 5, none⟩))), (10, (nV aN.2)), (11, (nV ae.2))]) (fun ae => [blk aL [nV 0, nV 0, .slice none 0 0] 44, blk aM [nV aA.params, nV aA.regs, sV aD aE aA.blocks.length aF] 44, holeE aD aE aA.blocks.length aF (aR : List Block_) (aJ).toNat [aP, sV aV aW aN.1.length aT, nV aC.jump, nV aC.on, aH], ow [aP] aX, ow [sV aV aW aN.1.length aT] ae.1, ow [aH] aC.next_]) [0, 1, 2, 3, 4, 5] rfl ?_)
       repeat clear hm
       intro dU cT ae w hm dV cU
       refine gS (gS (gR (gM rfl (gM rfl (gY (yG rfl (y_nilptr rfl rfl)) (gF fo_49_1 rfl (gY (yl isAgg46 ((hm.holeE_at 2 rfl).cell (j := 1) rfl) rfl) (gM rfl (gg λaG bU an=>?_)))))))))
       obtain ⟨dW,dX,dY⟩ := rk_Ins_ (hm.ow_rep 4 rfl) an
       have hL6_2 := rep_slice_len (hm.ow_rep 4 rfl)
       refine gI st_46 bU (idx_lt2 an hL6_2) rfl (gF fo_51_2 rfl ?_)
       obtain ⟨dZ,hm⟩ := pin_Ins_ hm 4 rfl an
       refine gY (yl isAgg47 ((hm.holeE_at 5 rfl).cell (j := 2) rfl) rfl) ?_
       obtain ⟨bJ,bK,rfl,d4⟩ := ro_slice (hm.ow_rep 0 rfl)
       refine gY (yV st_47 rfl) (gB rfl (gE (gsd 135 rfl (λcV=>?_) λcV=>?_)))
       ·refine gct rfl (gSk (gS (gBk ?_)))
        replace hm : Mem w0 (hp w0) _ [ow [nV aG.op,nV aG.to,.slice bJ aG.args.length bK,nV aG.n_] (aG : Ins_),blk aL [nV 0,nV 0,.slice none 0 0] 44,blk aM [nV aA.params,nV aA.regs,sV aD aE aA.blocks.length aF] 44,holeE aD aE aA.blocks.length aF (aR : List Block_) (aJ).toNat [aP,sV aV aW aN.1.length aT,nV aC.jump,nV aC.on,aH],ow [aP] aX,holeE aV aW aN.1.length aT (ae.1 : List Ins_) (aN.2).toNat [nV aG.op,nV aG.to,.slice bJ aG.args.length bK,nV aG.n_],ow [aH] aC.next_] := mk_Ins_ aG.op aG.to aG.n_ hm 0 rfl
        replace hm := (hm.shutE (y := (aG : Ins_)) 5 0 (by decide) rfl rfl).pk (L' := [blk aL [nV 0,nV 0,.slice none 0 0] 44,blk aM [nV aA.params,nV aA.regs,sV aD aE aA.blocks.length aF] 44,holeE aD aE aA.blocks.length aF (aR : List Block_) (aJ).toNat [aP,sV aV aW aN.1.length aT,nV aC.jump,nV aC.on,aH],ow [aP] aX,ow [sV aV aW aN.1.length aT] (ae.1.set (aN.2).toNat aG),ow [aH] aC.next_]) [1,2,3,4,5,6] rfl rfl
        rw [set_same an] at hm
        obtain ⟨bk,hm⟩ := pin_Ins_ hm 4 rfl an
        refine gJ hm (λbL=>[(1,v2),(4,(pV aL)),(5,(pV aM)),(6,(nV aJ)),(7,(.pointer (some ⟨aD,aE + (aJ).toNat * 5,none⟩))),(10,(nV aN.2)),(11,(nV ae.2))]) (λbL=>[blk aL [nV 0,nV 0,.slice none 0 0] 44,blk aM [nV aA.params,nV aA.regs,sV aD aE aA.blocks.length aF] 44,holeE aD aE aA.blocks.length aF (aR : List Block_) (aJ).toNat [aP,sV aV aW aN.1.length aT,nV aC.jump,nV aC.on,aH],ow [aP] aX,ow [sV aV aW aN.1.length aT] bL,ow [aH] aC.next_]) (λbL=>?_) ?_
        ·refine gW (.p 0 (.p 1 (.p 2 (.p 4 (.p 8 (.p 9 (.p 10 (.p 11 (.p 12 (.p 14 (.p 18 (.q 3 (.p 5 (.p 6 (.q 13 (.p 15 (.p 16 (.e 7 (.e 17 (.p 19 (.e 20 (.p 21 (.e 22 (.p 23 (.e 24 .fin .nil)) .nil)) .nil)) .nil) (.e 17 (.p 19 (.q 20 (.p 21 (.q 22 (.e 7 (.p 23 (.e 24 .fin .nil)) .nil))))) .nil))))))))))))))))))) [3, 7, 13, 17, 20, 22] [0, 1, 2, 4, 5, 6, 8, 9, 10, 11, 12, 14, 15, 16, 18, 19, 21, 23] hm [0, 1, 2, 3, 4, 5, 6] [ow [bk] aG.args, blk aL [nV 0, nV 0, .slice none 0 0] 44, blk aM [nV aA.params, nV aA.regs, sV aD aE aA.blocks.length aF] 44, holeE aD aE aA.blocks.length aF (aR : List Block_) (aJ).toNat [aP, sV aV aW aN.1.length aT, nV aC.jump, nV aC.on, aH], ow [aP] aX, holeE aV aW aN.1.length aT (ae.1 : List Ins_) (aN.2).toNat [nV aG.op, nV aG.to, bk, nV aG.n_], ow [aH] aC.next_] rfl mxo (by kernel_rfl) (fun _ _ _ h => h.2) fun w hm hS => tP rfl (fun w => yM rfl) (tP rfl (fun w => yG rfl (y_nilptr rfl rfl)) (tP rfl (fun w => yF fo_49_1 rfl) (tP rfl (fun w => yM rfl) (tP rfl (fun w => yM rfl) (tP rfl (fun w => yM rfl) (tP rfl (fun w => yM rfl) (tP rfl (fun w => yG rfl (y_nilptr rfl rfl)) (tP rfl (fun w => yF fo_49_1 rfl) (tP rfl (fun w => yM rfl) (tP rfl (fun w => yM rfl) (tQ rfl hS (fun w hm => yl isAgg46 ((hm.holeE_at 3 rfl).cell (j := 1) rfl) rfl) ?_)))))))))))
         have hL7_3 := hm.holeE_len 5 rfl
         refine tP rfl (λw=>yI st_46 bU (idx_lt2 an hL7_3) rfl) (tP rfl (λw=>yF fo_51_2 rfl) (tQ rfl hS (λw hm=>yl isAgg46 ((hm.holeE_at 3 rfl).cell (j := 1) rfl) rfl) ?_))
         have hL7_4 := hm.holeE_len 5 rfl
         refine tP rfl (λw=>yI st_46 bU (idx_lt2 an hL7_4) rfl) (tP rfl (λw=>yF fo_51_2 rfl) (gb λbm bp=>gb λah bq=>tMo ?_ ?_))
         ·refine tY rfl (yl isAgg47 ((hm.holeE_at 5 rfl).cell (j := 2) rfl) rfl) (tAs hS (tO (tY rfl (yl isAgg47 ((hm.holeE_at 5 rfl).cell (j := 2) rfl) rfl) (tAs hS ?_))))
          obtain ⟨br,ax⟩ := getI_some.1 bp
          obtain ⟨bs,bt,bu,he⟩ := idx_form (hm.ow_rep 0 rfl) ax
          subst he
          refine tP rfl (λw=>yI st_47 br (idx_lt ax) rfl) (tO (tY rfl (yl isAgg3 ((flat_cells (cs := [nV bm]) (hm.ow_rep 0 rfl) ax rfl).cell (j := 0) rfl) rfl) (tAs hS ?_)))
          obtain ⟨cW,bV⟩ := getI_some.1 bq
          obtain ⟨d5,d6,d7,he⟩ := idx_form h2 bV
          subst he
          refine tP rfl (λw=>yI st_47 cW (idx_lt bV) rfl) (tO (tY rfl (yl isAgg3 ((flat_cells (cs := [nV ah]) (hm.now h2) bV rfl).cell (j := 0) rfl) rfl) (tAs hS (tP rfl (λw=>yI st_47 br (idx_lt ax) rfl) (tO (tf0 rfl rfl (λa hf=>e_setElem (x1 := ah) (j := 0) (vs := [nV ah]) 0 hf hm rfl ax rfl sizeOf3 rfl rfl rfl (one_cons rfl one_nil) rfl rfl) ?_))))))
          rintro _ w hm
          have d8 := List.getElem?_set_self (a := ah) (idx_lt ax)
          refine tAn rfl (tE ?_)
          replace hm : Mem w0 (hp w0) _ [ow [nV aG.op,nV aG.to,sV bs bt aG.args.length bu,nV aG.n_] ((⟨aG.op,aG.to,(aG.args.set (ae.2).toNat ah),aG.n_⟩ : Ins_) : Ins_),blk aL [nV 0,nV 0,.slice none 0 0] 44,blk aM [nV aA.params,nV aA.regs,sV aD aE aA.blocks.length aF] 44,holeE aD aE aA.blocks.length aF (aR : List Block_) (aJ).toNat [aP,sV aV aW aN.1.length aT,nV aC.jump,nV aC.on,aH],ow [aP] aX,holeE aV aW aN.1.length aT (ae.1 : List Ins_) (aN.2).toNat [nV aG.op,nV aG.to,sV bs bt aG.args.length bu,nV aG.n_],ow [aH] aC.next_] := mk_Ins_ aG.op aG.to aG.n_ hm 0 rfl
          replace hm := (hm.shutE (y := ((⟨aG.op,aG.to,(aG.args.set (ae.2).toNat ah),aG.n_⟩ : Ins_) : Ins_)) 5 0 (by decide) rfl rfl).pk (L' := [blk aL [nV 0,nV 0,.slice none 0 0] 44,blk aM [nV aA.params,nV aA.regs,sV aD aE aA.blocks.length aF] 44,holeE aD aE aA.blocks.length aF (aR : List Block_) (aJ).toNat [aP,sV aV aW aN.1.length aT,nV aC.jump,nV aC.on,aH],ow [aP] aX,ow [sV aV aW aN.1.length aT] (ae.1.set (aN.2).toNat (⟨aG.op,aG.to,(aG.args.set (ae.2).toNat ah),aG.n_⟩ : Ins_)),ow [aH] aC.next_]) [1,2,3,4,5,6] rfl rfl
          have d9 := List.getElem?_set_self (a := ((⟨aG.op,aG.to,(aG.args.set (ae.2).toNat ah),aG.n_⟩ : Ins_) : Ins_)) (idx_lt an)
          exact gz hm [0,1,2,3,4,5] rfl
         refine tO (tY rfl (yl isAgg47 ((hm.holeE_at 5 rfl).cell (j := 2) rfl) rfl) (tAs hS ?_))
         obtain ⟨bv,ay⟩ := getI_some.1 bp
         obtain ⟨bx,bz,cA,he⟩ := idx_form (hm.ow_rep 0 rfl) ay
         subst he
         refine tP rfl (λw=>yI st_47 bv (idx_lt ay) rfl) (tQ rfl hS (λw hm=>yl isAgg3 ((flat_cells (cs := [nV bm]) (hm.ow_rep 0 rfl) ay rfl).cell (j := 0) rfl) rfl) ?_)
         obtain ⟨cX,bW⟩ := getI_some.1 bq
         obtain ⟨da,db,dc,he⟩ := idx_form h2 bW
         subst he
         refine tP rfl (λw=>yI st_47 cX (idx_lt bW) rfl) (tQ rfl hS (λw hm=>yl isAgg3 ((flat_cells (cs := [nV ah]) (hm.now h2) bW rfl).cell (j := 0) rfl) rfl) (tO (tY rfl (yl isAgg47 ((hm.holeE_at 5 rfl).cell (j := 2) rfl) rfl) (tAs hS (tP rfl (λw=>yI st_47 bv (idx_lt ay) rfl) (tO (tf0 rfl rfl (λa hf=>e_setElem (x1 := ah) (j := 0) (vs := [nV ah]) 0 hf hm rfl ay rfl sizeOf3 rfl rfl rfl (one_cons rfl one_nil) rfl rfl) ?_)))))))
         rintro _ w hm
         have dd := List.getElem?_set_self (a := ah) (idx_lt ay)
         refine tAn rfl (tE ?_)
         replace hm : Mem w0 (hp w0) _ [ow [nV aG.op,nV aG.to,sV bx bz aG.args.length cA,nV aG.n_] ((⟨aG.op,aG.to,(aG.args.set (ae.2).toNat ah),aG.n_⟩ : Ins_) : Ins_),blk aL [nV 0,nV 0,.slice none 0 0] 44,blk aM [nV aA.params,nV aA.regs,sV aD aE aA.blocks.length aF] 44,holeE aD aE aA.blocks.length aF (aR : List Block_) (aJ).toNat [aP,sV aV aW aN.1.length aT,nV aC.jump,nV aC.on,aH],ow [aP] aX,holeE aV aW aN.1.length aT (ae.1 : List Ins_) (aN.2).toNat [nV aG.op,nV aG.to,sV bx bz aG.args.length cA,nV aG.n_],ow [aH] aC.next_] := mk_Ins_ aG.op aG.to aG.n_ hm 0 rfl
         replace hm := (hm.shutE (y := ((⟨aG.op,aG.to,(aG.args.set (ae.2).toNat ah),aG.n_⟩ : Ins_) : Ins_)) 5 0 (by decide) rfl rfl).pk (L' := [blk aL [nV 0,nV 0,.slice none 0 0] 44,blk aM [nV aA.params,nV aA.regs,sV aD aE aA.blocks.length aF] 44,holeE aD aE aA.blocks.length aF (aR : List Block_) (aJ).toNat [aP,sV aV aW aN.1.length aT,nV aC.jump,nV aC.on,aH],ow [aP] aX,ow [sV aV aW aN.1.length aT] (ae.1.set (aN.2).toNat (⟨aG.op,aG.to,(aG.args.set (ae.2).toNat ah),aG.n_⟩ : Ins_)),ow [aH] aC.next_]) [1,2,3,4,5,6] rfl rfl
         have de := List.getElem?_set_self (a := ((⟨aG.op,aG.to,(aG.args.set (ae.2).toNat ah),aG.n_⟩ : Ins_) : Ins_)) (idx_lt an)
         exact gz hm [0,1,2,3,4,5] rfl
        repeat clear hm
        intro bL w hm
        exact gR (gM rfl (gB rfl (gA rfl (gE (gze hm [0,1,2,3,4,5] rfl)))))
       refine gcf rfl (gXt (gHh ?_))
       replace hm : Mem w0 (hp w0) _ [ow [nV aG.op,nV aG.to,.slice bJ aG.args.length bK,nV aG.n_] (aG : Ins_),blk aL [nV 0,nV 0,.slice none 0 0] 44,blk aM [nV aA.params,nV aA.regs,sV aD aE aA.blocks.length aF] 44,holeE aD aE aA.blocks.length aF (aR : List Block_) (aJ).toNat [aP,sV aV aW aN.1.length aT,nV aC.jump,nV aC.on,aH],ow [aP] aX,holeE aV aW aN.1.length aT (ae.1 : List Ins_) (aN.2).toNat [nV aG.op,nV aG.to,.slice bJ aG.args.length bK,nV aG.n_],ow [aH] aC.next_] := mk_Ins_ aG.op aG.to aG.n_ hm 0 rfl
       replace hm := (hm.shutE (y := (aG : Ins_)) 5 0 (by decide) rfl rfl).pk (L' := [blk aL [nV 0,nV 0,.slice none 0 0] 44,blk aM [nV aA.params,nV aA.regs,sV aD aE aA.blocks.length aF] 44,holeE aD aE aA.blocks.length aF (aR : List Block_) (aJ).toNat [aP,sV aV aW aN.1.length aT,nV aC.jump,nV aC.on,aH],ow [aP] aX,ow [sV aV aW aN.1.length aT] (ae.1.set (aN.2).toNat aG),ow [aH] aC.next_]) [1,2,3,4,5,6] rfl rfl
       rw [set_same an] at hm
       exact gLp cU cT (gz hm [0,1,2,3,4,5] rfl)
      repeat clear hm
      intro bH w hm
      exact gR (gM rfl (gB rfl (gA rfl (gE (gze hm [0,1,2,3,4,5] rfl)))))
     exact gcf rfl (gXt (gHh (gLp cN cM (gz hm [0,1,2,3,4,5] rfl))))
    repeat clear hm
    intro ai w hm
    refine gS (gR (gM rfl (gY (yG rfl (y_nilptr rfl rfl)) (gF fo_49_2 rfl (gY (yl isAgg3 ((hm.holeE_at 2 rfl).cell (j := 2) rfl) rfl) (gB rfl (gE (gJ hm (λbM=>[(1,v2),(4,(pV aL)),(5,(pV aM)),(6,(nV aJ))]) (λbM=>[blk aL [nV 0,nV 0,.slice none 0 0] 44,blk aM [nV aA.params,nV aA.regs,sV aD aE aA.blocks.length aF] 44,ow [sV aD aE aA.blocks.length aF] bM]) (λbM=>?_) ?_))))))))
    ·refine gsd 166 rfl (fun cY => ?_) fun cY => ?_
     ·refine gct rfl (gR (gM rfl (gM rfl (gM rfl (gY (yG rfl (y_nilptr rfl rfl)) (gF fo_49_3 rfl (gY (yl isAgg3 ((hm.holeE_at 2 rfl).cell (j := 3) rfl) rfl) (gg fun al cZ bX => ?_))))))))
      obtain ⟨df,dg,dh,he⟩ := idx_form h2 bX
      subst he
      refine gI st_47 cZ (idx_lt bX) rfl (gY (yl isAgg3 ((flat_cells (cs := [nV al]) (hm.now h2) bX rfl).cell (j := 0) rfl) rfl) (gY (yG rfl (y_nilptr rfl rfl)) (gF fo_49_3 rfl ?_)))
      have c4 : ∀ u ∈ ([nV al] : List Value),u.oneCell' = true := (one_cons rfl one_nil)
      refine gf0 rfl (λa hf=>e_storeH (j := 3) (vs := [nV al]) 2 hf hm rfl rfl rfl sizeOf3 rfl rfl rfl c4 rfl) ?_
      rintro _ w hm
      replace hm : Mem w0 (hp w0) _ [blk aL [nV 0,nV 0,.slice none 0 0] 44,blk aM [nV aA.params,nV aA.regs,sV aD aE aA.blocks.length aF] 44,holeE aD aE aA.blocks.length aF (aR : List Block_) (aJ).toNat [aP,aQ,nV aC.jump,nV al,aH],ow [aP] aX,ow [aQ] ai,ow [aH] aC.next_] := hm
      refine gE ?_
      replace hm := (mk_Block_ aC.jump al hm 3 4 5 rfl).pk (L' := [blk aL [nV 0,nV 0,.slice none 0 0] 44,blk aM [nV aA.params,nV aA.regs,sV aD aE aA.blocks.length aF] 44,holeE aD aE aA.blocks.length aF (aR : List Block_) (aJ).toNat [aP,aQ,nV aC.jump,nV al,aH],ow [aP,aQ,nV aC.jump,nV al,aH] ((⟨aX,ai,aC.jump,al,aC.next_⟩ : Block_) : Block_)]) [0,1,2,3] rfl rfl
      replace hm := (hm.shutE (y := ((⟨aX,ai,aC.jump,al,aC.next_⟩ : Block_) : Block_)) 2 3 (by decide) rfl rfl).pk (L' := [blk aL [nV 0,nV 0,.slice none 0 0] 44,blk aM [nV aA.params,nV aA.regs,sV aD aE aA.blocks.length aF] 44,ow [sV aD aE aA.blocks.length aF] (aR.set (aJ).toNat (⟨aX,ai,aC.jump,al,aC.next_⟩ : Block_))]) [0,1,2] rfl rfl
      have di := List.getElem?_set_self (a := ((⟨aX,ai,aC.jump,al,aC.next_⟩ : Block_) : Block_)) (idx_lt aq)
      exact gz hm [0,1,2] rfl
     refine gcf rfl (gSk ?_)
     replace hm := (mk_Block_ aC.jump aC.on hm 3 4 5 rfl).pk (L' := [blk aL [nV 0,nV 0,.slice none 0 0] 44,blk aM [nV aA.params,nV aA.regs,sV aD aE aA.blocks.length aF] 44,holeE aD aE aA.blocks.length aF (aR : List Block_) (aJ).toNat [aP,aQ,nV aC.jump,nV aC.on,aH],ow [aP,aQ,nV aC.jump,nV aC.on,aH] ((⟨aX,ai,aC.jump,aC.on,aC.next_⟩ : Block_) : Block_)]) [0,1,2,3] rfl rfl
     replace hm := (hm.shutE (y := ((⟨aX,ai,aC.jump,aC.on,aC.next_⟩ : Block_) : Block_)) 2 3 (by decide) rfl rfl).pk (L' := [blk aL [nV 0,nV 0,.slice none 0 0] 44,blk aM [nV aA.params,nV aA.regs,sV aD aE aA.blocks.length aF] 44,ow [sV aD aE aA.blocks.length aF] (aR.set (aJ).toNat (⟨aX,ai,aC.jump,aC.on,aC.next_⟩ : Block_))]) [0,1,2] rfl rfl
     have dk := List.getElem?_set_self (a := ((⟨aX,ai,aC.jump,aC.on,aC.next_⟩ : Block_) : Block_)) (idx_lt aq)
     exact gz hm [0,1,2] rfl
    repeat clear hm
    intro bM w hm
    exact gz hm [0,1,2] rfl
   repeat clear hm
   intro bB w hm
   exact gR (gM rfl (gP (by omega) (by omega) rfl (gA rfl (gE (gze hm [0,1,2] rfl)))))
  repeat clear hm
  intro dl dm w hm dp dq
  refine gS (gS (gR (gM rfl (gF fo_44_2 rfl (gL hm 1 isAgg42 rfl ?_)))))
  have dr := rep_len (hm.ow_rep 2 rfl)
  exact gY (yV st_42 rfl) (gB rfl (gE (go _ 18 rfl (decide_eq_false (by omega)) (gcf rfl (gXt (gHh (gS (gR (gY (yn (hm.blk_at 1 rfl) isAgg44 sizeOf44 rfl) (gSN hm 0 sizeOf44 (one_cons rfl (one_cons rfl (one_cons rfl one_nil))) rfl λw hm=>gE (gRt (grc 0 results46 hm rfl isAgg44 sizeOf44 ⟨.slice az aA.blocks.length aF,rfl,hm.pk [2] rfl rfl⟩))))))))))))
theorem spec_l10At_ok (w0 : World) (list : List Int) (v1 : Value) (h1 : GT.rep (hp w0) [v1] list) (n_ : Int) :
    ConM Tryz.prog 84 [v1,nV n_] w0 (spec_l10At list n_) λr v w'=>v = (nV r) ∧ Below w0.heap.size w0 w' := by
  unfold spec_l10At
  refine gcon func84 rfl λr=>?_
  have hm := Mem.start w0
  refine gS (gR (gA rfl (gE (gS (gS (gR (gA rfl (gE (gBk (gNf hm (λaA aD=>[(0,v1),(1,(nV n_)),(5,(nV aA))]) (λaA aD=>[]) [] rfl ?_ ?_))))))))))
  ·repeat clear hm
   intro aL aE aA aD w hm aM aN aO aF
   refine gS (gS (gR (gM rfl (gM rfl ?_))))
   obtain ⟨aP,aQ,rfl,aR⟩ := ro_slice h1
   refine gY (yV st_47 rfl) (gB rfl (gE (go _ 9 rfl (decide_eq_true (by omega)) (gct rfl (gSk (gS (gBk (gS (gR (gM rfl (gM rfl (gg λaG aH aC=>?_))))))))))))
   obtain ⟨aS,aT,aV,he⟩ := idx_form h1 aC
   obtain ⟨rfl,_,rfl⟩ := sl3 he
   refine gI st_47 aH (idx_lt aC) rfl (gY (yl isAgg3 ((flat_cells (cs := [nV aG]) (hm.now h1) aC rfl).cell (j := 0) rfl) rfl) (gM rfl (gB rfl (gE (gsd 17 rfl (λaJ=>?_) λaJ=>?_)))))
   ·exact gct rfl (gS (gR (gM rfl (gA rfl (gE (gRt (gLr aF aE (gr1 results84 rfl ⟨rfl,hm.below⟩))))))))
   exact gcf rfl (gSk (gR (gM rfl (gP (by omega) (by omega) rfl (gA rfl (gE (gze hm [] rfl)))))))
  repeat clear hm
  intro aW aX w hm aY aZ
  refine gS (gS (gR (gM rfl (gM rfl ?_))))
  obtain ⟨aa,ab,rfl,ac⟩ := ro_slice h1
  exact gY (yV st_47 rfl) (gB rfl (gE (go _ 9 rfl (decide_eq_false (by omega)) (gcf rfl (gXt (gHh (gS (gR (gA rfl (gE (gRt (gr1 results84 rfl ⟨rfl,hm.below⟩))))))))))))
theorem spec_l12Flow_ok (w0 : World) (hz : Heap) (c_ : Code_) (v1 : Value) (h1 : GT.rep hz [v1] c_.blocks) (s_ : l12Sets) (v2 : Value) (h2 : GT.rep hz [v2] s_.ins) (v3 : Value) (b_ : Int) (next_ : Int) (hm0 : Mem w0 hz w0 [ow [v3] s_.outs]) :
    ConM Tryz.prog 81 [(.agg #[nV c_.params,nV c_.regs,v1]),(.agg #[v2,v3]),nV b_,nV next_] w0 (spec_l12Flow c_ s_ b_ next_) λr v w'=>v = (.bool (r.1)) ∧ Mem w0 hz w' [ow [v3] r.2] := by
  unfold spec_l12Flow
  refine gcon func81 rfl λr=>?_
  have hm := hm0
  refine gS (gR (gBx hm rfl λaC w hm=>gBx hm rfl λaD w hm=>gA rfl (gE (gS (gR (gf rfl (λa hf=>e_build0 (α := Bool) et_73 hm rfl) ?_))))))
  rintro bx w hm
  refine gF fo_76_0 rfl (gL hm 1 isAgg74 rfl (gM rfl (gg λbK bL ap=>?_)))
  obtain ⟨aH,aJ,aL,he⟩ := idx_form' h2 ap
  subst he
  obtain ⟨_,_,aq,bM⟩ := ro_get' h2 ap
  have ah := bM
  obtain ⟨bA,rfl,-⟩ := id ah
  replace ah : GT.rep hz [bA] bK := ah
  replace aq : CellsAt hz aH (aJ + (next_).toNat * 1) [bA] := aq
  refine gI st_74 bL (idx_lt ap) rfl (gY (yl isAgg73 ((aq.mono hm.lez).cell (j := 0) rfl) rfl) (gb λaE bN=>?_))
  obtain ⟨bO,bP⟩ := appM_some.1 bN
  refine gf rfl (λa hf=>e_append 0 et_73 hf hm rfl (hm.now ah) rfl rfl rfl bO) ?_
  rintro bz w hm
  rw [bP] at hm
  refine gA rfl (gE (gS (gR (gY (yn (hm.blk_at 2 rfl) isAgg44 sizeOf44 rfl) (gM rfl (gCg rfl call83 (spec_l7Preds_ok _ c_ v1 (hm.now h1) next_) ?_))))))
  rintro bQ cA bR w ⟨_,rfl,hB⟩
  replace hm := hm.give hB; clear hB
  refine gM rfl (gC hm rfl call84 (spec_l10At_ok _ bQ bR (hm.ow_rep 0 rfl) b_) λbS cB w hm=>gA rfl (gE (gS (gS (gR (gA rfl (gE ?_)))))))
  obtain ⟨aM,aA,rfl,cC⟩ := ro_slice (hm.ow_rep 4 rfl)
  obtain ⟨aS,aF,rfl,cD⟩ := ro_slice (hm.ow_rep 1 rfl)
  refine gJ hm (λaG=>[(2,(nV b_)),(4,(pV aC)),(5,(pV aD)),(9,(.slice aS aE.length aF))]) (λaG=>[blk aC [nV c_.params,nV c_.regs,v1] 44,blk aD [sV aH aJ s_.ins.length aL,.slice aM s_.outs.length aA] 76,ow [.slice aM s_.outs.length aA] s_.outs,ow [.slice aS aE.length aF] aG]) (λaG=>?_) ?_
  ·refine gBk (gMf hm (fun ai => [(2, (nV b_)), (3, (nV next_)), (4, (pV aC)), (5, (pV aD)), (9, (.slice aS aE.length aF)), (10, (nV bS)), (11, (nV ai.2))]) (fun ai => [blk aC [nV c_.params, nV c_.regs, v1] 44, blk aD [sV aH aJ s_.ins.length aL, .slice aM s_.outs.length aA] 76, ow [.slice aM s_.outs.length aA] s_.outs, ow [.slice aS aE.length aF] ai.1]) [3, 2, 4, 1] rfl ?_)
   repeat clear hm
   intro cE bT ai w hm cF bU
   refine gS (gS (gR (gM rfl (gF fo_44_2 rfl (gL hm 0 isAgg42 rfl (gM rfl (gg λcG bB aj=>?_)))))))
   obtain ⟨cH,cI,cJ,he⟩ := idx_form' h1 aj
   subst he
   obtain ⟨cK,cL,cM,bC,ar,cN,cO⟩ := rk_Block_ h1 aj
   refine gI st_42 bB (idx_lt aj) rfl (gF fo_49_0 rfl (gY (yl isAgg45 ((bC.mono hm.lez).cell (j := 0) rfl) rfl) ?_))
   obtain ⟨cP,cQ,rfl,cR⟩ := ro_slice ar
   refine gY (yV st_45 rfl) (gB rfl (gE (gsd 34 rfl (λbV=>?_) λbV=>?_)))
   ·refine gct rfl (gSk (gS (gBk (gR (gM rfl (gF fo_44_2 rfl (gL hm 0 isAgg42 rfl (gM rfl (gI st_42 bB (idx_lt aj) rfl (gF fo_49_0 rfl (gY (yl isAgg45 ((bC.mono hm.lez).cell (j := 0) rfl) rfl) (gM rfl (gg fun cS bW au => ?_)))))))))))))
    obtain ⟨cT,cU,cV,he⟩ := idx_form' ar au
    obtain ⟨rfl,_,rfl⟩ := sl3 he
    obtain ⟨cW,bX,bD⟩ := rk_Phi_ ar au
    refine gI st_45 bW (idx_lt au) rfl (gF fo_105_1 rfl (gY (yl isAgg47 ((bX.mono hm.lez).cell (j := 1) rfl) rfl) (gM rfl (gg λbY bZ av=>?_))))
    obtain ⟨cX,cY,cZ,he⟩ := idx_form bD av
    subst he
    refine gI st_47 bZ (idx_lt av) rfl (gY (yl isAgg3 ((flat_cells (cs := [nV bY]) (hm.now bD) av rfl).cell (j := 0) rfl) rfl) (gg λc4 b6 ak=>?_))
    obtain ⟨c5,c6,c7,he⟩ := idx_form (hm.ow_rep 3 rfl) ak
    obtain ⟨rfl,_,rfl⟩ := sl3 he
    have hL2_1 := rep_slice_len (hm.ow_rep 3 rfl)
    refine gI st_73 b6 (idx_lt2 ak hL2_1) rfl (gf0 rfl (λa hf=>e_setElem (x1 := true) (j := 0) (vs := [(.bool (true))]) 3 hf hm rfl ak rfl sizeOf4 rfl rfl rfl (one_cons rfl one_nil) rfl rfl) ?_)
    rintro _ w hm
    have c8 := List.getElem?_set_self (a := true) (idx_lt ak)
    exact gE (gR (gM rfl (gB rfl (gA rfl (gE (gze hm [0,1,2,3] rfl))))))
   exact gcf rfl (gXt (gHh (gLp bU bT (gz hm [0,1,2,3] rfl))))
  repeat clear hm
  intro aG w hm
  refine gS (gR (gA rfl (gE (gS (gS (gR (gA rfl (gE (gBk (gb λ_ bE=>?_))))))))))
  replace bE := fitI_some.1 bE
  refine gNf hm (λaO aN=>[(2,(nV b_)),(4,(pV aC)),(5,(pV aD)),(9,(.slice aS aE.length aF)),(12,(.bool (aN.2))),(13,(nV aO))]) (λaO aN=>[blk aC [nV c_.params,nV c_.regs,v1] 44,blk aD [sV aH aJ s_.ins.length aL,.slice aM s_.outs.length aA] 76,ow [.slice aM s_.outs.length aA] aN.1,ow [.slice aS aE.length aF] aG]) [0,1,2,3] rfl ?_ ?_
  ·repeat clear hm
   intro _ _ aO aN w hm c9 ca cb _
   refine gS (gS (gR (gM rfl (gF fo_44_1 rfl (gL hm 0 isAgg3 rfl (gB rfl (gE (go _ 55 rfl (decide_eq_true (by omega)) (gct rfl (gSk (gS (gJ hm (λaZ=>[(2,(nV b_)),(4,(pV aC)),(5,(pV aD)),(9,(.slice aS aE.length aF)),(12,(.bool (aZ.2))),(13,(nV aO))]) (λaZ=>[blk aC [nV c_.params,nV c_.regs,v1] 44,blk aD [sV aH aJ s_.ins.length aL,.slice aM s_.outs.length aA] 76,ow [.slice aM s_.outs.length aA] aZ.1,ow [.slice aS aE.length aF] aG]) (λaZ=>?_) ?_))))))))))))
   ·refine gBk (gS (gR (gM rfl (gM rfl (gg fun b7 b8 aw => ?_)))))
    obtain ⟨aP,aQ,cd,he⟩ := idx_form (hm.ow_rep 3 rfl) aw
    obtain ⟨rfl,_,rfl⟩ := sl3 he
    have hL2_2 := rep_slice_len (hm.ow_rep 3 rfl)
    refine gI st_73 b8 (idx_lt2 aw hL2_2) rfl (gY (yl isAgg4 ((flat_cells (cs := [(.bool (b7))]) (hm.ow_rep 3 rfl) aw rfl).cell (j := 0) rfl) rfl) (gE (gJ hm (λaa=>[(2,(nV b_)),(4,(pV aC)),(5,(pV aD)),(9,(sV aP aQ aE.length aF)),(12,(.bool (aa.2))),(13,(nV aO))]) (λaa=>[blk aC [nV c_.params,nV c_.regs,v1] 44,blk aD [sV aH aJ s_.ins.length aL,.slice aM s_.outs.length aA] 76,ow [.slice aM s_.outs.length aA] aa.1,ow [sV aP aQ aE.length aF] aG]) (λaa=>?_) ?_)))
    ·refine gs 61 rfl (fun b9 => ?_) fun b9 => ?_
     ·refine gct rfl (gS (gJ hm (fun al => [(2, (nV b_)), (4, (pV aC)), (5, (pV aD)), (9, (sV aP aQ aE.length aF)), (12, (.bool (al))), (13, (nV aO))]) (fun al => [blk aC [nV c_.params, nV c_.regs, v1] 44, blk aD [sV aH aJ s_.ins.length aL, .slice aM s_.outs.length aA] 76, ow [.slice aM s_.outs.length aA] aN.1, ow [sV aP aQ aE.length aF] aG]) (fun al => ?_) ?_))
      ·refine gR (gM rfl (gM rfl (gs 63 rfl (fun ba => ?_) fun ba => ?_)))
       ·exact gO rfl (gO rfl (gO rfl (gO rfl (gO rfl (gO rfl (gO rfl (gO rfl (gO rfl (gKt rfl (gA rfl (gE (gz hm [0,1,2,3] rfl))))))))))))
       refine gF fo_76_1 rfl (gL hm 1 isAgg74 rfl (gM rfl (gg λaT bc ab=>?_)))
       obtain ⟨aV,aW,ce,he⟩ := idx_form' (hm.ow_rep 2 rfl) ab
       obtain ⟨rfl,_,rfl⟩ := sl3 he
       obtain ⟨_,_,bF,bd⟩ := ro_get' (hm.ow_rep 2 rfl) ab
       have ax := bd
       obtain ⟨bG,rfl,-⟩ := id ax
       replace ax : GT.rep (hp _) [bG] aT := ax
       replace bF : CellsAt (hp _) aV (aW + (b_).toNat * 1) [bG] := bF
       have hL4_1 := rep_slice_len (hm.ow_rep 2 rfl)
       refine gI st_74 bc (idx_lt2 ab hL4_1) rfl ?_
       obtain ⟨_,be,hm⟩ := hm.openE 2 rfl ab
       have bf := hm.ow_rep 0 rfl
       have am := bf
       obtain ⟨ac,rfl,-⟩ := id am
       replace am : GT.rep (hp _) [ac] aT := am
       clear be am
       replace hm : Mem w0 hz _ [ow [ac] (aT : List Bool),blk aC [nV c_.params,nV c_.regs,v1] 44,blk aD [sV aH aJ s_.ins.length aL,sV aV aW s_.outs.length aA] 76,holeE aV aW s_.outs.length aA (aN.1 : List (List Bool)) (b_).toNat [ac],ow [sV aP aQ aE.length aF] aG] := hm
       replace hm := hm.pk (L' := [ow [ac] aT,blk aC [nV c_.params,nV c_.regs,v1] 44,blk aD [sV aH aJ s_.ins.length aL,sV aV aW s_.outs.length aA] 76,holeE aV aW s_.outs.length aA (aN.1 : List (List Bool)) (b_).toNat [ac],ow [sV aP aQ aE.length aF] aG]) [0,1,2,3,4] rfl rfl
       refine gY (yl isAgg73 ((hm.holeE_at 3 rfl).cell (j := 0) rfl) rfl) (gM rfl (gg λbg bh ay=>?_))
       obtain ⟨bi,bj,bk,he⟩ := idx_form (hm.ow_rep 0 rfl) ay
       subst he
       refine gI st_73 bh (idx_lt ay) rfl (gY (yl isAgg4 ((flat_cells (cs := [(.bool (bg))]) (hm.ow_rep 0 rfl) ay rfl).cell (j := 0) rfl) rfl) (gN rfl (gKf rfl (gA rfl (gE ?_)))))
       replace hm := hm.imp (c' := ow [sV bi bj aT.length bk] (aT : List Bool)) 0 rfl (λF h0=>h0)
       replace hm := (hm.shutE (y := (aT : List Bool)) 3 0 (by decide) rfl rfl).pk (L' := [blk aC [nV c_.params,nV c_.regs,v1] 44,blk aD [sV aH aJ s_.ins.length aL,sV aV aW s_.outs.length aA] 76,ow [sV aV aW s_.outs.length aA] (aN.1.set (b_).toNat aT),ow [sV aP aQ aE.length aF] aG]) [1,2,3,4] rfl rfl
       rw [set_same ab] at hm
       exact gz hm [0,1,2,3] rfl
      repeat clear hm
      intro al w hm
      refine gR (gF fo_76_1 rfl (gL hm 1 isAgg74 rfl (gM rfl (gg λaR bm ae=>?_))))
      obtain ⟨aX,aY,cf,he⟩ := idx_form' (hm.ow_rep 2 rfl) ae
      obtain ⟨rfl,_,rfl⟩ := sl3 he
      obtain ⟨_,_,bH,bp⟩ := ro_get' (hm.ow_rep 2 rfl) ae
      have az := bp
      obtain ⟨bJ,rfl,-⟩ := id az
      replace az : GT.rep (hp _) [bJ] aR := az
      replace bH : CellsAt (hp _) aX (aY + (b_).toNat * 1) [bJ] := bH
      have hL3_1 := rep_slice_len (hm.ow_rep 2 rfl)
      refine gI st_74 bm (idx_lt2 ae hL3_1) rfl ?_
      obtain ⟨_,bq,hm⟩ := hm.openE 2 rfl ae
      have br := hm.ow_rep 0 rfl
      have an := br
      obtain ⟨af,rfl,-⟩ := id an
      replace an : GT.rep (hp _) [af] aR := an
      clear bq an
      replace hm : Mem w0 hz _ [ow [af] (aR : List Bool),blk aC [nV c_.params,nV c_.regs,v1] 44,blk aD [sV aH aJ s_.ins.length aL,sV aX aY s_.outs.length aA] 76,holeE aX aY s_.outs.length aA (aN.1 : List (List Bool)) (b_).toNat [af],ow [sV aP aQ aE.length aF] aG] := hm
      replace hm := hm.pk (L' := [ow [af] aR,blk aC [nV c_.params,nV c_.regs,v1] 44,blk aD [sV aH aJ s_.ins.length aL,sV aX aY s_.outs.length aA] 76,holeE aX aY s_.outs.length aA (aN.1 : List (List Bool)) (b_).toNat [af],ow [sV aP aQ aE.length aF] aG]) [0,1,2,3,4] rfl rfl
      refine gY (yl isAgg73 ((hm.holeE_at 3 rfl).cell (j := 0) rfl) rfl) (gM rfl (gg λcg bs ao=>?_))
      obtain ⟨bt,bu,bv,he⟩ := idx_form (hm.ow_rep 0 rfl) ao
      subst he
      refine gI st_73 bs (idx_lt ao) rfl (gf0 rfl (λa hf=>e_setElem (x1 := true) (j := 0) (vs := [(.bool (true))]) 0 hf hm rfl ao rfl sizeOf4 rfl rfl rfl (one_cons rfl one_nil) rfl rfl) ?_)
      rintro _ w hm
      have ci := List.getElem?_set_self (a := true) (idx_lt ao)
      refine gE ?_
      replace hm := hm.imp (c' := ow [sV bt bu aR.length bv] ((aR.set (aO).toNat true) : List Bool)) 0 rfl (λF h0=>h0)
      replace hm := (hm.shutE (y := ((aR.set (aO).toNat true) : List Bool)) 3 0 (by decide) rfl rfl).pk (L' := [blk aC [nV c_.params,nV c_.regs,v1] 44,blk aD [sV aH aJ s_.ins.length aL,sV aX aY s_.outs.length aA] 76,ow [sV aX aY s_.outs.length aA] (aN.1.set (b_).toNat (aR.set (aO).toNat true)),ow [sV aP aQ aE.length aF] aG]) [1,2,3,4] rfl rfl
      have cj := List.getElem?_set_self (a := ((aR.set (aO).toNat true) : List Bool)) (idx_lt ae)
      exact gz hm [0,1,2,3] rfl
     exact gcf rfl (gSk (gz hm [0,1,2,3] rfl))
    repeat clear hm
    intro aa w hm
    exact gz hm [0,1,2,3] rfl
   repeat clear hm
   intro aZ w hm
   exact gR (gM rfl (gP (by omega) (by omega) rfl (gA rfl (gE (gze hm [0,1,2,3] rfl)))))
  repeat clear hm
  intro ck cl w hm cm cn
  exact gS (gS (gR (gM rfl (gF fo_44_1 rfl (gL hm 0 isAgg3 rfl (gB rfl (gE (go _ 55 rfl (decide_eq_false (by omega)) (gcf rfl (gXt (gHh (gS (gR (gM rfl (gA rfl (gE (gRt (gr1 results81 rfl ⟨rfl,hm.pk [2] rfl rfl⟩))))))))))))))))))
theorem spec_MadeBy_ok (w0 : World) (x_ : Ins_) (v1 : Value) (h1 : GT.rep (hp w0) [v1] x_.args) :
    ConM Tryz.prog 142 [(.agg #[nV x_.op,nV x_.to,v1,nV x_.n_])] w0 (spec_MadeBy x_) λr v w'=>v = (nV r) ∧ Below w0.heap.size w0 w' := by
  unfold spec_MadeBy
  refine gcon func142 rfl λr=>?_
  have hm := Mem.start w0
  refine gS (gR (gBx hm rfl λaC w hm=>gA rfl (gE (gS (gS (gR (gF fo_51_0 rfl (gL hm 0 isAgg3 rfl (gC hm rfl call80 (spec_l7Makes_ok _ x_.op) λaD aE w hm=>gE (gs 5 rfl (λaA=>?_) λaA=>?_))))))))))
  ·exact gct rfl (gS (gR (gF fo_51_1 rfl (gL hm 0 isAgg3 rfl (gA rfl (gE (gRt (gr1 results142 rfl ⟨rfl,hm.below⟩))))))))
  exact gcf rfl (gSk (gS (gR (gA rfl (gE (gRt (gr1 results142 rfl ⟨rfl,hm.below⟩)))))))
theorem spec_l12Behind_ok (w0 : World) (c_ : Code_) (v1 : Value) (h1 : GT.rep (hp w0) [v1] c_.blocks) (s_ : l12Sets) (v2 : Value) (h2 : GT.rep (hp w0) [v2] s_.ins) (v3 : Value) (h3 : GT.rep (hp w0) [v3] s_.outs) (b_ : Int) (i_ : Int) :
    ConM Tryz.prog 82 [(.agg #[nV c_.params,nV c_.regs,v1]),(.agg #[v2,v3]),nV b_,nV i_] w0 (spec_l12Behind c_ s_ b_ i_) λr v w'=>∃ (x1 : Value),v = x1 ∧ Mem w0 (hp w0) w' [ow [x1] r] := by
  unfold spec_l12Behind
  refine gcon func82 rfl λr=>?_
  have hm := Mem.start w0
  refine gS (gR (gBx hm rfl λbN w hm=>gBx hm rfl λbO w hm=>gA rfl (gE (gS (gR (gf rfl (λa hf=>e_build0 (α := Bool) et_73 hm rfl) ?_))))))
  rintro bP w hm
  refine gF fo_76_1 rfl (gL hm 1 isAgg74 rfl (gM rfl (gg λak al aX=>?_)))
  obtain ⟨am,an,bQ,he⟩ := idx_form' h3 aX
  subst he
  obtain ⟨_,_,aY,ao⟩ := ro_get' h3 aX
  have aL := ao
  obtain ⟨af,rfl,-⟩ := id aL
  replace aL : GT.rep (hp w0) [af] ak := aL
  replace aY : CellsAt (hp w0) am (an + (b_).toNat * 1) [af] := aY
  refine gI st_74 al (idx_lt aX) rfl (gY (yl isAgg73 ((aY.mono hm.lez).cell (j := 0) rfl) rfl) (gb λbR ap=>?_))
  obtain ⟨aq,ar⟩ := appM_some.1 ap
  refine gf rfl (λa hf=>e_append 0 et_73 hf hm rfl (hm.now aL) rfl rfl rfl aq) ?_
  rintro ah w hm
  rw [ar] at hm
  refine gA rfl (gE (gS (gR (gF fo_44_2 rfl (gL hm 2 isAgg42 rfl (gM rfl (gg λaC au aZ=>?_)))))))
  obtain ⟨bS,bT,bU,he⟩ := idx_form' h1 aZ
  subst he
  obtain ⟨aM,av,aN,aw,ax,aO,ay⟩ := rk_Block_ h1 aZ
  refine gI st_42 au (idx_lt aZ) rfl (gY (yn (aw.mono hm.lez) isAgg49 sizeOf49 rfl) (gAl hm zeroValue49 rfl λaF w hm=>gSN hm 0 sizeOf49 (one_cons (rep_one ax) (one_cons (rep_one aO) (one_cons rfl (one_cons rfl (one_cons (rep_one ay) one_nil))))) rfl λw hm=>gE (gS (gS (gR (gF fo_49_2 rfl (gL hm 0 isAgg3 rfl (gB rfl (gE (gJ hm (λaA=>[(3,(nV i_)),(9,ah),(10,(pV aF))]) (λaA=>[ow [ah] aA,blk aF [aM,av,nV aC.jump,nV aC.on,aN] 49]) (λaA=>?_) ?_))))))))))
  ·refine gsd 28 rfl (fun az => ?_) fun az => ?_
   ·refine gct rfl (gR (gM rfl (gF fo_49_3 rfl (gL hm 0 isAgg3 rfl (gg fun bV bA aP => ?_)))))
    obtain ⟨bW,bX,bY,he⟩ := idx_form (hm.ow_rep 1 rfl) aP
    subst he
    refine gI st_73 bA (idx_lt aP) rfl (gf0 rfl (λa hf=>e_setElem (x1 := true) (j := 0) (vs := [(.bool (true))]) 1 hf hm rfl aP rfl sizeOf4 rfl rfl rfl (one_cons rfl one_nil) rfl rfl) ?_)
    rintro _ w hm
    have bZ := List.getElem?_set_self (a := true) (idx_lt aP)
    exact gE (gz hm [1,0] rfl)
   exact gcf rfl (gSk (gz hm [1,0] rfl))
  repeat clear hm
  intro aA w hm
  refine gS (gS (gR (gF fo_49_1 rfl (gL hm 1 isAgg46 rfl ?_))))
  obtain ⟨bB,aa,rfl,b6⟩ := ro_slice aO
  refine gY (yV st_46 rfl) (gY (yS (by omega) (by omega) rfl) (gA rfl (gE ?_)))
  obtain ⟨aD,aE,rfl,b7⟩ := ro_slice (hm.ow_rep 0 rfl)
  refine gJ hm (λaQ=>[(9,(.slice aD aA.length aE))]) (λaQ=>[ow [.slice aD aA.length aE] aQ]) (λaQ=>?_) ?_
  ·refine gBk (gMf hm (fun aG => [(3, (nV i_)), (9, (.slice aD aA.length aE)), (10, (pV aF)), (11, (nV aG.2))]) (fun aG => [ow [.slice aD aA.length aE] aG.1, blk aF [aM, .slice bB aC.ins.length aa, nV aC.jump, nV aC.on, aN] 49]) [0, 1] rfl ?_)
   repeat clear hm
   intro b8 bC aG w hm b9 bD
   refine gS (gS (gR (gM rfl (gM rfl (gB rfl (gE (gsd 39 rfl (λbE=>?_) λbE=>?_)))))))
   ·refine gct rfl (gSk (gS (gBk (gS (gR (gF fo_49_1 rfl (gL hm 1 isAgg46 rfl (gM rfl (gg fun bF aR aH => ?_)))))))))
    obtain ⟨ai,aj,ba,he⟩ := idx_form' aO aH
    obtain ⟨rfl,_,rfl⟩ := sl3 he
    obtain ⟨bG,aS,aJ⟩ := rk_Ins_ aO aH
    refine gI st_46 aR (idx_lt aH) rfl (gY (yn (aS.mono hm.lez) isAgg51 sizeOf51 rfl) (gC hm rfl call142 (spec_MadeBy_ok _ bF bG (hm.now aJ)) λbc bd w hm=>gA rfl (gE (gS (gS (gR (gM rfl (gB rfl (gE (gJ hm (λaT=>[(3,(nV i_)),(9,(.slice aD aA.length aE)),(10,(pV aF)),(11,(nV aG.2))]) (λaT=>[ow [.slice aD aA.length aE] aT,blk aF [aM,sV ai aj aC.ins.length aa,nV aC.jump,nV aC.on,aN] 49]) (λaT=>?_) ?_))))))))))
    ·refine gsd 49 rfl (fun bH => ?_) fun bH => ?_
     ·refine gct rfl (gR (gM rfl (gM rfl (gg fun be bJ aV => ?_))))
      obtain ⟨bf,bg,bh,he⟩ := idx_form (hm.ow_rep 0 rfl) aV
      obtain ⟨rfl,_,rfl⟩ := sl3 he
      have hL3_1 := rep_slice_len (hm.ow_rep 0 rfl)
      refine gI st_73 bJ (idx_lt2 aV hL3_1) rfl (gf0 rfl (λa hf=>e_setElem (x1 := false) (j := 0) (vs := [(.bool (false))]) 0 hf hm rfl aV rfl sizeOf4 rfl rfl rfl (one_cons rfl one_nil) rfl rfl) ?_)
      rintro _ w hm
      have bi := List.getElem?_set_self (a := false) (idx_lt aV)
      exact gE (gz hm [0,1] rfl)
     exact gcf rfl (gSk (gz hm [0,1] rfl))
    repeat clear hm
    intro aT w hm
    refine gS (gR (gA rfl (gE (gBk (gNf hm (λab ac=>[(3,(nV i_)),(9,(.slice aD aA.length aE)),(10,(pV aF)),(11,(nV aG.2)),(13,(nV ab))]) (λab ac=>[ow [.slice aD aA.length aE] ac,blk aF [aM,sV ai aj aC.ins.length aa,nV aC.jump,nV aC.on,aN] 49]) [0,1] rfl ?_ ?_)))))
    ·repeat clear hm
     intro _ _ ab ac w hm bj bk bm _
     refine gS (gS (gR (gM rfl (gF fo_49_1 rfl (gL hm 1 isAgg46 rfl (gM rfl (gI st_46 aR (idx_lt aH) rfl (gF fo_51_2 rfl (gY (yl isAgg47 ((aS.mono hm.lez).cell (j := 2) rfl) rfl) ?_)))))))))
     obtain ⟨bp,bq,rfl,br⟩ := ro_slice aJ
     refine gY (yV st_47 rfl) (gB rfl (gE (go _ 61 rfl (decide_eq_true (by omega)) (gct rfl (gSk (gS (gBk (gR (gM rfl (gF fo_49_1 rfl (gL hm 1 isAgg46 rfl (gM rfl (gI st_46 aR (idx_lt aH) rfl (gF fo_51_2 rfl (gY (yl isAgg47 ((aS.mono hm.lez).cell (j := 2) rfl) rfl) (gM rfl (gg λbK bL ae=>?_)))))))))))))))))
     obtain ⟨bs,bt,bu,he⟩ := idx_form aJ ae
     obtain ⟨rfl,_,rfl⟩ := sl3 he
     refine gI st_47 bL (idx_lt ae) rfl (gY (yl isAgg3 ((flat_cells (cs := [nV bK]) (hm.now aJ) ae rfl).cell (j := 0) rfl) rfl) (gg λbv bM aW=>?_))
     obtain ⟨bx,bz,cA,he⟩ := idx_form (hm.ow_rep 0 rfl) aW
     obtain ⟨rfl,_,rfl⟩ := sl3 he
     have hL3_2 := rep_slice_len (hm.ow_rep 0 rfl)
     refine gI st_73 bM (idx_lt2 aW hL3_2) rfl (gf0 rfl (λa hf=>e_setElem (x1 := true) (j := 0) (vs := [(.bool (true))]) 0 hf hm rfl aW rfl sizeOf4 rfl rfl rfl (one_cons rfl one_nil) rfl rfl) ?_)
     rintro _ w hm
     have cB := List.getElem?_set_self (a := true) (idx_lt aW)
     exact gE (gR (gM rfl (gP (by omega) (by omega) rfl (gA rfl (gE (gze hm [0,1] rfl))))))
    repeat clear hm
    intro cC cD w hm cE cF
    refine gS (gS (gR (gM rfl (gF fo_49_1 rfl (gL hm 1 isAgg46 rfl (gM rfl (gI st_46 aR (idx_lt aH) rfl (gF fo_51_2 rfl (gY (yl isAgg47 ((aS.mono hm.lez).cell (j := 2) rfl) rfl) ?_)))))))))
    obtain ⟨cG,cH,rfl,cI⟩ := ro_slice aJ
    exact gY (yV st_47 rfl) (gB rfl (gE (go _ 61 rfl (decide_eq_false (by omega)) (gcf rfl (gXt (gHh (gR (gM rfl (gB rfl (gA rfl (gE (gze hm [0,1] rfl))))))))))))
   exact gcf rfl (gXt (gHh (gLp bD bC (gz hm [0] rfl))))
  repeat clear hm
  intro aQ w hm
  exact gS (gR (gM rfl (gA rfl (gE (gRt (gr1 results82 rfl ⟨.slice aD aA.length aE,rfl,hm.pk [0] rfl rfl⟩))))))
theorem spec_l12Live_ok (w0 : World) (c_ : Code_) (v1 : Value) (h1 : GT.rep (hp w0) [v1] c_.blocks) :
    ConM Tryz.prog 47 [(.agg #[nV c_.params,nV c_.regs,v1])] w0 (spec_l12Live c_) λr v w'=>∃ (x1 : Value) (x2 : Value),v = (.agg #[x1,x2]) ∧ Mem w0 (hp w0) w' [ow [x1] r.ins,ow [x2] r.outs] := by
  unfold spec_l12Live
  refine gcon func47 rfl λr=>?_
  have hm := Mem.start w0
  refine gS (gR (gBx hm rfl λaE w hm=>gAl hm zeroValue76 rfl λaC w hm=>gE (gS (gR (gY (yG rfl (y_build (vs := []) (cs := #[.slice none 0 0,.slice none 0 0]) rfl rfl (by kernel_rfl))) (gAl hm zeroValue76 rfl λaD w hm=>gSN hm 0 sizeOf76 (one_cons rfl (one_cons rfl one_nil)) rfl λw hm=>gE (gS (gR (gF fo_44_2 rfl (gL hm 2 isAgg42 rfl ?_))))))))))
  obtain ⟨aN,aM,rfl,cV⟩ := ro_slice h1
  refine gY (yV st_42 rfl) (gA rfl (gE (gS (gS (gR (gA rfl (gE (gBk ?_))))))))
  replace hm := hm.nilow (α := List Bool)
  replace hm := hm.nilow (α := List Bool)
  refine gNg (λbN aP a w=>∃ (aV aO : Value),St 126 [(1,(pV aE)),(2,(pV aC)),(3,(pV aD)),(4,(nV ((c_.blocks.length : Int)))),(5,(nV bN))] w0 (hp w0) [blk aE [nV c_.params,nV c_.regs,.slice aN c_.blocks.length aM] 44,blk aC [.slice none 0 0,.slice none 0 0] 76,blk aD [aV,aO] 76,ow [aV] aP.1,ow [aO] aP.2] a w) (λa hf=>⟨.slice none 0 0,.slice none 0 0,hf.sb rfl,hm.pk [4,3,2,1,0] rfl rfl⟩) ?_ ?_
  ·repeat clear hm
   rintro _ _ bN aP a w ⟨aV,aO,hf,hm⟩ cW cX cY _
   refine gv hf (gS (gS (gR (gM rfl (gM rfl (gB rfl (gE (go _ 18 rfl (decide_eq_true (by omega)) (gct rfl (gSk (gS (gBk (gS (gW (.p 0 (.p 2 (.q 1 (.e 3 (.e 4 (.e 5 (.e 6 (.p 7 (.e 8 .fin .nil)) .nil) .nil) .nil) .nil)))) [3,4,5] [0,2,7] hm [0,1,2,3,4] [blk aE [nV c_.params,nV c_.regs,.slice aN c_.blocks.length aM] 44,blk aC [.slice none 0 0,.slice none 0 0] 76,blk aD [aV,aO] 76,ow [aV] aP.1,ow [aO] aP.2] rfl mxo (by kernel_rfl) (λ_ _ _ h=>h.2) λw hm hS=>tP rfl (λw=>yF fo_76_0 rfl) (tP rfl (λw=>yF fo_44_1 rfl) (tQ rfl hS (λw hm=>yL hm 2 isAgg74 rfl) (tO (tY rfl (yL hm 0 isAgg3 rfl) (tAs hS (tO (gb λaW bZ=>?_)))))))))))))))))))))
   obtain ⟨⟨b6,b7⟩,bO⟩ := makeM_some.1 bZ
   refine tf rfl rfl (λa hf=>e_make (x0 := (false : Bool)) et_73 (λ_=>(Flat.own_iff.2 rfl)) hf hm rfl rfl rfl b6 (Int.le_refl _) b7) ?_
   rintro cZ w hm
   rw [bO] at hm
   have h1_1l : (aW.length : Int) = c_.regs := by rw [← bO]; simp only [List.length_replicate]; omega
   refine tAk hm [1,2,3,4,5] rfl λhS=>tO ?_
   obtain ⟨ac,ae,rfl,c4⟩ := ro_slice (hm.ow_rep 0 rfl)
   refine tf rfl rfl (λa hf=>e_build (vs := #[(0,(.slice ac aW.length ae))]) (cs := [.slice ac aW.length ae]) et_74 hf hm rfl rfl (by kernel_rfl) rfl rfl) ?_
   rintro _ w ⟨ay,rfl,hm⟩
   replace hm := hm.els_nil (α := List Bool)
   replace hm := hm.imp (c' := ow [.slice ac aW.length ae] (aW : List Bool)) 2 rfl (λF h0=>h0)
   replace hm := (hm.els_cons 0 2 (by decide) rfl rfl).pk (L' := [els [.slice ac aW.length ae] ([aW] : List (List Bool)),blk ay [.slice ac aW.length ae] 73,blk aE [nV c_.params,nV c_.regs,.slice aN c_.blocks.length aM] 44,blk aC [.slice none 0 0,.slice none 0 0] 76,blk aD [aV,aO] 76,ow [aV] aP.1,ow [aO] aP.2]) [0,1,3,4,5,6,7] rfl rfl
   replace hm := (hm.lit_els 1 0 (by decide) rfl rfl rfl rfl).pk (L' := [ow [sV ay 0 1 1] ([aW] : List (List Bool)),blk aE [nV c_.params,nV c_.regs,.slice aN c_.blocks.length aM] 44,blk aC [.slice none 0 0,.slice none 0 0] 76,blk aD [aV,aO] 76,ow [aV] aP.1,ow [aO] aP.2]) [1,2,3,4,5,6] rfl rfl
   refine tAk hm [1,2,3,4,5] rfl λhS=>tO (gb λan b8=>?_)
   obtain ⟨b9,ba⟩ := appM_some.1 b8
   replace hm := (hm.both 4 0 (by decide) rfl rfl).pk (L' := [blk aE [nV c_.params,nV c_.regs,.slice aN c_.blocks.length aM] 44,blk aC [.slice none 0 0,.slice none 0 0] 76,blk aD [aV,aO] 76,both (ow [aV] aP.1) (ow [sV ay 0 1 1] ([aW] : List (List Bool))),ow [aO] aP.2]) [1,2,3,4,5] rfl rfl
   refine tf rfl rfl (λa hf=>e_appendD (xs := aP.1) (ys := ([aW] : List (List Bool))) 3 et_74 hf hm rfl rfl rfl rfl b9) ?_
   rintro aZ w hm
   rw [ba] at hm
   refine tAn rfl (tP rfl (λw=>yF fo_76_0 rfl) (tO (tf0 rfl rfl (λa hf=>e_store1 2 hf hm rfl sizeOf74 rfl rfl rfl (rep_one (hm.ow_rep 3 rfl)) rfl) ?_)))
   rintro _ w hm
   refine tAn rfl (tE (gW (.p 0 (.p 2 (.q 1 (.e 3 (.e 4 (.e 5 (.e 6 (.p 7 (.e 8 .fin .nil)) .nil) .nil) .nil) .nil)))) [3,4,5] [0,2,7] hm [0,1,2,3,4] [blk aE [nV c_.params,nV c_.regs,.slice aN c_.blocks.length aM] 44,blk aC [.slice none 0 0,.slice none 0 0] 76,blk aD [aZ,aO] 76,ow [aZ] an,ow [aO] aP.2] rfl mxo (by kernel_rfl) (λ_ _ _ h=>h.2) λw hm hS=>tP rfl (λw=>yF fo_76_1 rfl) (tP rfl (λw=>yF fo_44_1 rfl) (tQ rfl hS (λw hm=>yL hm 2 isAgg74 rfl) (tO (tY rfl (yL hm 0 isAgg3 rfl) (tAs hS (tO (gb λaX bc=>?_)))))))))
   obtain ⟨⟨bd,be⟩,bP⟩ := makeM_some.1 bc
   refine tf rfl rfl (λa hf=>e_make (x0 := (false : Bool)) et_73 (λ_=>(Flat.own_iff.2 rfl)) hf hm rfl rfl rfl bd (Int.le_refl _) be) ?_
   rintro c5 w hm
   rw [bP] at hm
   have h1_3l : (aX.length : Int) = c_.regs := by rw [← bP]; simp only [List.length_replicate]; omega
   refine tAk hm [1,2,3,4,5] rfl λhS=>tO ?_
   obtain ⟨af,ah,rfl,c6⟩ := ro_slice (hm.ow_rep 0 rfl)
   refine tf rfl rfl (λa hf=>e_build (vs := #[(0,(.slice af aX.length ah))]) (cs := [.slice af aX.length ah]) et_74 hf hm rfl rfl (by kernel_rfl) rfl rfl) ?_
   rintro _ w ⟨az,rfl,hm⟩
   replace hm := hm.els_nil (α := List Bool)
   replace hm := hm.imp (c' := ow [.slice af aX.length ah] (aX : List Bool)) 2 rfl (λF h0=>h0)
   replace hm := (hm.els_cons 0 2 (by decide) rfl rfl).pk (L' := [els [.slice af aX.length ah] ([aX] : List (List Bool)),blk az [.slice af aX.length ah] 73,blk aE [nV c_.params,nV c_.regs,.slice aN c_.blocks.length aM] 44,blk aC [.slice none 0 0,.slice none 0 0] 76,blk aD [aZ,aO] 76,ow [aZ] an,ow [aO] aP.2]) [0,1,3,4,5,6,7] rfl rfl
   replace hm := (hm.lit_els 1 0 (by decide) rfl rfl rfl rfl).pk (L' := [ow [sV az 0 1 1] ([aX] : List (List Bool)),blk aE [nV c_.params,nV c_.regs,.slice aN c_.blocks.length aM] 44,blk aC [.slice none 0 0,.slice none 0 0] 76,blk aD [aZ,aO] 76,ow [aZ] an,ow [aO] aP.2]) [1,2,3,4,5,6] rfl rfl
   refine tAk hm [1,2,3,4,5] rfl λhS=>tO (gb λc7 bf=>?_)
   obtain ⟨bg,bh⟩ := appM_some.1 bf
   replace hm := (hm.both 5 0 (by decide) rfl rfl).pk (L' := [blk aE [nV c_.params,nV c_.regs,.slice aN c_.blocks.length aM] 44,blk aC [.slice none 0 0,.slice none 0 0] 76,blk aD [aZ,aO] 76,ow [aZ] an,both (ow [aO] aP.2) (ow [sV az 0 1 1] ([aX] : List (List Bool)))]) [1,2,3,4,5] rfl rfl
   refine tf rfl rfl (λa hf=>e_appendD (xs := aP.2) (ys := ([aX] : List (List Bool))) 4 et_74 hf hm rfl rfl rfl rfl bg) ?_
   rintro bi w hm
   rw [bh] at hm
   refine tAn rfl (tP rfl (λw=>yF fo_76_1 rfl) (tO (tf0 rfl rfl (λa hf=>e_store1 2 hf hm rfl sizeOf74 rfl rfl rfl (rep_one (hm.ow_rep 4 rfl)) rfl) ?_)))
   rintro _ w hm
   exact tAn rfl (tE (gR (gM rfl (gP (by omega) (by omega) rfl (gA rfl (gE (gZe λa hf=>⟨aZ,bi,hf.sb rfl,hm.pk [0,1,2,3,4] rfl rfl⟩)))))))
  repeat clear hm
  rintro c8 aA a w ⟨c9,ca,hf,hm⟩ cb cd
  refine gv hf (gS (gS (gR (gM rfl (gM rfl (gB rfl (gE (go _ 18 rfl (decide_eq_false (by omega)) (gcf rfl (gXt (gHh (gS (gS (gR (gA rfl (gE ?_))))))))))))))))
  obtain ⟨aJ,aF,rfl,ce⟩ := ro_slice (hm.ow_rep 3 rfl)
  obtain ⟨aG,aH,rfl,cf⟩ := ro_slice (hm.ow_rep 4 rfl)
  refine gJ hm (λai=>[(2,(pV aC)),(3,(pV aD))]) (λai=>[blk aC [.slice none 0 0,.slice none 0 0] 76,blk aD [.slice aJ aA.1.length aF,.slice aG aA.2.length aH] 76,ow [.slice aJ aA.1.length aF] ai.1,ow [.slice aG aA.2.length aH] ai.2]) (λai=>?_) ?_
  ·refine gBk (gMf hm (fun aj => [(1, (pV aE)), (2, (pV aC)), (3, (pV aD)), (4, (nV ((c_.blocks.length : Int)))), (6, (.bool (aj.2.2)))]) (fun aj => [blk aE [nV c_.params, nV c_.regs, .slice aN c_.blocks.length aM] 44, blk aC [.slice none 0 0, .slice none 0 0] 76, blk aD [.slice aJ aA.1.length aF, .slice aG aA.2.length aH] 76, ow [.slice aJ aA.1.length aF] aj.1, ow [.slice aG aA.2.length aH] aj.2.1]) [0, 1, 2, 3, 4] rfl ?_)
   repeat clear hm
   intro cg bj aj w hm ci bk
   refine gS (gS (gR (gM rfl (gE (gs 37 rfl (λbm=>?_) λbm=>?_)))))
   ·refine gct rfl (gSk (gBk (gS (gR (gA rfl (gE (gS (gR (gM rfl (gY (yS (by omega) (by omega) rfl) (gA rfl (gE (gJ hm (fun ab => [(1, (pV aE)), (2, (pV aC)), (3, (pV aD)), (4, (nV ((c_.blocks.length : Int)))), (6, (.bool (ab.2.2)))]) (fun ab => [blk aE [nV c_.params, nV c_.regs, .slice aN c_.blocks.length aM] 44, blk aC [.slice none 0 0, .slice none 0 0] 76, blk aD [.slice aJ aA.1.length aF, .slice aG aA.2.length aH] 76, ow [.slice aJ aA.1.length aF] ab.1, ow [.slice aG aA.2.length aH] ab.2.1]) (fun ab => ?_) ?_)))))))))))))
    ·refine gBk (gMf hm (fun aL => [(1, (pV aE)), (2, (pV aC)), (3, (pV aD)), (4, (nV ((c_.blocks.length : Int)))), (6, (.bool (aL.2.2.1))), (7, (nV aL.2.2.2))]) (fun aL => [blk aE [nV c_.params, nV c_.regs, .slice aN c_.blocks.length aM] 44, blk aC [.slice none 0 0, .slice none 0 0] 76, blk aD [.slice aJ aA.1.length aF, .slice aG aA.2.length aH] 76, ow [.slice aJ aA.1.length aF] aL.1, ow [.slice aG aA.2.length aH] aL.2.1]) [0, 1, 2, 3, 4] rfl ?_)
     repeat clear hm
     intro cj bp aL w hm ck bq
     refine gS (gS (gR (gM rfl (gB rfl (gE (gsd 41 rfl (λbr=>?_) λbr=>?_))))))
     ·refine gct rfl (gSk (gS (gBk (gS (gS (gR (gA rfl (gE (gJ hm (fun aQ => [(1, (pV aE)), (2, (pV aC)), (3, (pV aD)), (4, (nV ((c_.blocks.length : Int)))), (6, (.bool (aQ.2))), (7, (nV aL.2.2.2))]) (fun aQ => [blk aE [nV c_.params, nV c_.regs, .slice aN c_.blocks.length aM] 44, blk aC [.slice none 0 0, .slice none 0 0] 76, blk aD [.slice aJ aA.1.length aF, .slice aG aA.2.length aH] 76, ow [.slice aJ aA.1.length aF] aL.1, ow [.slice aG aA.2.length aH] aQ.1]) (fun aQ => ?_) ?_)))))))))
      ·refine gBk (gMf hm (fun aa => [(1, (pV aE)), (2, (pV aC)), (3, (pV aD)), (4, (nV ((c_.blocks.length : Int)))), (6, (.bool (aa.2.1))), (7, (nV aL.2.2.2)), (8, (nV aa.2.2))]) (fun aa => [blk aE [nV c_.params, nV c_.regs, .slice aN c_.blocks.length aM] 44, blk aC [.slice none 0 0, .slice none 0 0] 76, blk aD [.slice aJ aA.1.length aF, .slice aG aA.2.length aH] 76, ow [.slice aJ aA.1.length aF] aL.1, ow [.slice aG aA.2.length aH] aa.1]) [0, 1, 2, 3, 4] rfl ?_)
       repeat clear hm
       intro cl bs aa w hm cm bt
       refine gS (gS (gR (gM rfl (gF fo_44_2 rfl (gL hm 0 isAgg42 rfl (gM rfl (gg λcn bQ ao=>?_)))))))
       obtain ⟨ap,aq,co,he⟩ := idx_form' h1 ao
       obtain ⟨rfl,_,rfl⟩ := sl3 he
       obtain ⟨cq,cr,ct,bR,cu,cv,bA⟩ := rk_Block_ h1 ao
       refine gI st_42 bQ (idx_lt ao) rfl (gF fo_49_4 rfl (gY (yl isAgg47 ((bR.mono hm.lez).cell (j := 4) rfl) rfl) ?_))
       obtain ⟨cw,cx,rfl,cy⟩ := ro_slice bA
       refine gY (yV st_47 rfl) (gB rfl (gE (gsd 52 rfl (λbu=>?_) λbu=>?_)))
       ·refine gct rfl (gSk (gS (gBk (gJ hm (fun ak => [(1, (pV aE)), (2, (pV aC)), (3, (pV aD)), (4, (nV ((c_.blocks.length : Int)))), (6, (.bool (ak.2))), (7, (nV aL.2.2.2)), (8, (nV aa.2.2))]) (fun ak => [blk aE [nV c_.params, nV c_.regs, sV ap aq c_.blocks.length aM] 44, blk aC [.slice none 0 0, .slice none 0 0] 76, blk aD [.slice aJ aA.1.length aF, .slice aG aA.2.length aH] 76, ow [.slice aJ aA.1.length aF] aL.1, ow [.slice aG aA.2.length aH] ak.1]) (fun ak => ?_) ?_))))
        ·refine gW (.p 2 (.p 3 (.p 5 (.p 9 (.q 0 (.q 1 (.e 4 (.p 6 (.p 7 (.e 8 (.p 10 (.e 11 (.e 12 (.p 13 (.p 14 (.p 15 (.p 16 .fin)))) .nil) .nil)) .nil))) .nil))))))) [0, 1, 4, 8, 11] [2, 3, 5, 6, 7, 9, 10, 13, 14, 15, 16] hm [0, 1, 2, 3, 4] [blk aE [nV c_.params, nV c_.regs, sV ap aq c_.blocks.length aM] 44, blk aC [.slice none 0 0, .slice none 0 0] 76, blk aD [.slice aJ aA.1.length aF, .slice aG aA.2.length aH] 76, ow [.slice aJ aA.1.length aF] aL.1, ow [.slice aG aA.2.length aH] aa.1] rfl mxo (by kernel_rfl) (fun _ _ _ h => h.2) fun w hm hS => tP rfl (fun w => yM rfl) (tP rfl (fun w => yF fo_44_2 rfl) (tP rfl (fun w => yM rfl) (tP rfl (fun w => yM rfl) (tQ rfl hS (fun w hm => yn (hm.blk_at 0 rfl) isAgg44 sizeOf44 rfl) (tQ rfl hS (fun w hm => yn (hm.blk_at 2 rfl) isAgg76 sizeOf76 rfl) (tO (tY rfl (yL hm 0 isAgg42 rfl) (tAs hS (tP rfl (fun w => yI st_42 bQ (idx_lt ao) rfl) (tP rfl (fun w => yF fo_49_4 rfl) (tO (tY rfl (yl isAgg47 ((bR.mono hm.lez).cell (j := 4) rfl) rfl) (tAs hS (gg fun bS bv bB => ?_))))))))))))))
         obtain ⟨cz,dA,dB,he⟩ := idx_form bA bB
         obtain ⟨rfl,_,rfl⟩ := sl3 he
         refine tP rfl (λw=>yI st_47 bv (idx_lt bB) rfl) (tO (tY rfl (yl isAgg3 ((flat_cells (cs := [nV bS]) (hm.now bA) bB rfl).cell (j := 0) rfl) rfl) (tAs hS (tO (gb λdC bx=>?_)))))
         obtain ⟨bz,hle,hm1,hsub,cA⟩ := hm.take2 (L1 := [ow [.slice aG aA.2.length aH] aa.1]) (L2 := [blk aE [nV c_.params,nV c_.regs,sV ap aq c_.blocks.length aM] 44,blk aC [.slice none 0 0,.slice none 0 0] 76,blk aD [.slice aJ aA.1.length aF,.slice aG aA.2.length aH] 76,ow [.slice aJ aA.1.length aF] aL.1]) [4] [0,1,2,3] (by decide) rfl rfl
         refine tf rfl rfl (λa hf=>e_call hf rfl call81 rfl (spec_l12Flow_ok _ bz c_ (sV ap aq c_.blocks.length aM) (GT.mono hle h1) (⟨aL.1,aa.1⟩ : l12Sets) (.slice aJ aA.1.length aF) (fz_ow (hsub 3 _ rfl)) (.slice aG aA.2.length aH) aL.2.2.2 bS hm1  _ bx)) ?_
         rintro dD w ⟨rfl,hB⟩
         replace hm := cA _ _ hB; clear hB
         refine tAn rfl (tP rfl (λw=>yM rfl) (gs 68 rfl (λcB=>?_) λcB=>?_))
         ·exact tPo rfl rfl (tP rfl (λw=>yKt rfl) (tP rfl (λw=>yA rfl) (tE (gz hm [1,2,3,4,0] rfl))))
         exact tP rfl (λw=>yM rfl) (tP rfl (λw=>yKf rfl) (tP rfl (λw=>yA rfl) (tE (gz hm [1,2,3,4,0] rfl))))
        repeat clear hm
        intro ak w hm
        exact gR (gM rfl (gB rfl (gA rfl (gE (gze hm [0,1,2,3,4] rfl)))))
       exact gcf rfl (gXt (gHh (gLp bt bs (gz hm [0,1,2,3,4] rfl))))
      repeat clear hm
      intro aQ w hm
      refine gS (gR (gY (yn (hm.blk_at 0 rfl) isAgg44 sizeOf44 rfl) (gY (yn (hm.blk_at 2 rfl) isAgg76 sizeOf76 rfl) (gM rfl (gCg rfl call82 (spec_l12Behind_ok _ c_ (.slice aN c_.blocks.length aM) (hm.now h1) (⟨aL.1,aQ.1⟩ : l12Sets) (.slice aJ aA.1.length aF) (hm.ow_rep 3 rfl) (.slice aG aA.2.length aH) (hm.ow_rep 4 rfl) aL.2.2.2 (-1)) ?_)))))
      rintro aR dE dF w ⟨_,rfl,hB⟩
      replace hm := hm.give hB; clear hB
      refine gA rfl (gE (gS (gS (gR (gA rfl (gE ?_))))))
      obtain ⟨aS,aT,rfl,dG⟩ := ro_slice (hm.ow_rep 0 rfl)
      refine gJ hm (λaY=>[(1,(pV aE)),(2,(pV aC)),(3,(pV aD)),(4,(nV ((c_.blocks.length : Int)))),(6,(.bool (aQ.2))),(7,(nV aL.2.2.2)),(9,(.slice aS aR.length aT))]) (λaY=>[blk aE [nV c_.params,nV c_.regs,.slice aN c_.blocks.length aM] 44,blk aC [.slice none 0 0,.slice none 0 0] 76,blk aD [.slice aJ aA.1.length aF,.slice aG aA.2.length aH] 76,ow [.slice aJ aA.1.length aF] aL.1,ow [.slice aG aA.2.length aH] aQ.1,ow [.slice aS aR.length aT] aY]) (λaY=>?_) ?_
      ·refine gBk (gMf hm (fun ar => [(1, (pV aE)), (2, (pV aC)), (3, (pV aD)), (4, (nV ((c_.blocks.length : Int)))), (6, (.bool (aQ.2))), (7, (nV aL.2.2.2)), (9, (.slice aS aR.length aT)), (10, (nV ar.2))]) (fun ar => [blk aE [nV c_.params, nV c_.regs, .slice aN c_.blocks.length aM] 44, blk aC [.slice none 0 0, .slice none 0 0] 76, blk aD [.slice aJ aA.1.length aF, .slice aG aA.2.length aH] 76, ow [.slice aJ aA.1.length aF] aL.1, ow [.slice aG aA.2.length aH] aQ.1, ow [.slice aS aR.length aT] ar.1]) [1, 2, 3, 4, 5, 0] rfl ?_)
       repeat clear hm
       intro dH cC ar w hm dI cD
       refine gS (gS (gR (gM rfl (gF fo_44_2 rfl (gL hm 0 isAgg42 rfl (gM rfl (gg λdJ bT au=>?_)))))))
       obtain ⟨dK,dL,dM,he⟩ := idx_form' h1 au
       obtain ⟨rfl,_,rfl⟩ := sl3 he
       obtain ⟨dN,dO,dP,bU,bC,dQ,dR⟩ := rk_Block_ h1 au
       refine gI st_42 bT (idx_lt au) rfl (gF fo_49_0 rfl (gY (yl isAgg45 ((bU.mono hm.lez).cell (j := 0) rfl) rfl) ?_))
       obtain ⟨dS,dT,rfl,dU⟩ := ro_slice bC
       refine gY (yV st_45 rfl) (gB rfl (gE (gsd 83 rfl (λcE=>?_) λcE=>?_)))
       ·refine gct rfl (gSk (gS (gBk (gR (gM rfl (gF fo_44_2 rfl (gL hm 0 isAgg42 rfl (gM rfl (gI st_42 bT (idx_lt au) rfl (gF fo_49_0 rfl (gY (yl isAgg45 ((bU.mono hm.lez).cell (j := 0) rfl) rfl) (gM rfl (gg fun dV cF bD => ?_)))))))))))))
        obtain ⟨dW,dX,dY,he⟩ := idx_form' bC bD
        obtain ⟨rfl,_,rfl⟩ := sl3 he
        obtain ⟨dZ,cG,d4⟩ := rk_Phi_ bC bD
        refine gI st_45 cF (idx_lt bD) rfl (gF fo_105_0 rfl (gY (yl isAgg3 ((cG.mono hm.lez).cell (j := 0) rfl) rfl) (gg λd5 cH av=>?_)))
        obtain ⟨d6,d7,d8,he⟩ := idx_form (hm.ow_rep 5 rfl) av
        obtain ⟨rfl,_,rfl⟩ := sl3 he
        have hL6_1 := rep_slice_len (hm.ow_rep 5 rfl)
        refine gI st_73 cH (idx_lt2 av hL6_1) rfl (gf0 rfl (λa hf=>e_setElem (x1 := false) (j := 0) (vs := [(.bool (false))]) 5 hf hm rfl av rfl sizeOf4 rfl rfl rfl (one_cons rfl one_nil) rfl rfl) ?_)
        rintro _ w hm
        have d9 := List.getElem?_set_self (a := false) (idx_lt av)
        exact gE (gR (gM rfl (gB rfl (gA rfl (gE (gze hm [0,1,2,3,4,5] rfl))))))
       exact gcf rfl (gXt (gHh (gLp cD cC (gz hm [0,1,2,3,4,5] rfl))))
      repeat clear hm
      intro aY w hm
      refine gS (gS (gR (gA rfl (gE (gBk (gb λ_ bV=>?_))))))
      replace bV := fitI_some.1 bV
      refine gNf hm (λaw bE=>[(1,(pV aE)),(2,(pV aC)),(3,(pV aD)),(4,(nV ((c_.blocks.length : Int)))),(6,(.bool (bE))),(7,(nV aL.2.2.2)),(9,(.slice aS aR.length aT)),(11,(nV aw))]) (λaw bE=>[blk aE [nV c_.params,nV c_.regs,.slice aN c_.blocks.length aM] 44,blk aC [.slice none 0 0,.slice none 0 0] 76,blk aD [.slice aJ aA.1.length aF,.slice aG aA.2.length aH] 76,ow [.slice aJ aA.1.length aF] aL.1,ow [.slice aG aA.2.length aH] aQ.1,ow [.slice aS aR.length aT] aY]) [0,1,2,3,4,5] rfl ?_ ?_
      ·repeat clear hm
       intro _ _ aw bE w hm da db dc _
       refine gS (gS (gR (gM rfl (gF fo_44_1 rfl (gL hm 0 isAgg3 rfl (gB rfl (gE (go _ 101 rfl (decide_eq_true (by omega)) (gct rfl (gSk (gS (gBk (gJ hm (λax=>[(1,(pV aE)),(2,(pV aC)),(3,(pV aD)),(4,(nV ((c_.blocks.length : Int)))),(6,(.bool (ax))),(7,(nV aL.2.2.2)),(9,(.slice aS aR.length aT)),(11,(nV aw))]) (λax=>[blk aE [nV c_.params,nV c_.regs,.slice aN c_.blocks.length aM] 44,blk aC [.slice none 0 0,.slice none 0 0] 76,blk aD [.slice aJ aA.1.length aF,.slice aG aA.2.length aH] 76,ow [.slice aJ aA.1.length aF] aL.1,ow [.slice aG aA.2.length aH] aQ.1,ow [.slice aS aR.length aT] aY]) (λax=>?_) ?_)))))))))))))
       ·refine gW (.p 0 (.p 1 (.p 2 (.p 3 (.p 4 (.p 6 (.p 8 (.p 11 (.q 5 (.e 7 (.p 9 (.e 10 (.p 12 (.e 13 (.p 14 (.p 15 (.p 16 .fin))) .nil)) .nil)) .nil)))))))))) [7, 10, 13] [0, 1, 2, 3, 4, 6, 8, 9, 11, 12, 14, 15, 16] hm [0, 1, 2, 3, 4, 5] [blk aE [nV c_.params, nV c_.regs, .slice aN c_.blocks.length aM] 44, blk aC [.slice none 0 0, .slice none 0 0] 76, blk aD [.slice aJ aA.1.length aF, .slice aG aA.2.length aH] 76, ow [.slice aJ aA.1.length aF] aL.1, ow [.slice aG aA.2.length aH] aQ.1, ow [.slice aS aR.length aT] aY] rfl mxo (by kernel_rfl) (fun _ _ _ h => h.2) fun w hm hS => tP rfl (fun w => yM rfl) (tP rfl (fun w => yM rfl) (gs 105 rfl (fun cI => ?_) fun cI => ?_))
        ·exact tPo rfl rfl (tPo rfl rfl (tPo rfl rfl (tPo rfl rfl (tPo rfl rfl (tPo rfl rfl (tQo rfl hS rfl (tO (tEo rfl rfl (tAs hS (tPo rfl rfl (tO (tEo rfl rfl (tAs hS (tPo rfl rfl (tO (tEo rfl rfl (tAs hS (tPo rfl rfl (tP rfl (λw=>yKt rfl) (tP rfl (λw=>yA rfl) (tE (gz hm [0,1,2,3,4,5] rfl))))))))))))))))))))))
        refine tP rfl (λw=>yM rfl) (tP rfl (λw=>yM rfl) (gg λcJ cK bF=>?_))
        obtain ⟨dd,de,df,he⟩ := idx_form (hm.ow_rep 5 rfl) bF
        obtain ⟨rfl,_,rfl⟩ := sl3 he
        have hL6_2 := rep_slice_len (hm.ow_rep 5 rfl)
        refine tP rfl (λw=>yI st_73 cK (idx_lt2 bF hL6_2) rfl) (tP rfl (λw=>yF fo_76_0 rfl) (tP rfl (λw=>yM rfl) (tP rfl (λw=>yM rfl) (tQ rfl hS (λw hm=>yl isAgg4 ((flat_cells (cs := [(.bool (cJ))]) (hm.ow_rep 5 rfl) bF rfl).cell (j := 0) rfl) rfl) (tO (tY rfl (yL hm 2 isAgg74 rfl) (tAs hS (gg λcL cM bG=>?_))))))))
        obtain ⟨cN,cO,dg,he⟩ := idx_form' (hm.ow_rep 3 rfl) bG
        obtain ⟨rfl,_,rfl⟩ := sl3 he
        obtain ⟨_,_,bH,cP⟩ := ro_get' (hm.ow_rep 3 rfl) bG
        have al := cP
        obtain ⟨bW,rfl,-⟩ := id al
        replace al : GT.rep (hp _) [bW] cL := al
        replace bH : CellsAt (hp _) cN (cO + (aL.2.2.2).toNat * 1) [bW] := bH
        have hL6_3 := rep_slice_len (hm.ow_rep 3 rfl)
        refine tP rfl (λw=>yI st_74 cM (idx_lt2 bG hL6_3) rfl) (tO (tY rfl (yl isAgg73 (bH.cell (j := 0) rfl) rfl) (tAs hS (gg λcQ cR bJ=>?_))))
        obtain ⟨dh,di,dk,he⟩ := idx_form al bJ
        subst he
        exact tP rfl (λw=>yI st_73 cR (idx_lt bJ) rfl) (tO (tY rfl (yl isAgg4 ((flat_cells (cs := [(.bool (cQ))]) al bJ rfl).cell (j := 0) rfl) rfl) (tAs hS (tP rfl (λw=>yG rfl (y_neqb underlying4 rfl rfl rfl)) (tP rfl (λw=>yKf rfl) (tP rfl (λw=>yA rfl) (tE (gz hm [0,1,2,3,4,5] rfl))))))))
       repeat clear hm
       intro ax w hm
       exact gR (gM rfl (gP (by omega) (by omega) rfl (gA rfl (gE (gze hm [0,1,2,3,4,5] rfl)))))
      repeat clear hm
      intro dl dm w hm dp dq
      refine gS (gS (gR (gM rfl (gF fo_44_1 rfl (gL hm 0 isAgg3 rfl (gB rfl (gE (go _ 101 rfl (decide_eq_false (by omega)) (gcf rfl (gXt (gHh (gR (gF fo_76_0 rfl (gL hm 2 isAgg74 rfl (gM rfl (gM rfl (gg λcS cT am=>?_)))))))))))))))))
      obtain ⟨bK,bL,dr,he⟩ := idx_form' (hm.ow_rep 3 rfl) am
      obtain ⟨rfl,_,rfl⟩ := sl3 he
      obtain ⟨_,_,bX,cU⟩ := ro_get' (hm.ow_rep 3 rfl) am
      have bM := cU
      obtain ⟨bY,rfl,-⟩ := id bM
      replace bM : GT.rep (hp _) [bY] cS := bM
      replace bX : CellsAt (hp _) bK (bL + (aL.2.2.2).toNat * 1) [bY] := bX
      have hL4_1 := rep_slice_len (hm.ow_rep 3 rfl)
      refine gI st_74 cT (idx_lt2 am hL4_1) rfl ?_
      replace hm := hm.imp (c' := ow [.slice aS aR.length aT] (aY : List Bool)) 5 rfl (λF h0=>h0)
      replace hm := (hm.both 3 5 (by decide) rfl rfl).pk (L' := [blk aE [nV c_.params,nV c_.regs,.slice aN c_.blocks.length aM] 44,blk aC [.slice none 0 0,.slice none 0 0] 76,blk aD [sV bK bL aA.1.length aF,.slice aG aA.2.length aH] 76,both (ow [sV bK bL aA.1.length aF] aL.1) (ow [.slice aS aR.length aT] (aY : List Bool)),ow [.slice aG aA.2.length aH] aQ.1]) [0,1,2,3,4] rfl rfl
      refine gf0 rfl (λa hf=>e_putElem (x1 := (aY : List Bool)) (vs := [.slice aS aR.length aT]) 3 hf hm rfl am rfl sizeOf73 rfl rfl rfl rfl) ?_
      rintro _ w hm
      have dt := List.getElem?_set_self (a := (aY : List Bool)) (idx_lt am)
      exact gE (gR (gM rfl (gB rfl (gA rfl (gE (gze hm [0,1,2,3,4] rfl))))))
     exact gcf rfl (gXt (gHh (gLp bq bp (gz hm [0,1,2,3,4] rfl))))
    repeat clear hm
    intro ab w hm
    exact gze hm [0,1,2,3,4] rfl
   exact gcf rfl (gXt (gHh (gLp bk bj (gz hm [1,2,3,4] rfl))))
  repeat clear hm
  intro ai w hm
  exact gS (gR (gY (yn (hm.blk_at 1 rfl) isAgg76 sizeOf76 rfl) (gSN hm 0 sizeOf76 (one_cons rfl (one_cons rfl one_nil)) rfl λw hm=>gE (gRt (grc 0 results47 hm rfl isAgg76 sizeOf76 ⟨.slice aJ aA.1.length aF,.slice aG aA.2.length aH,rfl,hm.pk [2,3] rfl rfl⟩)))))
theorem spec_l19Phis_ok (w0 : World) (hz : Heap) (old : Code_) (v1 : Value) (h1 : GT.rep hz [v1] old.blocks) (out : Code_) (bp1 : Nat) (v1p : Value) (n_ : Int) (b_ : Int) (rest_ : Int) (hm0 : Mem w0 hz w0 [blk bp1 [nV out.params, nV out.regs, v1p] 44, ow [v1p] out.blocks]) :
    ConM Tryz.prog 48 [(.agg #[nV old.params,nV old.regs,v1]),(pV bp1),nV n_,nV b_,nV rest_] w0 (spec_l19Phis old out n_ b_ rest_) λr v w'=>∃ (x1 : Value),v = (.tuple #[]) ∧ Mem w0 hz w' [blk bp1 [nV r.params,nV r.regs,x1] 44,ow [x1] r.blocks] := by
  unfold spec_l19Phis
  refine gcon func48 rfl λr=>?_
  have hm := hm0
  refine gS (gR (gBx hm rfl λaO w hm=>gE (gS (gR (gY (yn (hm.blk_at 0 rfl) isAgg44 sizeOf44 rfl) (gM rfl (gCg rfl call83 (spec_l7Preds_ok _ old v1 (hm.now h1) n_) ?_)))))))
  rintro aC bX bY w ⟨_,rfl,hB⟩
  replace hm := hm.give hB; clear hB
  refine gA rfl (gE (gS (gR (gM rfl (gY (yG rfl (y_nilptr rfl rfl)) (gY (yn (hm.blk_at 2 rfl) isAgg44 sizeOf44 rfl) (gM rfl (gCg rfl call83 (spec_l7Preds_ok _ out v1p (hm.ow_rep 3 rfl) n_) ?_))))))))
  rintro aD bZ b6 w ⟨_,rfl,hB⟩
  replace hm := hm.give hB; clear hB
  refine gA rfl (gE (gS (gR (gA rfl (gE ?_)))))
  obtain ⟨ab,aE,rfl,b7⟩ := ro_slice (hm.ow_rep 4 rfl)
  obtain ⟨aL,aM,rfl,b8⟩ := ro_slice (hm.ow_rep 1 rfl)
  obtain ⟨aQ,aP,rfl,b9⟩ := ro_slice (hm.ow_rep 0 rfl)
  refine gJ hm (λah=>[]) (λah=>[blk bp1 [nV out.params,nV out.regs,.slice ab out.blocks.length aE] 44,ow [.slice ab out.blocks.length aE] ah]) (λah=>?_) ?_
  ·refine gBk (gMf hm (fun aF => [(1, (pV bp1)), (2, (nV n_)), (3, (nV b_)), (4, (nV rest_)), (5, (pV aO)), (10, (.slice aL aC.length aM)), (11, (.slice aQ aD.length aP)), (12, (nV aF.2))]) (fun aF => [blk bp1 [nV out.params, nV out.regs, .slice ab out.blocks.length aE] 44, ow [.slice ab out.blocks.length aE] aF.1, blk aO [nV old.params, nV old.regs, v1] 44, ow [.slice aL aC.length aM] aC, ow [.slice aQ aD.length aP] aD]) [3, 4, 2, 1, 0] rfl ?_)
   repeat clear hm
   intro ba bB aF w hm bc bC
   refine gS (gS (gR (gM rfl (gM rfl (gY (yG rfl (y_nilptr rfl rfl)) (gF fo_44_2 rfl (gL hm 0 isAgg42 rfl (gM rfl (gg λaJ bD aY=>?_)))))))))
   obtain ⟨aG,aH,bd,he⟩ := idx_form' (hm.ow_rep 1 rfl) aY
   obtain ⟨rfl,_,rfl⟩ := sl3 he
   obtain ⟨be,bf,bg,bh,bi,bj,bk⟩ := rk_Block_ (hm.ow_rep 1 rfl) aY
   have hL2_1 := rep_slice_len (hm.ow_rep 1 rfl)
   refine gI st_42 bD (idx_lt2 aY hL2_1) rfl (gF fo_49_0 rfl ?_)
   obtain ⟨bm,ai,aj,hm⟩ := pin_Block_ hm 1 rfl aY
   refine gY (yl isAgg45 ((hm.holeE_at 4 rfl).cell (j := 0) rfl) rfl) ?_
   obtain ⟨ak,al,rfl,bp⟩ := ro_slice (hm.ow_rep 2 rfl)
   refine gY (yV st_45 rfl) (gB rfl (gE (gsd 34 rfl (λbE=>?_) λbE=>?_)))
   ·refine gct rfl (gSk (gS (gBk (gS ?_))))
    replace hm := (mk_Block_ aJ.jump aJ.on hm 2 1 0 rfl).pk (L' := [ow [.slice ak aJ.phis.length al,ai,nV aJ.jump,nV aJ.on,aj] (aJ : Block_),blk bp1 [nV out.params,nV out.regs,sV aG aH out.blocks.length aE] 44,holeE aG aH out.blocks.length aE (aF.1 : List Block_) (n_).toNat [.slice ak aJ.phis.length al,ai,nV aJ.jump,nV aJ.on,aj],blk aO [nV old.params,nV old.regs,v1] 44,ow [.slice aL aC.length aM] aC,ow [.slice aQ aD.length aP] aD]) [2,3,4,5,6,7] rfl rfl
    replace hm := (hm.shutE (y := (aJ : Block_)) 2 0 (by decide) rfl rfl).pk (L' := [blk bp1 [nV out.params,nV out.regs,sV aG aH out.blocks.length aE] 44,ow [sV aG aH out.blocks.length aE] (aF.1.set (n_).toNat aJ),blk aO [nV old.params,nV old.regs,v1] 44,ow [.slice aL aC.length aM] aC,ow [.slice aQ aD.length aP] aD]) [1,2,3,4,5] rfl rfl
    rw [set_same aY] at hm
    refine gR (gf rfl (λa hf=>e_build0 (α := Int) et_47 hm rfl) ?_)
    rintro bq w hm
    refine gA rfl (gE (gS (gS (gR (gA rfl (gE ?_))))))
    obtain ⟨bF,bG,rfl,br⟩ := ro_slice (hm.ow_rep 0 rfl)
    refine gBk (gNg (λap am a w=>∃ (aZ : Value),St 82 [(1,(pV bp1)),(2,(nV n_)),(3,(nV b_)),(4,(nV rest_)),(5,(pV aO)),(10,(.slice aL aC.length aM)),(11,(.slice aQ aD.length aP)),(12,(nV aF.2)),(13,aZ),(14,(nV ap))] w0 hz [blk bp1 [nV out.params,nV out.regs,sV aG aH out.blocks.length aE] 44,ow [sV aG aH out.blocks.length aE] aF.1,blk aO [nV old.params,nV old.regs,v1] 44,ow [.slice aL aC.length aM] aC,ow [.slice aQ aD.length aP] aD,ow [aZ] am] a w) (λa hf=>⟨.slice bF ([] : List Int).length bG,hf.sb rfl,hm.pk [1,2,3,4,5,0] rfl rfl⟩) ?_ ?_)
    ·repeat clear hm
     rintro _ _ ap am a w ⟨aZ,hf,hm⟩ bs bt bu _
     refine gv hf (gS (gS (gR (gM rfl (gM rfl (gY (yV st_47 rfl) (gB rfl (gE (go _ 41 rfl (decide_eq_true (by omega)) (gct rfl (gSk (gS (gBk (gS (gR (gM rfl (gM rfl (gg λbH bJ aq=>?_))))))))))))))))))
     obtain ⟨ar,au,bv,he⟩ := idx_form (hm.ow_rep 4 rfl) aq
     obtain ⟨rfl,_,rfl⟩ := sl3 he
     refine gI st_47 bJ (idx_lt aq) rfl (gY (yl isAgg3 ((flat_cells (cs := [nV bH]) (hm.ow_rep 4 rfl) aq rfl).cell (j := 0) rfl) rfl) (gA rfl (gE (gS (gS (gR (gM rfl (gM rfl (gB rfl (gE (gJ hm (λac=>[(1,(pV bp1)),(2,(nV n_)),(3,(nV b_)),(4,(nV rest_)),(5,(pV aO)),(10,(.slice aL aC.length aM)),(11,(sV ar au aD.length aP)),(12,(nV aF.2)),(13,aZ),(14,(nV ap)),(15,(nV ac))]) (λac=>[blk bp1 [nV out.params,nV out.regs,sV aG aH out.blocks.length aE] 44,ow [sV aG aH out.blocks.length aE] aF.1,blk aO [nV old.params,nV old.regs,v1] 44,ow [.slice aL aC.length aM] aC,ow [sV ar au aD.length aP] aD,ow [aZ] am]) (λac=>?_) ?_)))))))))))
     ·refine gsd 50 rfl (fun bK => ?_) fun bK => ?_
      ·exact gct rfl (gR (gM rfl (gA rfl (gE (gz hm [0,1,2,3,4,5] rfl)))))
      exact gcf rfl (gSk (gz hm [0,1,2,3,4,5] rfl))
     repeat clear hm
     intro ac w hm
     refine gW (.p 0 (.p 1 (.p 3 (.p 7 (.p 11 (.p 12 (.q 2 (.p 4 (.p 5 (.q 6 (.p 8 (.p 9 (.q 10 (.e 13 (.p 14 (.e 15 (.e 16 (.e 17 (.p 18 .fin) .nil) .nil) .nil)) .nil)))))))))))))) [13] [0,1,3,4,5,7,8,9,11,12,14,18] hm [0,1,2,3,4,5] [blk bp1 [nV out.params,nV out.regs,sV aG aH out.blocks.length aE] 44,ow [sV aG aH out.blocks.length aE] aF.1,blk aO [nV old.params,nV old.regs,v1] 44,ow [.slice aL aC.length aM] aC,ow [sV ar au aD.length aP] aD,ow [aZ] am] rfl mxo (by kernel_rfl) (λ_ _ _ h=>h.2) λw hm hS=>tP rfl (λw=>yM rfl) (tP rfl (λw=>yF fo_44_2 rfl) (tP rfl (λw=>yM rfl) (tP rfl (λw=>yM rfl) (tP rfl (λw=>yM rfl) (tP rfl (λw=>yM rfl) (tQ rfl hS (λw hm=>yL hm 2 isAgg42 rfl) (gg λbx bL av=>?_)))))))
     obtain ⟨bz,cA,cB,he⟩ := idx_form' h1 av
     subst he
     obtain ⟨cC,cD,cE,bM,ay,cF,cG⟩ := rk_Block_ h1 av
     refine tP rfl (λw=>yI st_42 bL (idx_lt av) rfl) (tP rfl (λw=>yF fo_49_0 rfl) (tQ rfl hS (λw hm=>yl isAgg45 ((bM.mono hm.lez).cell (j := 0) rfl) rfl) (gg λcH bN aw=>?_)))
     obtain ⟨cI,cJ,cK,he⟩ := idx_form' ay aw
     subst he
     obtain ⟨cL,bO,az⟩ := rk_Phi_ ay aw
     refine tP rfl (λw=>yI st_45 bN (idx_lt aw) rfl) (tP rfl (λw=>yF fo_105_1 rfl) (tQ rfl hS (λw hm=>yl isAgg47 ((bO.mono hm.lez).cell (j := 1) rfl) rfl) (tO (gb λcM bP=>tf rfl rfl (λa hf=>e_call hf rfl call84 rfl (spec_l10At_ok _ aC (.slice aL aC.length aM) (hm.ow_rep 3 rfl) ac _ bP)) ?_))))
     rintro cN w ⟨rfl,hB⟩
     replace hm := hm.below' hB; clear hB
     refine tAk hm [0,1,2,3,4,5] rfl λhS=>gg λan bQ ax=>?_
     obtain ⟨cO,cP,cQ,he⟩ := idx_form az ax
     subst he
     refine tP rfl (λw=>yI st_47 bQ (idx_lt ax) rfl) (tO (tY rfl (yl isAgg3 ((flat_cells (cs := [nV an]) (hm.now az) ax rfl).cell (j := 0) rfl) rfl) (tAn rfl (tO (tf rfl rfl (λa hf=>e_build (vs := #[(0,(nV an))]) (cs := [nV an]) et_47 hf hm rfl rfl (by kernel_rfl) rfl rfl) ?_)))))
     rintro _ w ⟨cR,rfl,hm⟩
     replace hm := hm.lit (xs := ([an] : List Int)) 0 rfl rfl rfl rfl
     refine tAn rfl (tO (gb λcS bR=>?_))
     obtain ⟨bS,bT⟩ := appM_some.1 bR
     refine tf rfl rfl (λa hf=>e_append 6 et_47 hf hm rfl (hm.ow_rep 0 rfl) rfl rfl rfl bS) ?_
     rintro bU w hm
     rw [bT] at hm
     exact tAn rfl (tP rfl (λw=>yA rfl) (tE (gR (gM rfl (gP (by omega) (by omega) rfl (gA rfl (gE (gZe λa hf=>⟨bU,hf.sb rfl,hm.pk [1,2,3,4,5,6] rfl rfl⟩))))))))
    repeat clear hm
    rintro cT aR a w ⟨aa,hf,hm⟩ cU cV
    refine gv hf (gS (gS (gR (gM rfl (gM rfl (gY (yV st_47 rfl) (gB rfl (gE (go _ 41 rfl (decide_eq_false (by omega)) (gcf rfl (gXt (gHh (gR (gM rfl (gY (yG rfl (y_nilptr rfl rfl)) (gF fo_44_2 rfl (gL hm 0 isAgg42 rfl (gM rfl (gg λaA bV ao=>?_)))))))))))))))))))
    obtain ⟨cW,cX,cY,cZ,c4,c5,c6⟩ := rk_Block_ (hm.ow_rep 1 rfl) ao
    have hL2_2 := rep_slice_len (hm.ow_rep 1 rfl)
    refine gI st_42 bV (idx_lt2 ao hL2_2) rfl (gF fo_49_0 rfl ?_)
    obtain ⟨c7,aS,aT,hm⟩ := pin_Block_ hm 1 rfl ao
    refine gY (yl isAgg45 ((hm.holeE_at 4 rfl).cell (j := 0) rfl) rfl) (gM rfl (gM rfl (gg λaN bW ae=>?_)))
    obtain ⟨aV,aW,aX,he⟩ := idx_form' (hm.ow_rep 2 rfl) ae
    subst he
    obtain ⟨c8,c9,ca⟩ := rk_Phi_ (hm.ow_rep 2 rfl) ae
    refine gI st_45 bW (idx_lt ae) rfl (gF fo_105_1 rfl ?_)
    obtain ⟨af,hm⟩ := pin_Phi_ hm 2 rfl ae
    have bA : ∀ u ∈ ([aa] : List Value),u.oneCell' = true := (one_cons (rep_one (hm.ow_rep 9 rfl)) one_nil)
    refine gf0 rfl (λa hf=>e_storeH (j := 1) (vs := [aa]) 3 hf hm rfl rfl rfl sizeOf47 rfl rfl (cells_one (bA _ (List.mem_singleton.2 rfl))) bA rfl) ?_
    rintro _ w hm
    replace hm : Mem w0 hz _ [ow [af] aN.args,ow [aT] aA.next_,ow [aS] aA.ins,holeE aV aW aA.phis.length aX (aA.phis : List Phi_) (aF.2).toNat [nV aN.to,aa],blk bp1 [nV out.params,nV out.regs,sV aG aH out.blocks.length aE] 44,holeE aG aH out.blocks.length aE (aF.1 : List Block_) (n_).toNat [sV aV aW aA.phis.length aX,aS,nV aA.jump,nV aA.on,aT],blk aO [nV old.params,nV old.regs,v1] 44,ow [.slice aL aC.length aM] aC,ow [.slice aQ aD.length aP] aD,ow [aa] aR] := hm
    refine gE ?_
    replace hm : Mem w0 hz _ [ow [af] aN.args,ow [aT] aA.next_,ow [aS] aA.ins,holeE aV aW aA.phis.length aX (aA.phis : List Phi_) (aF.2).toNat [nV aN.to,aa],blk bp1 [nV out.params,nV out.regs,sV aG aH out.blocks.length aE] 44,holeE aG aH out.blocks.length aE (aF.1 : List Block_) (n_).toNat [sV aV aW aA.phis.length aX,aS,nV aA.jump,nV aA.on,aT],blk aO [nV old.params,nV old.regs,v1] 44,ow [.slice aL aC.length aM] aC,ow [.slice aQ aD.length aP] aD,ow [nV aN.to,aa] ((⟨aN.to,aR⟩ : Phi_) : Phi_)] := mk_Phi_ aN.to hm 9 rfl
    replace hm := (hm.shutE (y := ((⟨aN.to,aR⟩ : Phi_) : Phi_)) 3 9 (by decide) rfl rfl).pk (L' := [ow [af] aN.args,ow [aT] aA.next_,ow [aS] aA.ins,ow [sV aV aW aA.phis.length aX] (aA.phis.set (aF.2).toNat (⟨aN.to,aR⟩ : Phi_)),blk bp1 [nV out.params,nV out.regs,sV aG aH out.blocks.length aE] 44,holeE aG aH out.blocks.length aE (aF.1 : List Block_) (n_).toNat [sV aV aW aA.phis.length aX,aS,nV aA.jump,nV aA.on,aT],blk aO [nV old.params,nV old.regs,v1] 44,ow [.slice aL aC.length aM] aC,ow [.slice aQ aD.length aP] aD]) [0,1,2,3,4,5,6,7,8] rfl rfl
    have cb := List.getElem?_set_self (a := ((⟨aN.to,aR⟩ : Phi_) : Phi_)) (idx_lt ae)
    replace hm := (mk_Block_ aA.jump aA.on hm 3 2 1 rfl).pk (L' := [ow [af] aN.args,ow [sV aV aW aA.phis.length aX,aS,nV aA.jump,nV aA.on,aT] ((⟨(aA.phis.set (aF.2).toNat (⟨aN.to,aR⟩ : Phi_)),aA.ins,aA.jump,aA.on,aA.next_⟩ : Block_) : Block_),blk bp1 [nV out.params,nV out.regs,sV aG aH out.blocks.length aE] 44,holeE aG aH out.blocks.length aE (aF.1 : List Block_) (n_).toNat [sV aV aW aA.phis.length aX,aS,nV aA.jump,nV aA.on,aT],blk aO [nV old.params,nV old.regs,v1] 44,ow [.slice aL aC.length aM] aC,ow [.slice aQ aD.length aP] aD]) [0,3,4,5,6,7,8] rfl rfl
    replace hm := (hm.shutE (y := ((⟨(aA.phis.set (aF.2).toNat (⟨aN.to,aR⟩ : Phi_)),aA.ins,aA.jump,aA.on,aA.next_⟩ : Block_) : Block_)) 3 1 (by decide) rfl rfl).pk (L' := [ow [af] aN.args,blk bp1 [nV out.params,nV out.regs,sV aG aH out.blocks.length aE] 44,ow [sV aG aH out.blocks.length aE] (aF.1.set (n_).toNat (⟨(aA.phis.set (aF.2).toNat (⟨aN.to,aR⟩ : Phi_)),aA.ins,aA.jump,aA.on,aA.next_⟩ : Block_)),blk aO [nV old.params,nV old.regs,v1] 44,ow [.slice aL aC.length aM] aC,ow [.slice aQ aD.length aP] aD]) [0,2,3,4,5,6] rfl rfl
    have cd := List.getElem?_set_self (a := ((⟨(aA.phis.set (aF.2).toNat (⟨aN.to,aR⟩ : Phi_)),aA.ins,aA.jump,aA.on,aA.next_⟩ : Block_) : Block_)) (idx_lt ao)
    exact gR (gM rfl (gB rfl (gA rfl (gE (gze hm [1,2,3,4,5] rfl)))))
   refine gcf rfl (gXt (gHh ?_))
   replace hm := (mk_Block_ aJ.jump aJ.on hm 2 1 0 rfl).pk (L' := [ow [.slice ak aJ.phis.length al,ai,nV aJ.jump,nV aJ.on,aj] (aJ : Block_),blk bp1 [nV out.params,nV out.regs,sV aG aH out.blocks.length aE] 44,holeE aG aH out.blocks.length aE (aF.1 : List Block_) (n_).toNat [.slice ak aJ.phis.length al,ai,nV aJ.jump,nV aJ.on,aj],blk aO [nV old.params,nV old.regs,v1] 44,ow [.slice aL aC.length aM] aC,ow [.slice aQ aD.length aP] aD]) [2,3,4,5,6,7] rfl rfl
   replace hm := (hm.shutE (y := (aJ : Block_)) 2 0 (by decide) rfl rfl).pk (L' := [blk bp1 [nV out.params,nV out.regs,sV aG aH out.blocks.length aE] 44,ow [sV aG aH out.blocks.length aE] (aF.1.set (n_).toNat aJ),blk aO [nV old.params,nV old.regs,v1] 44,ow [.slice aL aC.length aM] aC,ow [.slice aQ aD.length aP] aD]) [1,2,3,4,5] rfl rfl
   rw [set_same aY] at hm
   exact gLp bC bB (gz hm [0,1] rfl)
  repeat clear hm
  intro ah w hm
  exact gre results48 ⟨.slice ab out.blocks.length aE,rfl,hm.pk [0,1] rfl rfl⟩
end Go.Proofs.YthikiocjbepfnaaGreat
