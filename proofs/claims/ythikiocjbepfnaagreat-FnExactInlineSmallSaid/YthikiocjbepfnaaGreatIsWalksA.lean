/- A part of the proof of FnExactInlineSmallSaid. -/
import Derived.Test.YthikiocjbepfnaaGreatIsModels
import Derived.Test.YthikiocjbepfnaaGreatChecked
import Derived.Test.YthikiocjbepfnaaGreatIsLays
import Derived.Test.YthikiocjbepfnaaGreatWkAd
namespace Go.Proofs.YthikiocjbepfnaaGreat
open Go Go.Wk Go.RowKit
set_option maxRecDepth 4000
set_option maxHeartbeats 4000000
open Tryz
theorem mxo:Tryz.prog.follows .mixedOrders=true:=by kernel_rfl
theorem fo_24_0:FieldOff Tryz.prog 24 0 0:=by have h:=FieldOff.mk (k:=0) underlying24 rfl sizeOf22;exact h
theorem fo_28_0:FieldOff Tryz.prog 28 0 0:=by have h:=FieldOff.mk (k:=0) underlying28 rfl sizeOf26;exact h
theorem fo_44_0:FieldOff Tryz.prog 44 0 0:=by have h:=FieldOff.mk (k:=0) underlying44 rfl sizeOf3;exact h
theorem fo_44_1:FieldOff Tryz.prog 44 1 1:=by have h:=FieldOff.mk (k:=1) underlying44 rfl sizeOf3;exact h
theorem fo_44_2:FieldOff Tryz.prog 44 2 2:=by have h:=FieldOff.mk (k:=2) underlying44 rfl sizeOf42;exact h
theorem fo_49_0:FieldOff Tryz.prog 49 0 0:=by have h:=FieldOff.mk (k:=0) underlying49 rfl sizeOf45;exact h
theorem fo_49_1:FieldOff Tryz.prog 49 1 1:=by have h:=FieldOff.mk (k:=1) underlying49 rfl sizeOf46;exact h
theorem fo_49_2:FieldOff Tryz.prog 49 2 2:=by have h:=FieldOff.mk (k:=2) underlying49 rfl sizeOf3;exact h
theorem fo_49_3:FieldOff Tryz.prog 49 3 3:=by have h:=FieldOff.mk (k:=3) underlying49 rfl sizeOf3;exact h
theorem fo_49_4:FieldOff Tryz.prog 49 4 4:=by have h:=FieldOff.mk (k:=4) underlying49 rfl sizeOf47;exact h
theorem fo_51_0:FieldOff Tryz.prog 51 0 0:=by have h:=FieldOff.mk (k:=0) underlying51 rfl sizeOf3;exact h
theorem fo_51_1:FieldOff Tryz.prog 51 1 1:=by have h:=FieldOff.mk (k:=1) underlying51 rfl sizeOf3;exact h
theorem fo_51_2:FieldOff Tryz.prog 51 2 2:=by have h:=FieldOff.mk (k:=2) underlying51 rfl sizeOf47;exact h
theorem fo_51_3:FieldOff Tryz.prog 51 3 3:=by have h:=FieldOff.mk (k:=3) underlying51 rfl sizeOf3;exact h
theorem fo_71_0:FieldOff Tryz.prog 71 0 0:=by have h:=FieldOff.mk (k:=0) underlying71 rfl sizeOf3;exact h
theorem fo_71_1:FieldOff Tryz.prog 71 1 1:=by have h:=FieldOff.mk (k:=1) underlying71 rfl sizeOf3;exact h
theorem fo_71_2:FieldOff Tryz.prog 71 2 2:=by have h:=FieldOff.mk (k:=2) underlying71 rfl sizeOf69;exact h
theorem fo_76_0:FieldOff Tryz.prog 76 0 0:=by have h:=FieldOff.mk (k:=0) underlying76 rfl sizeOf74;exact h
theorem fo_76_1:FieldOff Tryz.prog 76 1 1:=by have h:=FieldOff.mk (k:=1) underlying76 rfl sizeOf74;exact h
theorem fo_91_0:FieldOff Tryz.prog 91 0 0:=by have h:=FieldOff.mk (k:=0) underlying91 rfl sizeOf44;exact h
theorem fo_91_1:FieldOff Tryz.prog 91 1 3:=by have h:=FieldOff.mk (k:=1) underlying91 rfl sizeOf89;exact h
theorem fo_91_2:FieldOff Tryz.prog 91 2 4:=by have h:=FieldOff.mk (k:=2) underlying91 rfl sizeOf59;exact h
theorem fo_105_0:FieldOff Tryz.prog 105 0 0:=by have h:=FieldOff.mk (k:=0) underlying105 rfl sizeOf3;exact h
theorem fo_105_1:FieldOff Tryz.prog 105 1 1:=by have h:=FieldOff.mk (k:=1) underlying105 rfl sizeOf47;exact h
theorem fo_158_0:FieldOff Tryz.prog 158 0 0:=by have h:=FieldOff.mk (k:=0) underlying158 rfl sizeOf155;exact h
theorem fo_158_1:FieldOff Tryz.prog 158 1 1:=by have h:=FieldOff.mk (k:=1) underlying158 rfl sizeOf156;exact h
theorem fo_158_2:FieldOff Tryz.prog 158 2 2:=by have h:=FieldOff.mk (k:=2) underlying158 rfl sizeOf3;exact h
theorem fo_158_3:FieldOff Tryz.prog 158 3 3:=by have h:=FieldOff.mk (k:=3) underlying158 rfl sizeOf3;exact h
theorem fo_158_4:FieldOff Tryz.prog 158 4 4:=by have h:=FieldOff.mk (k:=4) underlying158 rfl sizeOf47;exact h
theorem fo_240_0:FieldOff Tryz.prog 240 0 0:=by have h:=FieldOff.mk (k:=0) underlying240 rfl sizeOf3;exact h
theorem fo_240_1:FieldOff Tryz.prog 240 1 1:=by have h:=FieldOff.mk (k:=1) underlying240 rfl sizeOf47;exact h
theorem fo_242_0:FieldOff Tryz.prog 242 0 0:=by have h:=FieldOff.mk (k:=0) underlying242 rfl sizeOf3;exact h
theorem fo_242_1:FieldOff Tryz.prog 242 1 1:=by have h:=FieldOff.mk (k:=1) underlying242 rfl sizeOf3;exact h
theorem fo_242_2:FieldOff Tryz.prog 242 2 2:=by have h:=FieldOff.mk (k:=2) underlying242 rfl sizeOf47;exact h
theorem fo_242_3:FieldOff Tryz.prog 242 3 3:=by have h:=FieldOff.mk (k:=3) underlying242 rfl sizeOf3;exact h
theorem st_22:SliceTy Tryz.prog 22 71 3:=⟨underlying22,sizeOf71⟩
theorem st_26:SliceTy Tryz.prog 26 44 3:=⟨underlying26,sizeOf44⟩
theorem st_42:SliceTy Tryz.prog 42 49 5:=⟨underlying42,sizeOf49⟩
theorem st_45:SliceTy Tryz.prog 45 105 2:=⟨underlying45,sizeOf105⟩
theorem st_46:SliceTy Tryz.prog 46 51 4:=⟨underlying46,sizeOf51⟩
theorem st_47:SliceTy Tryz.prog 47 3 1:=⟨underlying47,sizeOf3⟩
theorem st_59:SliceTy Tryz.prog 59 47 1:=⟨underlying59,sizeOf47⟩
theorem st_69:SliceTy Tryz.prog 69 158 5:=⟨underlying69,sizeOf158⟩
theorem st_73:SliceTy Tryz.prog 73 4 1:=⟨underlying73,sizeOf4⟩
theorem st_74:SliceTy Tryz.prog 74 73 1:=⟨underlying74,sizeOf73⟩
theorem st_82:SliceTy Tryz.prog 82 99 1:=⟨underlying82,sizeOf99⟩
theorem st_89:SliceTy Tryz.prog 89 88 1:=⟨underlying89,sizeOf88⟩
theorem st_99:SliceTy Tryz.prog 99 100 1:=⟨underlying99,sizeOf100⟩
theorem st_155:SliceTy Tryz.prog 155 240 2:=⟨underlying155,sizeOf240⟩
theorem st_156:SliceTy Tryz.prog 156 242 4:=⟨underlying156,sizeOf242⟩
theorem et_26:ElemTy Tryz.prog 26 44 3 (.agg #[(.int .i64 (0)),(.int .i64 (0)),.slice none 0 0]):=⟨underlying26,⟨_,(by kernel_rfl:Tryz.prog.info? 44=some t44),rfl,by decide,rfl⟩,rfl,by decide⟩
theorem et_42:ElemTy Tryz.prog 42 49 5 (.agg #[.slice none 0 0,.slice none 0 0,(.int .i64 (0)),(.int .i64 (0)),.slice none 0 0]):=⟨underlying42,⟨_,(by kernel_rfl:Tryz.prog.info? 49=some t49),rfl,by decide,rfl⟩,rfl,by decide⟩
theorem et_45:ElemTy Tryz.prog 45 105 2 (.agg #[(.int .i64 (0)),.slice none 0 0]):=⟨underlying45,⟨_,(by kernel_rfl:Tryz.prog.info? 105=some t105),rfl,by decide,rfl⟩,rfl,by decide⟩
theorem et_46:ElemTy Tryz.prog 46 51 4 (.agg #[(.int .i64 (0)),(.int .i64 (0)),.slice none 0 0,(.int .i64 (0))]):=⟨underlying46,⟨_,(by kernel_rfl:Tryz.prog.info? 51=some t51),rfl,by decide,rfl⟩,rfl,by decide⟩
theorem et_47:ElemTy Tryz.prog 47 3 1 (.int .i64 (0)):=⟨underlying47,⟨_,(by kernel_rfl:Tryz.prog.info? 3=some t3),rfl,by decide,rfl⟩,rfl,by decide⟩
theorem et_59:ElemTy Tryz.prog 59 47 1 (.slice none 0 0):=⟨underlying59,⟨_,(by kernel_rfl:Tryz.prog.info? 47=some t47),rfl,by decide,rfl⟩,rfl,by decide⟩
theorem et_73:ElemTy Tryz.prog 73 4 1 (.bool (false)):=⟨underlying73,⟨_,(by kernel_rfl:Tryz.prog.info? 4=some t4),rfl,by decide,rfl⟩,rfl,by decide⟩
theorem et_74:ElemTy Tryz.prog 74 73 1 (.slice none 0 0):=⟨underlying74,⟨_,(by kernel_rfl:Tryz.prog.info? 73=some t73),rfl,by decide,rfl⟩,rfl,by decide⟩
theorem et_82:ElemTy Tryz.prog 82 99 1 (.slice none 0 0):=⟨underlying82,⟨_,(by kernel_rfl:Tryz.prog.info? 99=some t99),rfl,by decide,rfl⟩,rfl,by decide⟩
theorem et_89:ElemTy Tryz.prog 89 88 1 (.map none):=⟨underlying89,⟨_,(by kernel_rfl:Tryz.prog.info? 88=some t88),rfl,by decide,rfl⟩,rfl,by decide⟩
theorem et_99:ElemTy Tryz.prog 99 100 1 (.map none):=⟨underlying99,⟨_,(by kernel_rfl:Tryz.prog.info? 100=some t100),rfl,by decide,rfl⟩,rfl,by decide⟩
theorem laws_szIntS_ok (w0 : World) (a_ : List Int) (v1 : Value) (h1 : GT.rep (hp w0) [v1] a_) (left : Int) :
    ConM Tryz.prog 198 [v1,nV left] w0 (laws_szIntS a_ left) λr v w'=>v=(nV r)∧Below w0.heap.size w0 w':=by
  unfold laws_szIntS
  refine gcon func198 rfl λr=>?_
  have hm:=Mem.start w0
  refine gS (gR (gA rfl (gE (gS (gR (gM rfl (gM rfl ?_)))))))
  obtain ⟨aB,aC,rfl,aD⟩:=ro_slice h1
  refine gY (yV st_47 rfl) (gB rfl (gA rfl (gE (gS (gS (gR (gM rfl (gB rfl (gE (gsd 10 rfl (λaA=>?_) λaA=>?_))))))))))
  ·exact gct rfl (gS (gR (gA rfl (gE (gRt (gr1 results198 rfl ⟨rfl,hm.below⟩))))))
  exact gcf rfl (gSk (gS (gR (gM rfl (gA rfl (gE (gRt (gr1 results198 rfl ⟨rfl,hm.below⟩))))))))
theorem laws_szPhi_ok (w0 : World) (a_ : Phi_) (v1 : Value) (h1 : GT.rep (hp w0) [v1] a_.args) (left : Int) :
    ConM Tryz.prog 233 [(.agg #[nV a_.to,v1]),nV left] w0 (laws_szPhi a_ left) λr v w'=>v=(nV r)∧Below w0.heap.size w0 w':=by
  unfold laws_szPhi
  refine gcon func233 rfl λr=>?_
  have hm:=Mem.start w0
  refine gS (gR (gBx hm rfl λaB w hm=>gA rfl (gE (gS (gR (gF fo_240_1 rfl (gL hm 0 isAgg47 rfl (gM rfl (gC hm rfl call198 (laws_szIntS_ok _ a_.args v1 (hm.now h1) left) λaC aD w hm=>gA rfl (gE (gS (gS (gR (gM rfl (gB rfl (gE (gsd 10 rfl (λaA=>?_) λaA=>?_)))))))))))))))))
  ·exact gct rfl (gS (gR (gA rfl (gE (gRt (gr1 results233 rfl ⟨rfl,hm.below⟩))))))
  exact gcf rfl (gSk (gS (gR (gM rfl (gA rfl (gE (gRt (gr1 results233 rfl ⟨rfl,hm.below⟩))))))))
theorem laws_szPhiS_ok (w0 : World) (a_ : List Phi_) (v1 : Value) (h1 : GT.rep (hp w0) [v1] a_) (left : Int) :
    ConM Tryz.prog 196 [v1,nV left] w0 (laws_szPhiS a_ left) λr v w'=>v=(nV r)∧Below w0.heap.size w0 w':=by
  unfold laws_szPhiS
  refine gcon func196 rfl λr=>?_
  have hm:=Mem.start w0
  refine gS (gR (gA rfl (gE (gS (gR (gM rfl (gM rfl ?_)))))))
  obtain ⟨aD,aE,rfl,aO⟩:=ro_slice h1
  refine gY (yV st_155 rfl) (gB rfl (gA rfl (gE (gS (gS (gR (gM rfl (gB rfl (gE (gsd 11 rfl (λaF=>?_) λaF=>?_))))))))))
  ·exact gct rfl (gS (gR (gA rfl (gE (gRt (gr1 results196 rfl ⟨rfl,hm.below⟩))))))
  refine gcf rfl (gSk (gS (gS (gR (gA rfl (gE (gBk (gNg (λaC aA a w=>0≤aA∧St 27 [(0,(.slice aD a_.length aE)),(1,(nV aA)),(5,(nV aC))] w0 (hp w0) [] a w) (λa hf=>⟨(by first | omega | (dsimp only;omega)),hf.sb rfl,hm.pk [] rfl rfl⟩) ?_ ?_))))))))
  ·repeat clear hm
   rintro aP aG aC aA a w ⟨aQ,hf,hm⟩ aR aS aT aH
   refine gv hf (gS (gS (gR (gM rfl (gM rfl (gY (yV st_155 rfl) (gB rfl (gE (go _ 15 rfl (decide_eq_true (by omega)) (gct rfl (gSk (gS (gBk (gS (gR (gM rfl (gM rfl (gg λaI aJ aB=>?_))))))))))))))))))
   obtain ⟨aV,aW,aX,he⟩:=idx_form' h1 aB
   obtain ⟨rfl,_,rfl⟩:=sl3 he
   obtain ⟨aK,aL,aM⟩:=rk_Phi_ h1 aB
   refine gI st_155 aJ (idx_lt aB) rfl (gY (yn (aL.mono hm.lez) isAgg240 sizeOf240 rfl) (gM rfl (gC hm rfl call233 (laws_szPhi_ok _ aI aK (hm.now aM) aA) λaY aZ w hm=>gA rfl (gE (gS (gR (gM rfl (gB rfl (gE (gsd 25 rfl (λaN=>?_) λaN=>?_))))))))))
   ·exact gct rfl (gS (gR (gA rfl (gE (gRt (gLr aH aG (gr1 results196 rfl ⟨rfl,hm.below⟩)))))))
   exact gcf rfl (gSk (gR (gM rfl (gP (by omega) (by omega) rfl (gA rfl (gE (gZe λa hf=>⟨(by first | omega | (dsimp only;omega)),hf.sb rfl,hm.pk [] rfl rfl⟩)))))))
  repeat clear hm
  rintro aa ab a w ⟨ac,hf,hm⟩ ae af
  exact gv hf (gS (gS (gR (gM rfl (gM rfl (gY (yV st_155 rfl) (gB rfl (gE (go _ 15 rfl (decide_eq_false (by omega)) (gcf rfl (gXt (gHh (gS (gR (gM rfl (gA rfl (gE (gRt (gr1 results196 rfl ⟨rfl,hm.below⟩)))))))))))))))))))
theorem laws_szIns_ok (w0 : World) (a_ : Ins_) (v1 : Value) (h1 : GT.rep (hp w0) [v1] a_.args) (left : Int) :
    ConM Tryz.prog 234 [(.agg #[nV a_.op,nV a_.to,v1,nV a_.n_]),nV left] w0 (laws_szIns a_ left) λr v w'=>v=(nV r)∧Below w0.heap.size w0 w':=by
  unfold laws_szIns
  refine gcon func234 rfl λr=>?_
  have hm:=Mem.start w0
  refine gS (gR (gBx hm rfl λaB w hm=>gA rfl (gE (gS (gR (gF fo_242_2 rfl (gL hm 0 isAgg47 rfl (gM rfl (gC hm rfl call198 (laws_szIntS_ok _ a_.args v1 (hm.now h1) left) λaC aD w hm=>gA rfl (gE (gS (gS (gR (gM rfl (gB rfl (gE (gsd 10 rfl (λaA=>?_) λaA=>?_)))))))))))))))))
  ·exact gct rfl (gS (gR (gA rfl (gE (gRt (gr1 results234 rfl ⟨rfl,hm.below⟩))))))
  exact gcf rfl (gSk (gS (gR (gM rfl (gA rfl (gE (gRt (gr1 results234 rfl ⟨rfl,hm.below⟩))))))))
theorem laws_szInsS_ok (w0 : World) (a_ : List Ins_) (v1 : Value) (h1 : GT.rep (hp w0) [v1] a_) (left : Int) :
    ConM Tryz.prog 197 [v1,nV left] w0 (laws_szInsS a_ left) λr v w'=>v=(nV r)∧Below w0.heap.size w0 w':=by
  unfold laws_szInsS
  refine gcon func197 rfl λr=>?_
  have hm:=Mem.start w0
  refine gS (gR (gA rfl (gE (gS (gR (gM rfl (gM rfl ?_)))))))
  obtain ⟨aD,aE,rfl,aO⟩:=ro_slice h1
  refine gY (yV st_156 rfl) (gB rfl (gA rfl (gE (gS (gS (gR (gM rfl (gB rfl (gE (gsd 11 rfl (λaF=>?_) λaF=>?_))))))))))
  ·exact gct rfl (gS (gR (gA rfl (gE (gRt (gr1 results197 rfl ⟨rfl,hm.below⟩))))))
  refine gcf rfl (gSk (gS (gS (gR (gA rfl (gE (gBk (gNg (λaC aA a w=>0≤aA∧St 27 [(0,(.slice aD a_.length aE)),(1,(nV aA)),(5,(nV aC))] w0 (hp w0) [] a w) (λa hf=>⟨(by first | omega | (dsimp only;omega)),hf.sb rfl,hm.pk [] rfl rfl⟩) ?_ ?_))))))))
  ·repeat clear hm
   rintro aP aG aC aA a w ⟨aQ,hf,hm⟩ aR aS aT aH
   refine gv hf (gS (gS (gR (gM rfl (gM rfl (gY (yV st_156 rfl) (gB rfl (gE (go _ 15 rfl (decide_eq_true (by omega)) (gct rfl (gSk (gS (gBk (gS (gR (gM rfl (gM rfl (gg λaI aJ aB=>?_))))))))))))))))))
   obtain ⟨aV,aW,aX,he⟩:=idx_form' h1 aB
   obtain ⟨rfl,_,rfl⟩:=sl3 he
   obtain ⟨aK,aL,aM⟩:=rk_Ins_ h1 aB
   refine gI st_156 aJ (idx_lt aB) rfl (gY (yn (aL.mono hm.lez) isAgg242 sizeOf242 rfl) (gM rfl (gC hm rfl call234 (laws_szIns_ok _ aI aK (hm.now aM) aA) λaY aZ w hm=>gA rfl (gE (gS (gR (gM rfl (gB rfl (gE (gsd 25 rfl (λaN=>?_) λaN=>?_))))))))))
   ·exact gct rfl (gS (gR (gA rfl (gE (gRt (gLr aH aG (gr1 results197 rfl ⟨rfl,hm.below⟩)))))))
   exact gcf rfl (gSk (gR (gM rfl (gP (by omega) (by omega) rfl (gA rfl (gE (gZe λa hf=>⟨(by first | omega | (dsimp only;omega)),hf.sb rfl,hm.pk [] rfl rfl⟩)))))))
  repeat clear hm
  rintro aa ab a w ⟨ac,hf,hm⟩ ae af
  exact gv hf (gS (gS (gR (gM rfl (gM rfl (gY (yV st_156 rfl) (gB rfl (gE (go _ 15 rfl (decide_eq_false (by omega)) (gcf rfl (gXt (gHh (gS (gR (gM rfl (gA rfl (gE (gRt (gr1 results197 rfl ⟨rfl,hm.below⟩)))))))))))))))))))
theorem laws_szBlock_ok (w0 : World) (a_ : Block_) (v1 : Value) (h1 : GT.rep (hp w0) [v1] a_.phis) (v2 : Value) (h2 : GT.rep (hp w0) [v2] a_.ins) (v3 : Value) (h3 : GT.rep (hp w0) [v3] a_.next_) (left : Int) :
    ConM Tryz.prog 141 [(.agg #[v1,v2,nV a_.jump,nV a_.on,v3]),nV left] w0 (laws_szBlock a_ left) λr v w'=>v=(nV r)∧Below w0.heap.size w0 w':=by
  unfold laws_szBlock
  refine gcon func141 rfl λr=>?_
  have hm:=Mem.start w0
  refine gS (gR (gBx hm rfl λaF w hm=>gA rfl (gE (gS (gR (gF fo_158_0 rfl (gL hm 0 isAgg155 rfl (gM rfl (gC hm rfl call196 (laws_szPhiS_ok _ a_.phis v1 (hm.now h1) left) λaA aG w hm=>gA rfl (gE (gS (gS (gR (gM rfl (gB rfl (gE (gsd 10 rfl (λaB=>?_) λaB=>?_)))))))))))))))))
  ·exact gct rfl (gS (gR (gA rfl (gE (gRt (gr1 results141 rfl ⟨rfl,hm.below⟩))))))
  refine gcf rfl (gSk (gS (gR (gF fo_158_1 rfl (gL hm 0 isAgg156 rfl (gM rfl (gC hm rfl call197 (laws_szInsS_ok _ a_.ins v2 (hm.now h2) aA) λaC aH w hm=>gA rfl (gE (gS (gS (gR (gM rfl (gB rfl (gE (gsd 16 rfl (λaD=>?_) λaD=>?_)))))))))))))))
  ·exact gct rfl (gS (gR (gA rfl (gE (gRt (gr1 results141 rfl ⟨rfl,hm.below⟩))))))
  refine gcf rfl (gSk (gS (gR (gF fo_158_4 rfl (gL hm 0 isAgg47 rfl (gM rfl (gC hm rfl call198 (laws_szIntS_ok _ a_.next_ v3 (hm.now h3) aC) λaI aJ w hm=>gA rfl (gE (gS (gS (gR (gM rfl (gB rfl (gE (gsd 22 rfl (λaE=>?_) λaE=>?_)))))))))))))))
  ·exact gct rfl (gS (gR (gA rfl (gE (gRt (gr1 results141 rfl ⟨rfl,hm.below⟩))))))
  exact gcf rfl (gSk (gS (gR (gM rfl (gA rfl (gE (gRt (gr1 results141 rfl ⟨rfl,hm.below⟩))))))))
theorem laws_szBlockS_ok (w0 : World) (a_ : List Block_) (v1 : Value) (h1 : GT.rep (hp w0) [v1] a_) (left : Int) :
    ConM Tryz.prog 78 [v1,nV left] w0 (laws_szBlockS a_ left) λr v w'=>v=(nV r)∧Below w0.heap.size w0 w':=by
  unfold laws_szBlockS
  refine gcon func78 rfl λr=>?_
  have hm:=Mem.start w0
  refine gS (gR (gA rfl (gE (gS (gR (gM rfl (gM rfl ?_)))))))
  obtain ⟨aD,aE,rfl,aS⟩:=ro_slice h1
  refine gY (yV st_69 rfl) (gB rfl (gA rfl (gE (gS (gS (gR (gM rfl (gB rfl (gE (gsd 11 rfl (λaF=>?_) λaF=>?_))))))))))
  ·exact gct rfl (gS (gR (gA rfl (gE (gRt (gr1 results78 rfl ⟨rfl,hm.below⟩))))))
  refine gcf rfl (gSk (gS (gS (gR (gA rfl (gE (gBk (gNg (λaC aA a w=>0≤aA∧St 27 [(0,(.slice aD a_.length aE)),(1,(nV aA)),(5,(nV aC))] w0 (hp w0) [] a w) (λa hf=>⟨(by first | omega | (dsimp only;omega)),hf.sb rfl,hm.pk [] rfl rfl⟩) ?_ ?_))))))))
  ·repeat clear hm
   rintro aT aG aC aA a w ⟨aV,hf,hm⟩ aW aX aY aH
   refine gv hf (gS (gS (gR (gM rfl (gM rfl (gY (yV st_69 rfl) (gB rfl (gE (go _ 15 rfl (decide_eq_true (by omega)) (gct rfl (gSk (gS (gBk (gS (gR (gM rfl (gM rfl (gg λaI aJ aB=>?_))))))))))))))))))
   obtain ⟨aZ,aa,ab,he⟩:=idx_form' h1 aB
   obtain ⟨rfl,_,rfl⟩:=sl3 he
   obtain ⟨aK,aL,aM,aN,aO,aP,aQ⟩:=rk_Block_ h1 aB
   refine gI st_69 aJ (idx_lt aB) rfl (gY (yn (aN.mono hm.lez) isAgg158 sizeOf158 rfl) (gM rfl (gC hm rfl call141 (laws_szBlock_ok _ aI aK (hm.now aO) aL (hm.now aP) aM (hm.now aQ) aA) λac ae w hm=>gA rfl (gE (gS (gR (gM rfl (gB rfl (gE (gsd 25 rfl (λaR=>?_) λaR=>?_))))))))))
   ·exact gct rfl (gS (gR (gA rfl (gE (gRt (gLr aH aG (gr1 results78 rfl ⟨rfl,hm.below⟩)))))))
   exact gcf rfl (gSk (gR (gM rfl (gP (by omega) (by omega) rfl (gA rfl (gE (gZe λa hf=>⟨(by first | omega | (dsimp only;omega)),hf.sb rfl,hm.pk [] rfl rfl⟩)))))))
  repeat clear hm
  rintro af ah a w ⟨ai,hf,hm⟩ aj ak
  exact gv hf (gS (gS (gR (gM rfl (gM rfl (gY (yV st_69 rfl) (gB rfl (gE (go _ 15 rfl (decide_eq_false (by omega)) (gcf rfl (gXt (gHh (gS (gR (gM rfl (gA rfl (gE (gRt (gr1 results78 rfl ⟨rfl,hm.below⟩)))))))))))))))))))
theorem laws_szCode_ok (w0 : World) (a_ : Code_) (v1 : Value) (h1 : GT.rep (hp w0) [v1] a_.blocks) (left : Int) :
    ConM Tryz.prog 44 [(.agg #[nV a_.params,nV a_.regs,v1]),nV left] w0 (laws_szCode a_ left) λr v w'=>v=(nV r)∧Below w0.heap.size w0 w':=by
  unfold laws_szCode
  refine gcon func44 rfl λr=>?_
  have hm:=Mem.start w0
  refine gS (gR (gBx hm rfl λaB w hm=>gA rfl (gE (gS (gR (gF fo_71_2 rfl (gL hm 0 isAgg69 rfl (gM rfl (gC hm rfl call78 (laws_szBlockS_ok _ a_.blocks v1 (hm.now h1) left) λaC aD w hm=>gA rfl (gE (gS (gS (gR (gM rfl (gB rfl (gE (gsd 10 rfl (λaA=>?_) λaA=>?_)))))))))))))))))
  ·exact gct rfl (gS (gR (gA rfl (gE (gRt (gr1 results44 rfl ⟨rfl,hm.below⟩))))))
  exact gcf rfl (gSk (gS (gR (gM rfl (gA rfl (gE (gRt (gr1 results44 rfl ⟨rfl,hm.below⟩))))))))
theorem laws_szCodeS_ok (w0 : World) (a_ : List Code_) (v1 : Value) (h1 : GT.rep (hp w0) [v1] a_) (left : Int) :
    ConM Tryz.prog 17 [v1,nV left] w0 (laws_szCodeS a_ left) λr v w'=>v=(nV r)∧Below w0.heap.size w0 w':=by
  unfold laws_szCodeS
  refine gcon func17 rfl λr=>?_
  have hm:=Mem.start w0
  refine gS (gR (gA rfl (gE (gS (gR (gM rfl (gM rfl ?_)))))))
  obtain ⟨aD,aE,rfl,aO⟩:=ro_slice h1
  refine gY (yV st_22 rfl) (gB rfl (gA rfl (gE (gS (gS (gR (gM rfl (gB rfl (gE (gsd 11 rfl (λaF=>?_) λaF=>?_))))))))))
  ·exact gct rfl (gS (gR (gA rfl (gE (gRt (gr1 results17 rfl ⟨rfl,hm.below⟩))))))
  refine gcf rfl (gSk (gS (gS (gR (gA rfl (gE (gBk (gNg (λaC aA a w=>0≤aA∧St 27 [(0,(.slice aD a_.length aE)),(1,(nV aA)),(5,(nV aC))] w0 (hp w0) [] a w) (λa hf=>⟨(by first | omega | (dsimp only;omega)),hf.sb rfl,hm.pk [] rfl rfl⟩) ?_ ?_))))))))
  ·repeat clear hm
   rintro aP aG aC aA a w ⟨aQ,hf,hm⟩ aR aS aT aH
   refine gv hf (gS (gS (gR (gM rfl (gM rfl (gY (yV st_22 rfl) (gB rfl (gE (go _ 15 rfl (decide_eq_true (by omega)) (gct rfl (gSk (gS (gBk (gS (gR (gM rfl (gM rfl (gg λaI aJ aB=>?_))))))))))))))))))
   obtain ⟨aV,aW,aX,he⟩:=idx_form' h1 aB
   obtain ⟨rfl,_,rfl⟩:=sl3 he
   obtain ⟨aK,aL,aM⟩:=rk_Code_ h1 aB
   refine gI st_22 aJ (idx_lt aB) rfl (gY (yn (aL.mono hm.lez) isAgg71 sizeOf71 rfl) (gM rfl (gC hm rfl call44 (laws_szCode_ok _ aI aK (hm.now aM) aA) λaY aZ w hm=>gA rfl (gE (gS (gR (gM rfl (gB rfl (gE (gsd 25 rfl (λaN=>?_) λaN=>?_))))))))))
   ·exact gct rfl (gS (gR (gA rfl (gE (gRt (gLr aH aG (gr1 results17 rfl ⟨rfl,hm.below⟩)))))))
   exact gcf rfl (gSk (gR (gM rfl (gP (by omega) (by omega) rfl (gA rfl (gE (gZe λa hf=>⟨(by first | omega | (dsimp only;omega)),hf.sb rfl,hm.pk [] rfl rfl⟩)))))))
  repeat clear hm
  rintro aa ab a w ⟨ac,hf,hm⟩ ae af
  exact gv hf (gS (gS (gR (gM rfl (gM rfl (gY (yV st_22 rfl) (gB rfl (gE (go _ 15 rfl (decide_eq_false (by omega)) (gcf rfl (gXt (gHh (gS (gR (gM rfl (gA rfl (gE (gRt (gr1 results17 rfl ⟨rfl,hm.below⟩)))))))))))))))))))
theorem laws_szUnit_ok (w0 : World) (a_ : Unit_) (v1 : Value) (h1 : GT.rep (hp w0) [v1] a_.codes) (left : Int) :
    ConM Tryz.prog 6 [(.agg #[v1]),nV left] w0 (laws_szUnit a_ left) λr v w'=>v=(nV r)∧Below w0.heap.size w0 w':=by
  unfold laws_szUnit
  refine gcon func6 rfl λr=>?_
  have hm:=Mem.start w0
  refine gS (gR (gBx hm rfl λaB w hm=>gA rfl (gE (gS (gR (gF fo_24_0 rfl (gL hm 0 isAgg22 rfl (gM rfl (gC hm rfl call17 (laws_szCodeS_ok _ a_.codes v1 (hm.now h1) left) λaC aD w hm=>gA rfl (gE (gS (gS (gR (gM rfl (gB rfl (gE (gsd 10 rfl (λaA=>?_) λaA=>?_)))))))))))))))))
  ·exact gct rfl (gS (gR (gA rfl (gE (gRt (gr1 results6 rfl ⟨rfl,hm.below⟩))))))
  exact gcf rfl (gSk (gS (gR (gM rfl (gA rfl (gE (gRt (gr1 results6 rfl ⟨rfl,hm.below⟩))))))))
theorem laws_toIntS_ok (w0 : World) (a_ : List Int) (v1 : Value) (h1 : GT.rep (hp w0) [v1] a_) :
    ConM Tryz.prog 201 [v1] w0 (laws_toIntS a_) λr v w'=>∃ (x1:Value),v=x1∧Mem w0 (hp w0) w' [ow [x1] r]:=by
  unfold laws_toIntS
  refine gcon func201 rfl λr=>?_
  have hm:=Mem.start w0
  refine gS (gR (gA rfl (gE (gS (gR (gM rfl ?_))))))
  obtain ⟨aJ,aK,rfl,aQ⟩:=ro_slice h1
  refine gY (yV st_47 rfl) (gb λaA aL=>?_)
  obtain ⟨⟨aM,aN⟩,aI⟩:=makeM_some.1 aL
  refine gf rfl (λa hf=>e_make (x0:=(0:Int)) et_47 (λ_=>(Flat.own_iff.2 rfl)) hf hm rfl rfl rfl aM (Int.le_refl _) aN) ?_
  rintro aR w hm
  rw [aI] at hm
  have h0_1l:(aA.length:Int)=(a_.length:Int):=by rw [← aI];simp only [List.length_replicate];omega
  refine gA rfl (gE (gS (gS (gR (gA rfl (gE ?_))))))
  obtain ⟨aD,aE,rfl,aS⟩:=ro_slice (hm.ow_rep 0 rfl)
  refine gBk (gNf hm (λaF aG=>[(0,(.slice aJ a_.length aK)),(3,(.slice aD aA.length aE)),(4,(nV aF))]) (λaF aG=>[ow [.slice aD aA.length aE] aG]) [0] rfl ?_ ?_)
  ·repeat clear hm
   intro _ _ aF aG w hm aT aV aW _
   refine gS (gS (gR (gM rfl (gM rfl (gY (yV st_47 rfl) (gB rfl (gE (go _ 11 rfl (decide_eq_true (by omega)) (gct rfl (gSk (gS (gBk (gR (gM rfl (gM rfl (gM rfl (gM rfl (gg λaB aO aH=>?_))))))))))))))))))
   obtain ⟨aX,aY,aZ,he⟩:=idx_form h1 aH
   obtain ⟨rfl,_,rfl⟩:=sl3 he
   refine gI st_47 aO (idx_lt aH) rfl (gY (yl isAgg3 ((flat_cells (cs:=[nV aB]) (hm.now h1) aH rfl).cell (j:=0) rfl) rfl) (gg λaa aP aC=>?_))
   obtain ⟨ab,ac,ae,he⟩:=idx_form (hm.ow_rep 0 rfl) aC
   obtain ⟨rfl,_,rfl⟩:=sl3 he
   have hL1_1:=rep_slice_len (hm.ow_rep 0 rfl)
   refine gI st_47 aP (idx_lt2 aC hL1_1) rfl (gf0 rfl (λa hf=>e_setElem (x1:=aB) (j:=0) (vs:=[nV aB]) 0 hf hm rfl aC rfl sizeOf3 rfl rfl rfl (one_cons rfl one_nil) rfl rfl) ?_)
   rintro _ w hm
   have af:=List.getElem?_set_self (a:=aB) (idx_lt aC)
   exact gE (gR (gM rfl (gP (by omega) (by omega) rfl (gA rfl (gE (gze hm [0] rfl))))))
  repeat clear hm
  intro ah ai w hm aj ak
  exact gS (gS (gR (gM rfl (gM rfl (gY (yV st_47 rfl) (gB rfl (gE (go _ 11 rfl (decide_eq_false (by omega)) (gcf rfl (gXt (gHh (gS (gR (gM rfl (gA rfl (gE (gRt (gr1 results201 rfl ⟨.slice aD aA.length aE,rfl,hm.pk [0] rfl rfl⟩))))))))))))))))))
theorem laws_toPhi_ok (w0 : World) (a_ : Phi_) (v1 : Value) (h1 : GT.rep (hp w0) [v1] a_.args) :
    ConM Tryz.prog 235 [(.agg #[nV a_.to,v1])] w0 (laws_toPhi a_) λr v w'=>∃ (x1:Value),v=(.agg #[nV r.to,x1])∧Mem w0 (hp w0) w' [ow [x1] r.args]:=by
  unfold laws_toPhi
  refine gcon func235 rfl λr=>?_
  have hm:=Mem.start w0
  refine gS (gR (gBx hm rfl λaB w hm=>gAl hm zeroValue105 rfl λaC w hm=>gE (gS (gR (gAl hm zeroValue105 rfl λaD w hm=>gE (gS (gR (gF fo_240_0 rfl (gL hm 2 isAgg3 rfl (gF fo_105_0 rfl (gS1 hm 0 sizeOf3 rfl rfl λw hm=>gE (gS (gR (gF fo_240_1 rfl (gL hm 2 isAgg47 rfl (gCg rfl call201 (laws_toIntS_ok _ a_.args v1 (hm.now h1)) ?_))))))))))))))))
  rintro aE aF aA w ⟨_,rfl,hB⟩
  replace hm:=hm.give hB;clear hB
  exact gF fo_105_1 rfl (gS1 hm 1 sizeOf47 (rep_one (hm.ow_rep 0 rfl)) rfl λw hm=>gE (gS (gR (gY (yn (hm.blk_at 1 rfl) isAgg105 sizeOf105 rfl) (gSN hm 2 sizeOf105 (one_cons rfl (one_cons (rep_one (hm.ow_rep 0 rfl)) one_nil)) rfl λw hm=>gE (gRt (grc 2 results235 hm rfl isAgg105 sizeOf105 ⟨aA,rfl,hm.pk [0] rfl rfl⟩)))))))
theorem laws_toPhiS_ok (w0 : World) (a_ : List Phi_) (v1 : Value) (h1 : GT.rep (hp w0) [v1] a_) :
    ConM Tryz.prog 199 [v1] w0 (laws_toPhiS a_) λr v w'=>∃ (x1:Value),v=x1∧Mem w0 (hp w0) w' [ow [x1] r]:=by
  unfold laws_toPhiS
  refine gcon func199 rfl λr=>?_
  have hm:=Mem.start w0
  refine gS (gR (gA rfl (gE (gS (gR (gM rfl ?_))))))
  obtain ⟨aK,aL,rfl,aY⟩:=ro_slice h1
  refine gY (yV st_155 rfl) (gb λaB aM=>?_)
  obtain ⟨⟨aN,aO⟩,aI⟩:=makeM_some.1 aM
  refine gf rfl (λa hf=>e_make (x0:=((⟨0,[]⟩:Phi_):Phi_)) et_45 (λ_=>⟨[nV 0],[.slice none 0 0],rfl,λ_=>False,λ_=>False,λ_ h=>h.elim,λ_ h=>h.elim,λ_ h=>h.elim,(Flat.own_iff.2 rfl),(own_list.2 (.inl ⟨rfl,rfl⟩))⟩) hf hm rfl rfl rfl aN (Int.le_refl _) aO) ?_
  rintro aZ w hm
  rw [aI] at hm
  have h0_1l:(aB.length:Int)=(a_.length:Int):=by rw [← aI];simp only [List.length_replicate];omega
  refine gA rfl (gE (gS (gS (gR (gA rfl (gE ?_))))))
  obtain ⟨aF,aD,rfl,aa⟩:=ro_slice (hm.ow_rep 0 rfl)
  refine gBk (gNf hm (λaG aE=>[(0,(.slice aK a_.length aL)),(3,(.slice aF aB.length aD)),(4,(nV aG))]) (λaG aE=>[ow [.slice aF aB.length aD] aE]) [0] rfl ?_ ?_)
  ·repeat clear hm
   intro _ _ aG aE w hm ab ac ae _
   refine gS (gS (gR (gM rfl (gM rfl (gY (yV st_155 rfl) (gB rfl (gE (go _ 11 rfl (decide_eq_true (by omega)) (gct rfl (gSk (gS (gBk (gR (gM rfl (gM rfl (gM rfl (gM rfl (gg λaP aQ aH=>?_))))))))))))))))))
   obtain ⟨af,ah,ai,he⟩:=idx_form' h1 aH
   obtain ⟨rfl,_,rfl⟩:=sl3 he
   obtain ⟨aR,aS,aT⟩:=rk_Phi_ h1 aH
   refine gI st_155 aQ (idx_lt aH) rfl (gY (yn (aS.mono hm.lez) isAgg240 sizeOf240 rfl) (gCg rfl call235 (laws_toPhi_ok _ aP aR (hm.now aT)) ?_))
   rintro aA aj ak w ⟨aJ,rfl,hB⟩
   replace hm:=hm.give hB;clear hB
   refine gg λal aV aC=>?_
   obtain ⟨aW,aX,am,he⟩:=idx_form' (hm.ow_rep 1 rfl) aC
   obtain ⟨rfl,_,rfl⟩:=sl3 he
   obtain ⟨an,ao,ap⟩:=rk_Phi_ (hm.ow_rep 1 rfl) aC
   have hL1_1:=rep_slice_len (hm.ow_rep 1 rfl)
   refine gI st_45 aV (idx_lt2 aC hL1_1) rfl ?_
   replace hm:Mem w0 (hp w0) _ [ow [nV aA.to,aJ] (aA:Phi_),ow [sV aW aX aB.length aD] aE]:=mk_Phi_ aA.to hm 0 rfl
   replace hm:=(hm.both 1 0 (by decide) rfl rfl).pk (L':=[_]) [1] rfl rfl
   refine gf0 rfl (λa hf=>e_putElem (x1:=(aA:Phi_)) (vs:=[nV aA.to,aJ]) 0 hf hm rfl aC rfl sizeOf105 rfl rfl rfl rfl) ?_
   rintro _ w hm
   have aq:=List.getElem?_set_self (a:=(aA:Phi_)) (idx_lt aC)
   exact gE (gR (gM rfl (gP (by omega) (by omega) rfl (gA rfl (gE (gze hm [0] rfl))))))
  repeat clear hm
  intro ar au w hm av aw
  exact gS (gS (gR (gM rfl (gM rfl (gY (yV st_155 rfl) (gB rfl (gE (go _ 11 rfl (decide_eq_false (by omega)) (gcf rfl (gXt (gHh (gS (gR (gM rfl (gA rfl (gE (gRt (gr1 results199 rfl ⟨.slice aF aB.length aD,rfl,hm.pk [0] rfl rfl⟩))))))))))))))))))
theorem laws_toIns_ok (w0 : World) (a_ : Ins_) (v1 : Value) (h1 : GT.rep (hp w0) [v1] a_.args) :
    ConM Tryz.prog 236 [(.agg #[nV a_.op,nV a_.to,v1,nV a_.n_])] w0 (laws_toIns a_) λr v w'=>∃ (x1:Value),v=(.agg #[nV r.op,nV r.to,x1,nV r.n_])∧Mem w0 (hp w0) w' [ow [x1] r.args]:=by
  unfold laws_toIns
  refine gcon func236 rfl λr=>?_
  have hm:=Mem.start w0
  refine gS (gR (gBx hm rfl λaB w hm=>gAl hm zeroValue51 rfl λaC w hm=>gE (gS (gR (gAl hm zeroValue51 rfl λaD w hm=>gE (gS (gR (gF fo_242_0 rfl (gL hm 2 isAgg3 rfl (gF fo_51_0 rfl (gS1 hm 0 sizeOf3 rfl rfl λw hm=>gE (gS (gR (gF fo_242_1 rfl (gL hm 2 isAgg3 rfl (gF fo_51_1 rfl (gS1 hm 0 sizeOf3 rfl rfl λw hm=>gE (gS (gR (gF fo_242_2 rfl (gL hm 2 isAgg47 rfl (gCg rfl call201 (laws_toIntS_ok _ a_.args v1 (hm.now h1)) ?_))))))))))))))))))))))
  rintro aE aF aA w ⟨_,rfl,hB⟩
  replace hm:=hm.give hB;clear hB
  exact gF fo_51_2 rfl (gS1 hm 1 sizeOf47 (rep_one (hm.ow_rep 0 rfl)) rfl λw hm=>gE (gS (gR (gF fo_242_3 rfl (gL hm 3 isAgg3 rfl (gF fo_51_3 rfl (gS1 hm 1 sizeOf3 rfl rfl λw hm=>gE (gS (gR (gY (yn (hm.blk_at 1 rfl) isAgg51 sizeOf51 rfl) (gSN hm 2 sizeOf51 (one_cons rfl (one_cons rfl (one_cons (rep_one (hm.ow_rep 0 rfl)) (one_cons rfl one_nil)))) rfl λw hm=>gE (gRt (grc 2 results236 hm rfl isAgg51 sizeOf51 ⟨aA,rfl,hm.pk [0] rfl rfl⟩)))))))))))))
theorem laws_toInsS_ok (w0 : World) (a_ : List Ins_) (v1 : Value) (h1 : GT.rep (hp w0) [v1] a_) :
    ConM Tryz.prog 200 [v1] w0 (laws_toInsS a_) λr v w'=>∃ (x1:Value),v=x1∧Mem w0 (hp w0) w' [ow [x1] r]:=by
  unfold laws_toInsS
  refine gcon func200 rfl λr=>?_
  have hm:=Mem.start w0
  refine gS (gR (gA rfl (gE (gS (gR (gM rfl ?_))))))
  obtain ⟨aK,aL,rfl,aY⟩:=ro_slice h1
  refine gY (yV st_156 rfl) (gb λaB aM=>?_)
  obtain ⟨⟨aN,aO⟩,aI⟩:=makeM_some.1 aM
  refine gf rfl (λa hf=>e_make (x0:=((⟨0,0,[],0⟩:Ins_):Ins_)) et_46 (λ_=>⟨[nV 0],[nV 0,.slice none 0 0,nV 0],rfl,λ_=>False,λ_=>False,λ_ h=>h.elim,λ_ h=>h.elim,λ_ h=>h.elim,(Flat.own_iff.2 rfl),⟨[nV 0],[.slice none 0 0,nV 0],rfl,λ_=>False,λ_=>False,λ_ h=>h.elim,λ_ h=>h.elim,λ_ h=>h.elim,(Flat.own_iff.2 rfl),⟨[.slice none 0 0],[nV 0],rfl,λ_=>False,λ_=>False,λ_ h=>h.elim,λ_ h=>h.elim,λ_ h=>h.elim,(own_list.2 (.inl ⟨rfl,rfl⟩)),(Flat.own_iff.2 rfl)⟩⟩⟩) hf hm rfl rfl rfl aN (Int.le_refl _) aO) ?_
  rintro aZ w hm
  rw [aI] at hm
  have h0_1l:(aB.length:Int)=(a_.length:Int):=by rw [← aI];simp only [List.length_replicate];omega
  refine gA rfl (gE (gS (gS (gR (gA rfl (gE ?_))))))
  obtain ⟨aF,aD,rfl,aa⟩:=ro_slice (hm.ow_rep 0 rfl)
  refine gBk (gNf hm (λaG aE=>[(0,(.slice aK a_.length aL)),(3,(.slice aF aB.length aD)),(4,(nV aG))]) (λaG aE=>[ow [.slice aF aB.length aD] aE]) [0] rfl ?_ ?_)
  ·repeat clear hm
   intro _ _ aG aE w hm ab ac ae _
   refine gS (gS (gR (gM rfl (gM rfl (gY (yV st_156 rfl) (gB rfl (gE (go _ 11 rfl (decide_eq_true (by omega)) (gct rfl (gSk (gS (gBk (gR (gM rfl (gM rfl (gM rfl (gM rfl (gg λaP aQ aH=>?_))))))))))))))))))
   obtain ⟨af,ah,ai,he⟩:=idx_form' h1 aH
   obtain ⟨rfl,_,rfl⟩:=sl3 he
   obtain ⟨aR,aS,aT⟩:=rk_Ins_ h1 aH
   refine gI st_156 aQ (idx_lt aH) rfl (gY (yn (aS.mono hm.lez) isAgg242 sizeOf242 rfl) (gCg rfl call236 (laws_toIns_ok _ aP aR (hm.now aT)) ?_))
   rintro aA aj ak w ⟨aJ,rfl,hB⟩
   replace hm:=hm.give hB;clear hB
   refine gg λal aV aC=>?_
   obtain ⟨aW,aX,am,he⟩:=idx_form' (hm.ow_rep 1 rfl) aC
   obtain ⟨rfl,_,rfl⟩:=sl3 he
   obtain ⟨an,ao,ap⟩:=rk_Ins_ (hm.ow_rep 1 rfl) aC
   have hL1_1:=rep_slice_len (hm.ow_rep 1 rfl)
   refine gI st_46 aV (idx_lt2 aC hL1_1) rfl ?_
   replace hm:Mem w0 (hp w0) _ [ow [nV aA.op,nV aA.to,aJ,nV aA.n_] (aA:Ins_),ow [sV aW aX aB.length aD] aE]:=mk_Ins_ aA.op aA.to aA.n_ hm 0 rfl
   replace hm:=(hm.both 1 0 (by decide) rfl rfl).pk (L':=[_]) [1] rfl rfl
   refine gf0 rfl (λa hf=>e_putElem (x1:=(aA:Ins_)) (vs:=[nV aA.op,nV aA.to,aJ,nV aA.n_]) 0 hf hm rfl aC rfl sizeOf51 rfl rfl rfl rfl) ?_
   rintro _ w hm
   have aq:=List.getElem?_set_self (a:=(aA:Ins_)) (idx_lt aC)
   exact gE (gR (gM rfl (gP (by omega) (by omega) rfl (gA rfl (gE (gze hm [0] rfl))))))
  repeat clear hm
  intro ar au w hm av aw
  exact gS (gS (gR (gM rfl (gM rfl (gY (yV st_156 rfl) (gB rfl (gE (go _ 11 rfl (decide_eq_false (by omega)) (gcf rfl (gXt (gHh (gS (gR (gM rfl (gA rfl (gE (gRt (gr1 results200 rfl ⟨.slice aF aB.length aD,rfl,hm.pk [0] rfl rfl⟩))))))))))))))))))
theorem laws_toBlock_ok (w0 : World) (a_ : Block_) (v1 : Value) (h1 : GT.rep (hp w0) [v1] a_.phis) (v2 : Value) (h2 : GT.rep (hp w0) [v2] a_.ins) (v3 : Value) (h3 : GT.rep (hp w0) [v3] a_.next_) :
    ConM Tryz.prog 144 [(.agg #[v1,v2,nV a_.jump,nV a_.on,v3])] w0 (laws_toBlock a_) λr v w'=>∃ (x1:Value) (x2:Value) (x3:Value),v=(.agg #[x1,x2,nV r.jump,nV r.on,x3])∧Mem w0 (hp w0) w' [ow [x1] r.phis,ow [x2] r.ins,ow [x3] r.next_]:=by
  unfold laws_toBlock
  refine gcon func144 rfl λr=>?_
  have hm:=Mem.start w0
  refine gS (gR (gBx hm rfl λaD w hm=>gAl hm zeroValue49 rfl λaE w hm=>gE (gS (gR (gAl hm zeroValue49 rfl λaF w hm=>gE (gS (gR (gF fo_158_0 rfl (gL hm 2 isAgg155 rfl (gCg rfl call199 (laws_toPhiS_ok _ a_.phis v1 (hm.now h1)) ?_))))))))))
  rintro aG aH aA w ⟨_,rfl,hB⟩
  replace hm:=hm.give hB;clear hB
  refine gF fo_49_0 rfl (gS1 hm 1 sizeOf45 (rep_one (hm.ow_rep 0 rfl)) rfl λw hm=>gE (gS (gR (gF fo_158_1 rfl (gL hm 3 isAgg156 rfl (gCg rfl call200 (laws_toInsS_ok _ a_.ins v2 (hm.now h2)) ?_))))))
  rintro aI aJ aB w ⟨_,rfl,hB⟩
  replace hm:=hm.give hB;clear hB
  refine gF fo_49_1 rfl (gS1 hm 2 sizeOf46 (rep_one (hm.ow_rep 0 rfl)) rfl λw hm=>gE (gS (gR (gF fo_158_2 rfl (gL hm 4 isAgg3 rfl (gF fo_49_2 rfl (gS1 hm 2 sizeOf3 rfl rfl λw hm=>gE (gS (gR (gF fo_158_3 rfl (gL hm 4 isAgg3 rfl (gF fo_49_3 rfl (gS1 hm 2 sizeOf3 rfl rfl λw hm=>gE (gS (gR (gF fo_158_4 rfl (gL hm 4 isAgg47 rfl (gCg rfl call201 (laws_toIntS_ok _ a_.next_ v3 (hm.now h3)) ?_))))))))))))))))))
  rintro aK aL aC w ⟨_,rfl,hB⟩
  replace hm:=hm.give hB;clear hB
  exact gF fo_49_4 rfl (gS1 hm 3 sizeOf47 (rep_one (hm.ow_rep 0 rfl)) rfl λw hm=>gE (gS (gR (gY (yn (hm.blk_at 3 rfl) isAgg49 sizeOf49 rfl) (gSN hm 4 sizeOf49 (one_cons (rep_one (hm.ow_rep 2 rfl)) (one_cons (rep_one (hm.ow_rep 1 rfl)) (one_cons rfl (one_cons rfl (one_cons (rep_one (hm.ow_rep 0 rfl)) one_nil))))) rfl λw hm=>gE (gRt (grc 4 results144 hm rfl isAgg49 sizeOf49 ⟨aA,aB,aC,rfl,hm.pk [2,1,0] rfl rfl⟩)))))))
theorem laws_toBlockS_ok (w0 : World) (a_ : List Block_) (v1 : Value) (h1 : GT.rep (hp w0) [v1] a_) :
    ConM Tryz.prog 87 [v1] w0 (laws_toBlockS a_) λr v w'=>∃ (x1:Value),v=x1∧Mem w0 (hp w0) w' [ow [x1] r]:=by
  unfold laws_toBlockS
  refine gcon func87 rfl λr=>?_
  have hm:=Mem.start w0
  refine gS (gR (gA rfl (gE (gS (gR (gM rfl ?_))))))
  obtain ⟨aJ,aK,rfl,ac⟩:=ro_slice h1
  refine gY (yV st_69 rfl) (gb λaC aL=>?_)
  obtain ⟨⟨aM,aN⟩,aI⟩:=makeM_some.1 aL
  refine gf rfl (λa hf=>e_make (x0:=((⟨[],[],0,0,[]⟩:Block_):Block_)) et_42 (λ_=>⟨[.slice none 0 0],[.slice none 0 0,nV 0,nV 0,.slice none 0 0],rfl,λ_=>False,λ_=>False,λ_ h=>h.elim,λ_ h=>h.elim,λ_ h=>h.elim,(own_list.2 (.inl ⟨rfl,rfl⟩)),⟨[.slice none 0 0],[nV 0,nV 0,.slice none 0 0],rfl,λ_=>False,λ_=>False,λ_ h=>h.elim,λ_ h=>h.elim,λ_ h=>h.elim,(own_list.2 (.inl ⟨rfl,rfl⟩)),⟨[nV 0],[nV 0,.slice none 0 0],rfl,λ_=>False,λ_=>False,λ_ h=>h.elim,λ_ h=>h.elim,λ_ h=>h.elim,(Flat.own_iff.2 rfl),⟨[nV 0],[.slice none 0 0],rfl,λ_=>False,λ_=>False,λ_ h=>h.elim,λ_ h=>h.elim,λ_ h=>h.elim,(Flat.own_iff.2 rfl),(own_list.2 (.inl ⟨rfl,rfl⟩))⟩⟩⟩⟩) hf hm rfl rfl rfl aM (Int.le_refl _) aN) ?_
  rintro ae w hm
  rw [aI] at hm
  have h0_1l:(aC.length:Int)=(a_.length:Int):=by rw [← aI];simp only [List.length_replicate];omega
  refine gA rfl (gE (gS (gS (gR (gA rfl (gE ?_))))))
  obtain ⟨aD,aE,rfl,af⟩:=ro_slice (hm.ow_rep 0 rfl)
  refine gBk (gNf hm (λaF aG=>[(0,(.slice aJ a_.length aK)),(3,(.slice aD aC.length aE)),(4,(nV aF))]) (λaF aG=>[ow [.slice aD aC.length aE] aG]) [0] rfl ?_ ?_)
  ·repeat clear hm
   intro _ _ aF aG w hm ah ai aj _
   refine gS (gS (gR (gM rfl (gM rfl (gY (yV st_69 rfl) (gB rfl (gE (go _ 11 rfl (decide_eq_true (by omega)) (gct rfl (gSk (gS (gBk (gR (gM rfl (gM rfl (gM rfl (gM rfl (gg λaO aP aH=>?_))))))))))))))))))
   obtain ⟨ak,al,am,he⟩:=idx_form' h1 aH
   obtain ⟨rfl,_,rfl⟩:=sl3 he
   obtain ⟨aQ,aR,aS,aT,aV,aW,aX⟩:=rk_Block_ h1 aH
   refine gI st_69 aP (idx_lt aH) rfl (gY (yn (aT.mono hm.lez) isAgg158 sizeOf158 rfl) (gCg rfl call144 (laws_toBlock_ok _ aO aQ (hm.now aV) aR (hm.now aW) aS (hm.now aX)) ?_))
   rintro aA an ao w ⟨aY,aZ,aa,rfl,hB⟩
   replace hm:=hm.give hB;clear hB
   refine gg λap ab aB=>?_
   obtain ⟨aq,ar,au,he⟩:=idx_form' (hm.ow_rep 3 rfl) aB
   obtain ⟨rfl,_,rfl⟩:=sl3 he
   obtain ⟨av,aw,ax,ay,az,bA,bB⟩:=rk_Block_ (hm.ow_rep 3 rfl) aB
   have hL1_1:=rep_slice_len (hm.ow_rep 3 rfl)
   refine gI st_42 ab (idx_lt2 aB hL1_1) rfl ?_
   replace hm:=(mk_Block_ aA.jump aA.on hm 0 1 2 rfl).pk (L':=[_,_]) [0,3] rfl rfl
   replace hm:=(hm.both 1 0 (by decide) rfl rfl).pk (L':=[_]) [1] rfl rfl
   refine gf0 rfl (λa hf=>e_putElem (x1:=(aA:Block_)) (vs:=[aY,aZ,nV aA.jump,nV aA.on,aa]) 0 hf hm rfl aB rfl sizeOf49 rfl rfl rfl rfl) ?_
   rintro _ w hm
   have bC:=List.getElem?_set_self (a:=(aA:Block_)) (idx_lt aB)
   exact gE (gR (gM rfl (gP (by omega) (by omega) rfl (gA rfl (gE (gze hm [0] rfl))))))
  repeat clear hm
  intro bD bE w hm bF bG
  exact gS (gS (gR (gM rfl (gM rfl (gY (yV st_69 rfl) (gB rfl (gE (go _ 11 rfl (decide_eq_false (by omega)) (gcf rfl (gXt (gHh (gS (gR (gM rfl (gA rfl (gE (gRt (gr1 results87 rfl ⟨.slice aD aC.length aE,rfl,hm.pk [0] rfl rfl⟩))))))))))))))))))
theorem laws_toCode_ok (w0 : World) (a_ : Code_) (v1 : Value) (h1 : GT.rep (hp w0) [v1] a_.blocks) :
    ConM Tryz.prog 50 [(.agg #[nV a_.params,nV a_.regs,v1])] w0 (laws_toCode a_) λr v w'=>∃ (x1:Value),v=(.agg #[nV r.params,nV r.regs,x1])∧Mem w0 (hp w0) w' [ow [x1] r.blocks]:=by
  unfold laws_toCode
  refine gcon func50 rfl λr=>?_
  have hm:=Mem.start w0
  refine gS (gR (gBx hm rfl λaB w hm=>gAl hm zeroValue44 rfl λaC w hm=>gE (gS (gR (gAl hm zeroValue44 rfl λaD w hm=>gE (gS (gR (gF fo_71_0 rfl (gL hm 2 isAgg3 rfl (gF fo_44_0 rfl (gS1 hm 0 sizeOf3 rfl rfl λw hm=>gE (gS (gR (gF fo_71_1 rfl (gL hm 2 isAgg3 rfl (gF fo_44_1 rfl (gS1 hm 0 sizeOf3 rfl rfl λw hm=>gE (gS (gR (gF fo_71_2 rfl (gL hm 2 isAgg69 rfl (gCg rfl call87 (laws_toBlockS_ok _ a_.blocks v1 (hm.now h1)) ?_))))))))))))))))))))))
  rintro aE aF aA w ⟨_,rfl,hB⟩
  replace hm:=hm.give hB;clear hB
  exact gF fo_44_2 rfl (gS1 hm 1 sizeOf42 (rep_one (hm.ow_rep 0 rfl)) rfl λw hm=>gE (gS (gR (gY (yn (hm.blk_at 1 rfl) isAgg44 sizeOf44 rfl) (gSN hm 2 sizeOf44 (one_cons rfl (one_cons rfl (one_cons (rep_one (hm.ow_rep 0 rfl)) one_nil))) rfl λw hm=>gE (gRt (grc 2 results50 hm rfl isAgg44 sizeOf44 ⟨aA,rfl,hm.pk [0] rfl rfl⟩)))))))
theorem laws_toCodeS_ok (w0 : World) (a_ : List Code_) (v1 : Value) (h1 : GT.rep (hp w0) [v1] a_) :
    ConM Tryz.prog 23 [v1] w0 (laws_toCodeS a_) λr v w'=>∃ (x1:Value),v=x1∧Mem w0 (hp w0) w' [ow [x1] r]:=by
  unfold laws_toCodeS
  refine gcon func23 rfl λr=>?_
  have hm:=Mem.start w0
  refine gS (gR (gA rfl (gE (gS (gR (gM rfl ?_))))))
  obtain ⟨aK,aL,rfl,aY⟩:=ro_slice h1
  refine gY (yV st_22 rfl) (gb λaB aM=>?_)
  obtain ⟨⟨aN,aO⟩,aI⟩:=makeM_some.1 aM
  refine gf rfl (λa hf=>e_make (x0:=((⟨0,0,[]⟩:Code_):Code_)) et_26 (λ_=>⟨[nV 0],[nV 0,.slice none 0 0],rfl,λ_=>False,λ_=>False,λ_ h=>h.elim,λ_ h=>h.elim,λ_ h=>h.elim,(Flat.own_iff.2 rfl),⟨[nV 0],[.slice none 0 0],rfl,λ_=>False,λ_=>False,λ_ h=>h.elim,λ_ h=>h.elim,λ_ h=>h.elim,(Flat.own_iff.2 rfl),(own_list.2 (.inl ⟨rfl,rfl⟩))⟩⟩) hf hm rfl rfl rfl aN (Int.le_refl _) aO) ?_
  rintro aZ w hm
  rw [aI] at hm
  have h0_1l:(aB.length:Int)=(a_.length:Int):=by rw [← aI];simp only [List.length_replicate];omega
  refine gA rfl (gE (gS (gS (gR (gA rfl (gE ?_))))))
  obtain ⟨aF,aD,rfl,aa⟩:=ro_slice (hm.ow_rep 0 rfl)
  refine gBk (gNf hm (λaG aE=>[(0,(.slice aK a_.length aL)),(3,(.slice aF aB.length aD)),(4,(nV aG))]) (λaG aE=>[ow [.slice aF aB.length aD] aE]) [0] rfl ?_ ?_)
  ·repeat clear hm
   intro _ _ aG aE w hm ab ac ae _
   refine gS (gS (gR (gM rfl (gM rfl (gY (yV st_22 rfl) (gB rfl (gE (go _ 11 rfl (decide_eq_true (by omega)) (gct rfl (gSk (gS (gBk (gR (gM rfl (gM rfl (gM rfl (gM rfl (gg λaP aQ aH=>?_))))))))))))))))))
   obtain ⟨af,ah,ai,he⟩:=idx_form' h1 aH
   obtain ⟨rfl,_,rfl⟩:=sl3 he
   obtain ⟨aR,aS,aT⟩:=rk_Code_ h1 aH
   refine gI st_22 aQ (idx_lt aH) rfl (gY (yn (aS.mono hm.lez) isAgg71 sizeOf71 rfl) (gCg rfl call50 (laws_toCode_ok _ aP aR (hm.now aT)) ?_))
   rintro aA aj ak w ⟨aJ,rfl,hB⟩
   replace hm:=hm.give hB;clear hB
   refine gg λal aV aC=>?_
   obtain ⟨aW,aX,am,he⟩:=idx_form' (hm.ow_rep 1 rfl) aC
   obtain ⟨rfl,_,rfl⟩:=sl3 he
   obtain ⟨an,ao,ap⟩:=rk_Code_ (hm.ow_rep 1 rfl) aC
   have hL1_1:=rep_slice_len (hm.ow_rep 1 rfl)
   refine gI st_26 aV (idx_lt2 aC hL1_1) rfl ?_
   replace hm:Mem w0 (hp w0) _ [ow [nV aA.params,nV aA.regs,aJ] (aA:Code_),ow [sV aW aX aB.length aD] aE]:=mk_Code_ aA.params aA.regs hm 0 rfl
   replace hm:=(hm.both 1 0 (by decide) rfl rfl).pk (L':=[_]) [1] rfl rfl
   refine gf0 rfl (λa hf=>e_putElem (x1:=(aA:Code_)) (vs:=[nV aA.params,nV aA.regs,aJ]) 0 hf hm rfl aC rfl sizeOf44 rfl rfl rfl rfl) ?_
   rintro _ w hm
   have aq:=List.getElem?_set_self (a:=(aA:Code_)) (idx_lt aC)
   exact gE (gR (gM rfl (gP (by omega) (by omega) rfl (gA rfl (gE (gze hm [0] rfl))))))
  repeat clear hm
  intro ar au w hm av aw
  exact gS (gS (gR (gM rfl (gM rfl (gY (yV st_22 rfl) (gB rfl (gE (go _ 11 rfl (decide_eq_false (by omega)) (gcf rfl (gXt (gHh (gS (gR (gM rfl (gA rfl (gE (gRt (gr1 results23 rfl ⟨.slice aF aB.length aD,rfl,hm.pk [0] rfl rfl⟩))))))))))))))))))
theorem laws_toUnit_ok (w0 : World) (a_ : Unit_) (v1 : Value) (h1 : GT.rep (hp w0) [v1] a_.codes) :
    ConM Tryz.prog 8 [(.agg #[v1])] w0 (laws_toUnit a_) λr v w'=>∃ (x1:Value),v=(.agg #[x1])∧Mem w0 (hp w0) w' [ow [x1] r.codes]:=by
  unfold laws_toUnit
  refine gcon func8 rfl λr=>?_
  have hm:=Mem.start w0
  refine gS (gR (gBx hm rfl λaB w hm=>gAl hm zeroValue28 rfl λaC w hm=>gE (gS (gR (gAl hm zeroValue28 rfl λaD w hm=>gE (gS (gR (gF fo_24_0 rfl (gL hm 2 isAgg22 rfl (gCg rfl call23 (laws_toCodeS_ok _ a_.codes v1 (hm.now h1)) ?_))))))))))
  rintro aE aF aA w ⟨_,rfl,hB⟩
  replace hm:=hm.give hB;clear hB
  exact gF fo_28_0 rfl (gS1 hm 1 sizeOf26 (rep_one (hm.ow_rep 0 rfl)) rfl λw hm=>gE (gS (gR (gY (yn (hm.blk_at 1 rfl) isAgg28 sizeOf28 rfl) (gSN hm 2 sizeOf28 (one_cons (rep_one (hm.ow_rep 0 rfl)) one_nil) rfl λw hm=>gE (gRt (grc 2 results8 hm rfl isAgg28 sizeOf28 ⟨aA,rfl,hm.pk [0] rfl rfl⟩)))))))
theorem spec_l1In_ok (w0 : World) (n_ : Int) (low : Int) (high : Int) :
    ConM Tryz.prog 19 [nV n_,nV low,nV high] w0 (spec_l1In n_ low high) λr v w'=>v=(.bool (r))∧Below w0.heap.size w0 w':=by
  unfold spec_l1In
  refine gcon func19 rfl λr=>?_
  have hm:=Mem.start w0
  refine gS (gR (gA rfl (gE (gS (gJ hm (λaA=>[(6,(.bool (aA)))]) (λaA=>[]) (λaA=>?_) ?_)))))
  ·refine gR (gM rfl (gM rfl (gB rfl (gM rfl (gsd 10 rfl (fun aB => ?_) fun aB => ?_)))))
   ·exact gM rfl (gM rfl (gB rfl (gKt rfl (gA rfl (gE (gz hm [] rfl))))))
   exact gO rfl (gO rfl (gO rfl (gKf rfl (gA rfl (gE (gz hm [] rfl))))))
  repeat clear hm
  intro aA w hm
  exact gRt (gr1 results19 rfl ⟨rfl,hm.below⟩)
theorem spec_l7Regs_ok (w0 : World) (c_ : Code_) (v1 : Value) (h1 : GT.rep (hp w0) [v1] c_.blocks) (list : List Int) (v2 : Value) (h2 : GT.rep (hp w0) [v2] list) :
    ConM Tryz.prog 86 [(.agg #[nV c_.params,nV c_.regs,v1]),v2] w0 (spec_l7Regs c_ list) λr v w'=>v=(.bool (r))∧Below w0.heap.size w0 w':=by
  unfold spec_l7Regs
  refine gcon func86 rfl λr=>?_
  have hm:=Mem.start w0
  refine gS (gR (gBx hm rfl λaA w hm=>gA rfl (gE (gS (gS (gR (gA rfl (gE (gBk (gNf hm (λaB aD=>[(1,v2),(2,(pV aA)),(5,(nV aB))]) (λaB aD=>[blk aA [nV c_.params,nV c_.regs,v1] 44]) [0] rfl ?_ ?_))))))))))
  ·repeat clear hm
   intro aK aF aB aD w hm aL aM aN aG
   refine gS (gS (gR (gM rfl (gM rfl ?_))))
   obtain ⟨aO,aP,rfl,aQ⟩:=ro_slice h2
   refine gY (yV st_47 rfl) (gB rfl (gE (go _ 9 rfl (decide_eq_true (by omega)) (gct rfl (gSk (gS (gBk (gS (gW (.p 0 (.p 1 (.p 2 (.p 4 (.q 3 (.e 5 (.p 6 (.e 7 (.p 8 .fin) .nil)) .nil)))))) [5] [0,1,2,4,6,8] hm [0] [blk aA [nV c_.params,nV c_.regs,v1] 44] rfl mxo (by kernel_rfl) (λ_ _ _ h=>h.2) λw hm hS=>tP rfl (λw=>yM rfl) (tP rfl (λw=>yM rfl) (gg λaE aH aC=>?_)))))))))))
   obtain ⟨aR,aS,aT,he⟩:=idx_form h2 aC
   obtain ⟨rfl,_,rfl⟩:=sl3 he
   refine tP rfl (λw=>yI st_47 aH (idx_lt aC) rfl) (tP rfl (λw=>yF fo_44_1 rfl) (tQ rfl hS (λw hm=>yl isAgg3 ((flat_cells (cs:=[nV aE]) (hm.now h2) aC rfl).cell (j:=0) rfl) rfl) (tO (tY rfl (yL hm 0 isAgg3 rfl) (tAs hS (tP rfl (λw=>yB rfl) (tO (gb λaV aI=>tf rfl rfl (λa hf=>e_call hf rfl call19 rfl (spec_l1In_ok _ aE 0 (w64 (c_.regs - 1)) _ aI)) ?_))))))))
   rintro aW w ⟨rfl,hB⟩
   replace hm:=hm.below' hB;clear hB
   refine tAn rfl (tP rfl (λw=>yN rfl) (tE (gsn 20 rfl (λaJ=>?_) λaJ=>?_)))
   ·exact gct rfl (gS (gR (gA rfl (gE (gRt (gLr aG aF (gr1 results86 rfl ⟨rfl,hm.below⟩)))))))
   exact gcf rfl (gSk (gR (gM rfl (gP (by omega) (by omega) rfl (gA rfl (gE (gze hm [0] rfl)))))))
  repeat clear hm
  intro aX aY w hm aZ aa
  refine gS (gS (gR (gM rfl (gM rfl ?_))))
  obtain ⟨ab,ac,rfl,ae⟩:=ro_slice h2
  exact gY (yV st_47 rfl) (gB rfl (gE (go _ 9 rfl (decide_eq_false (by omega)) (gcf rfl (gXt (gHh (gS (gR (gA rfl (gE (gRt (gr1 results86 rfl ⟨rfl,hm.below⟩))))))))))))
theorem spec_l7Makes_ok (w0 : World) (op : Int) :
    ConM Tryz.prog 80 [nV op] w0 (spec_l7Makes op) λr v w'=>v=(.bool (r))∧Below w0.heap.size w0 w':=by
  unfold spec_l7Makes
  refine gcon func80 rfl λr=>?_
  have hm:=Mem.start w0
  refine gS (gR (gA rfl (gE (gS (gJ hm (λaA=>[(2,(.bool (aA)))]) (λaA=>[]) (λaA=>?_) ?_)))))
  ·refine gR (gM rfl (gC hm rfl call19 (spec_l1In_ok _ op 1 14) fun aD aE w hm => gM rfl (gs 5 rfl (fun aB => ?_) fun aB => ?_)))
   ·refine gM rfl (gB rfl (gKt rfl (gM rfl (gsd 9 rfl (fun aC => ?_) fun aC => ?_))))
    ·exact gM rfl (gB rfl (gKt rfl (gA rfl (gE (gz hm [] rfl)))))
    exact gO rfl (gO rfl (gKf rfl (gA rfl (gE (gz hm [] rfl)))))
   exact gO rfl (gO rfl (gKf rfl (gM rfl (gO rfl (gO rfl (gKf rfl (gA rfl (gE (gz hm [] rfl)))))))))
  repeat clear hm
  intro aA w hm
  exact gRt (gr1 results80 rfl ⟨rfl,hm.below⟩)
theorem spec_l7Args_ok (w0 : World) (op : Int) :
    ConM Tryz.prog 143 [nV op] w0 (spec_l7Args op) λr v w'=>v=(nV r)∧Below w0.heap.size w0 w':=by
  unfold spec_l7Args
  refine gcon func143 rfl λr=>?_
  have hm:=Mem.start w0
  refine gS (gR (gA rfl (gE (gS (gBk (gS (gR (gM rfl (gB rfl (gA rfl (gE (gsd 3 rfl (λaC=>?_) λaC=>?_))))))))))))
  ·exact gct rfl (gS (gR (gA rfl (gE (gRt (gr1 results143 rfl ⟨rfl,hm.below⟩))))))
  refine gcf rfl (gS (gJ hm (λaA=>[(0,(nV op)),(6,(.bool (aA)))]) (λaA=>[]) (λaA=>?_) ?_))
  ·refine gR (gM rfl (gB rfl (gM rfl (gsd 9 rfl (fun aD => ?_) fun aD => ?_))))
   ·exact gO rfl (gO rfl (gKt rfl (gM rfl (gO rfl (gO rfl (gKt rfl (gM rfl (gO rfl (gO rfl (gKt rfl (gA rfl (gE (gz hm [] rfl)))))))))))))
   refine gM rfl (gB rfl (gKf rfl (gM rfl (gsd 13 rfl (λaE=>?_) λaE=>?_))))
   ·exact gO rfl (gO rfl (gKt rfl (gM rfl (gO rfl (gO rfl (gKt rfl (gA rfl (gE (gz hm [] rfl)))))))))
   refine gM rfl (gB rfl (gKf rfl (gM rfl (gsd 17 rfl (λaF=>?_) λaF=>?_))))
   ·exact gO rfl (gO rfl (gKt rfl (gA rfl (gE (gz hm [] rfl)))))
   exact gM rfl (gB rfl (gKf rfl (gA rfl (gE (gz hm [] rfl)))))
  repeat clear hm
  intro aA w hm
  refine gs 6 rfl (λaG=>?_) λaG=>?_
  ·exact gct rfl (gS (gR (gA rfl (gE (gRt (gr1 results143 rfl ⟨rfl,hm.below⟩))))))
  refine gcf rfl (gS (gJ hm (λaB=>[(21,(.bool (aB)))]) (λaB=>[]) (λaB=>?_) ?_))
  ·refine gR (gM rfl (gC hm rfl call19 (spec_l1In_ok _ op 3 9) fun aJ aK w hm => gM rfl (gs 24 rfl (fun aH => ?_) fun aH => ?_)))
   ·exact gO rfl (gO rfl (gKt rfl (gA rfl (gE (gz hm [] rfl)))))
   exact gM rfl (gB rfl (gKf rfl (gA rfl (gE (gz hm [] rfl)))))
  repeat clear hm
  intro aB w hm
  refine gs 21 rfl (λaI=>?_) λaI=>?_
  ·exact gct rfl (gS (gR (gA rfl (gE (gRt (gr1 results143 rfl ⟨rfl,hm.below⟩))))))
  exact gcf rfl (gSk (gS (gR (gA rfl (gE (gRt (gr1 results143 rfl ⟨rfl,hm.below⟩)))))))
theorem spec_l7Ins_ok (w0 : World) (u : Unit_) (v1 : Value) (h1 : GT.rep (hp w0) [v1] u.codes) (k_ : Int) (x_ : Ins_) (v2 : Value) (h2 : GT.rep (hp w0) [v2] x_.args) :
    ConM Tryz.prog 85 [(.agg #[v1]),nV k_,(.agg #[nV x_.op,nV x_.to,v2,nV x_.n_])] w0 (spec_l7Ins u k_ x_) λr v w'=>v=(.bool (r))∧Below w0.heap.size w0 w':=by
  unfold spec_l7Ins
  refine gcon func85 rfl λr=>?_
  have hm:=Mem.start w0
  refine gS (gR (gBx hm rfl λaA w hm=>gBx hm rfl λaB w hm=>gA rfl (gE (gS (gR (gF fo_28_0 rfl (gL hm 1 isAgg26 rfl (gM rfl (gg λaC aP aK=>?_)))))))))
  obtain ⟨aD,aE,aF,he⟩:=idx_form' h1 aK
  subst he
  obtain ⟨aL,aQ,aN⟩:=rk_Code_ h1 aK
  refine gI st_26 aP (idx_lt aK) rfl (gY (yn (aQ.mono hm.lez) isAgg44 sizeOf44 rfl) (gAl hm zeroValue44 rfl λaM w hm=>gSN hm 0 sizeOf44 (one_cons rfl (one_cons rfl (one_cons (rep_one aN) one_nil))) rfl λw hm=>gE (gS (gS (gJ hm (λaG=>[(1,(nV k_)),(3,(pV aA)),(5,(pV aB)),(7,(pV aM)),(23,(.bool (aG)))]) (λaG=>[blk aA [sV aD aE u.codes.length aF] 28,blk aB [nV x_.op,nV x_.to,v2,nV x_.n_] 51,blk aM [nV aC.params,nV aC.regs,aL] 44]) (λaG=>?_) ?_)))))
  ·refine gR (gF fo_51_0 rfl (gL hm 1 isAgg3 rfl (gC hm rfl call19 (spec_l1In_ok _ x_.op 1 14) fun am an w hm => gN rfl (gM rfl (gsn 17 rfl (fun aR => ?_) fun aR => ?_)))))
   ·exact gO rfl (gO rfl (gO rfl (gO rfl (gO rfl (gKt rfl (gE (gz hm [2,1,0] rfl)))))))
   exact gY (yn (hm.blk_at 0 rfl) isAgg44 sizeOf44 rfl) (gF fo_51_2 rfl (gL hm 1 isAgg47 rfl (gC hm rfl call86 (spec_l7Regs_ok _ aC aL (hm.now aN) x_.args v2 (hm.now h2)) λao ap w hm=>gN rfl (gKf rfl (gE (gz hm [2,1,0] rfl))))))
  repeat clear hm
  intro aG w hm
  refine gs 23 rfl (λaS=>?_) λaS=>?_
  ·exact gct rfl (gS (gR (gA rfl (gE (gRt (gr1 results85 rfl ⟨rfl,hm.below⟩))))))
  refine gcf rfl (gSk (gS (gS (gJ hm (λaH=>[(1,(nV k_)),(3,(pV aA)),(5,(pV aB)),(44,(.bool (aH)))]) (λaH=>[blk aA [sV aD aE u.codes.length aF] 28,blk aB [nV x_.op,nV x_.to,v2,nV x_.n_] 51]) (λaH=>?_) ?_))))
  ·refine gW (.p 0 (.p 3 (.p 5 (.q 1 (.q 4 (.q 6 (.p 7 (.e 2 (.e 8 (.p 9 (.p 10 (.p 11 (.e 12 (.e 13 (.p 14 (.p 15 (.p 16 (.e 17 (.p 18 (.p 19 (.p 20 .fin))) .nil)))) .nil) .nil)))) .nil) .nil)))))))) [1, 2, 4, 6] [0, 3, 5, 7, 9, 10, 11, 14, 15, 16, 18, 19, 20] hm [0, 1, 2] [blk aA [sV aD aE u.codes.length aF] 28, blk aB [nV x_.op, nV x_.to, v2, nV x_.n_] 51, blk aM [nV aC.params, nV aC.regs, aL] 44] rfl mxo (by kernel_rfl) (fun _ _ _ h => h.2) fun w hm hS => tP rfl (fun w => yF fo_51_0 rfl) (tP rfl (fun w => yF fo_51_1 rfl) (tP rfl (fun w => yF fo_44_1 rfl) (tQ rfl hS (fun w hm => yL hm 1 isAgg3 rfl) (tQ rfl hS (fun w hm => yL hm 1 isAgg3 rfl) (tQ rfl hS (fun w hm => yL hm 2 isAgg3 rfl) (tP rfl (fun w => yB rfl) (tO (gb fun aq aT => tf rfl rfl (fun a hf => e_call hf rfl call80 rfl (spec_l7Makes_ok _ x_.op _ aT)) ?_))))))))
   rintro ar w ⟨rfl,hB⟩
   replace hm:=hm.below' hB;clear hB
   refine tAk hm [0,1,2] rfl λhS=>tO (gb λau aV=>tf rfl rfl (λa hf=>e_call hf rfl call19 rfl (spec_l1In_ok _ x_.to 0 (w64 (aC.regs - 1)) _ aV)) ?_)
   rintro av w ⟨rfl,hB⟩
   replace hm:=hm.below' hB;clear hB
   refine tAn rfl (tP rfl (λw=>yG rfl (y_neqb underlying4 rfl rfl rfl)) (tP rfl (λw=>yM rfl) (gsd 34 rfl (λaW=>?_) λaW=>?_)))
   ·exact tPo rfl rfl (tO (tEo rfl rfl (tAn rfl (tO (tEo rfl rfl (tAn rfl (tPo rfl rfl (tPo rfl rfl (tPo rfl rfl (tO (tEo rfl rfl (tAn rfl (tPo rfl rfl (tPo rfl rfl (tP rfl (λw=>yKt rfl) (tE (gz hm [0,1] rfl)))))))))))))))))
   refine tP rfl (λw=>yF fo_51_0 rfl) (tO (tY rfl (yL hm 1 isAgg3 rfl) (tAn rfl (tO (gb λaw aX=>tf rfl rfl (λa hf=>e_call hf rfl call80 rfl (spec_l7Makes_ok _ x_.op _ aX)) ?_)))))
   rintro ax w ⟨rfl,hB⟩
   replace hm:=hm.below' hB;clear hB
   refine tAn rfl (tP rfl (λw=>yN rfl) (tP rfl (λw=>yM rfl) (gsn 39 rfl (λaY=>?_) λaY=>?_)))
   ·exact tP rfl (λw=>yF fo_51_1 rfl) (tO (tY rfl (yL hm 1 isAgg3 rfl) (tAn rfl (tP rfl (λw=>yB rfl) (tP rfl (λw=>yKt rfl) (tP rfl (λw=>yKf rfl) (tE (gz hm [0,1] rfl))))))))
   exact tPo rfl rfl (tO (tEo rfl rfl (tAn rfl (tPo rfl rfl (tP rfl (λw=>yKf rfl) (tP rfl (λw=>yKf rfl) (tE (gz hm [0,1] rfl))))))))
  repeat clear hm
  intro aH w hm
  refine gs 44 rfl (λaZ=>?_) λaZ=>?_
  ·exact gct rfl (gS (gR (gA rfl (gE (gRt (gr1 results85 rfl ⟨rfl,hm.below⟩))))))
  refine gcf rfl (gSk (gS (gS (gR (gF fo_51_0 rfl (gL hm 1 isAgg3 rfl (gB rfl (gE (gsd 47 rfl (λaa=>?_) λaa=>?_)))))))))
  ·refine gct rfl (gS (gJ hm (fun aI => [(6, (.bool (aI)))]) (fun aI => []) (fun aI => ?_) ?_))
   ·refine gW (.p 0 (.p 2 (.p 3 (.e 1 (.e 4 (.p 5 (.p 6 (.p 9 (.p 11 (.q 7 (.p 8 (.q 10 (.e 12 (.p 13 (.p 14 (.e 15 (.p 16 (.p 17 (.p 18 .fin))) .nil))) .nil)))))))) .nil) .nil)))) [7, 10, 12, 15] [0, 2, 3, 5, 6, 8, 9, 11, 13, 14, 16, 17, 18] hm [0, 1] [blk aA [sV aD aE u.codes.length aF] 28, blk aB [nV x_.op, nV x_.to, v2, nV x_.n_] 51] rfl mxo (by kernel_rfl) (fun _ _ _ h => h.2) fun w hm hS => tP rfl (fun w => yF fo_51_3 rfl) (tP rfl (fun w => yM rfl) (tP rfl (fun w => yB rfl) (tO (tY rfl (yL hm 1 isAgg3 rfl) (tAn rfl (tO (gb fun ay ab => tf rfl rfl (fun a hf => e_call hf rfl call19 rfl (spec_l1In_ok _ x_.n_ 0 (w64 (k_ - 1)) _ ab)) ?_)))))))
    rintro az w ⟨rfl,hB⟩
    replace hm:=hm.below' hB;clear hB
    refine tAk hm [0,1] rfl λhS=>tP rfl (λw=>yM rfl) (gs 53 rfl (λac=>?_) λac=>?_)
    ·refine tP rfl (fun w => yF fo_51_2 rfl) (tP rfl (fun w => yF fo_28_0 rfl) (tP rfl (fun w => yF fo_51_3 rfl) (tQ rfl hS (fun w hm => yL hm 1 isAgg47 rfl) ?_)))
     obtain ⟨bA,bB,rfl,bC⟩:=ro_slice h2
     refine tP rfl (λw=>yV st_47 rfl) (tQ rfl hS (λw hm=>yL hm 0 isAgg26 rfl) (tO (tY rfl (yL hm 1 isAgg3 rfl) (tAs hS (gg λbD ae aO=>?_)))))
     obtain ⟨bE,af,bF⟩:=rk_Code_ h1 aO
     exact tP rfl (λw=>yI st_26 ae (idx_lt aO) rfl) (tP rfl (λw=>yF fo_44_0 rfl) (tO (tY rfl (yl isAgg3 ((af.mono hm.lez).cell (j:=0) rfl) rfl) (tAs hS (tP rfl (λw=>yB rfl) (tP rfl (λw=>yKt rfl) (tP rfl (λw=>yA rfl) (tE (gz hm [] rfl)))))))))
    exact tPo rfl rfl (tPo rfl rfl (tPo rfl rfl (tQo rfl hS rfl (tPo rfl rfl (tQo rfl hS rfl (tO (tEo rfl rfl (tAs hS (tPo rfl rfl (tPo rfl rfl (tO (tEo rfl rfl (tAs hS (tPo rfl rfl (tP rfl (λw=>yKf rfl) (tP rfl (λw=>yA rfl) (tE (gz hm [] rfl))))))))))))))))))
   repeat clear hm
   intro aI w hm
   exact gRt (gr1 results85 rfl ⟨rfl,hm.below⟩)
  refine gcf rfl (gSk (gS (gJ hm (λaJ=>[(6,(.bool (aJ)))]) (λaJ=>[]) (λaJ=>?_) ?_)))
  ·refine gW (.p 0 (.p 3 (.q 1 (.p 2 (.e 4 (.e 5 (.p 6 (.p 7 (.p 8 (.e 9 (.e 10 (.p 11 (.p 12 (.p 13 (.e 14 (.p 15 (.p 16 (.p 17 (.e 18 (.p 19 (.p 20 (.p 21 (.p 22 .fin)))) .nil)))) .nil)))) .nil) .nil)))) .nil) .nil))))) [4, 5] [0, 2, 3, 6, 7, 8, 11, 12, 13, 15, 16, 17, 19, 20, 21, 22] hm [0, 1] [blk aA [sV aD aE u.codes.length aF] 28, blk aB [nV x_.op, nV x_.to, v2, nV x_.n_] 51] rfl mxo (by kernel_rfl) (fun _ _ _ h => h.2) fun w hm hS => tP rfl (fun w => yF fo_51_2 rfl) (tP rfl (fun w => yF fo_51_0 rfl) (tQ rfl hS (fun w hm => yL hm 1 isAgg47 rfl) ?_))
   obtain ⟨bG,bH,rfl,bJ⟩:=ro_slice h2
   refine tP rfl (λw=>yV st_47 rfl) (tO (tY rfl (yL hm 1 isAgg3 rfl) (tAs hS (tO (gb λbK ah=>tf rfl rfl (λa hf=>e_call hf rfl call143 rfl (spec_l7Args_ok _ x_.op _ ah)) ?_)))))
   rintro bL w ⟨rfl,hB⟩
   replace hm:=hm.below' hB;clear hB
   refine tAk hm [0,1] rfl λhS=>tP rfl (λw=>yB rfl) (tP rfl (λw=>yM rfl) (gsd 73 rfl (λai=>?_) λai=>?_))
   ·refine tP rfl (fun w => yF fo_51_3 rfl) (tO (tY rfl (yL hm 1 isAgg3 rfl) (tAn rfl (tO (gb fun bM aj => tf rfl rfl (fun a hf => e_call hf rfl call19 rfl (spec_l1In_ok _ x_.n_ 0 255 _ aj)) ?_)))))
    rintro bN w ⟨rfl,hB⟩
    replace hm:=hm.below' hB;clear hB
    refine tAn rfl (tP rfl (λw=>yKt rfl) (tP rfl (λw=>yM rfl) (gs 78 rfl (λak=>?_) λak=>?_)))
    ·refine tP rfl (fun w => yF fo_51_3 rfl) (tO (tY rfl (yL hm 1 isAgg3 rfl) (tAn rfl (tP rfl (fun w => yB rfl) (tP rfl (fun w => yM rfl) (gsd 82 rfl (fun al => ?_) fun al => ?_))))))
     ·exact tPo rfl rfl (tO (tEo rfl rfl (tAn rfl (tPo rfl rfl (tP rfl (λw=>yKt rfl) (tP rfl (λw=>yKt rfl) (tP rfl (λw=>yA rfl) (tE (gz hm [] rfl)))))))))
     exact tP rfl (λw=>yF fo_51_0 rfl) (tO (tY rfl (yL hm 1 isAgg3 rfl) (tAn rfl (tP rfl (λw=>yB rfl) (tP rfl (λw=>yKf rfl) (tP rfl (λw=>yKt rfl) (tP rfl (λw=>yA rfl) (tE (gz hm [] rfl)))))))))
    exact tPo rfl rfl (tO (tEo rfl rfl (tAn rfl (tPo rfl rfl (tPo rfl rfl (tPo rfl rfl (tO (tEo rfl rfl (tAn rfl (tPo rfl rfl (tPo rfl rfl (tP rfl (λw=>yKf rfl) (tP rfl (λw=>yA rfl) (tE (gz hm [] rfl)))))))))))))))
   exact tPo rfl rfl (tO (tEo rfl rfl (tAn rfl (tO (tEo rfl rfl (tAn rfl (tP rfl (λw=>yKf rfl) (tP rfl (λw=>yM rfl) (tPo rfl rfl (tO (tEo rfl rfl (tAn rfl (tPo rfl rfl (tPo rfl rfl (tPo rfl rfl (tO (tEo rfl rfl (tAn rfl (tPo rfl rfl (tPo rfl rfl (tP rfl (λw=>yKf rfl) (tP rfl (λw=>yA rfl) (tE (gz hm [] rfl))))))))))))))))))))))))
  repeat clear hm
  intro aJ w hm
  exact gRt (gr1 results85 rfl ⟨rfl,hm.below⟩)
theorem spec_l7Preds_ok (w0 : World) (c_ : Code_) (v1 : Value) (h1 : GT.rep (hp w0) [v1] c_.blocks) (b_ : Int) :
    ConM Tryz.prog 83 [(.agg #[nV c_.params,nV c_.regs,v1]),nV b_] w0 (spec_l7Preds c_ b_) λr v w'=>∃ (x1:Value),v=x1∧Mem w0 (hp w0) w' [ow [x1] r]:=by
  unfold spec_l7Preds
  refine gcon func83 rfl λr=>?_
  have hm:=Mem.start w0
  refine gS (gR (gBx hm rfl λaB w hm=>gA rfl (gE (gS (gR (gf rfl (λa hf=>e_build0 (α:=Int) et_47 hm rfl) ?_))))))
  rintro af w hm
  refine gA rfl (gE (gS (gS (gR (gA rfl (gE ?_))))))
  obtain ⟨aS,aT,rfl,ah⟩:=ro_slice (hm.ow_rep 0 rfl)
  refine gBk (gNg (λaA aC a w=>∃ (aF:Value),St 43 [(1,(nV b_)),(2,(pV aB)),(5,aF),(6,(nV aA))] w0 (hp w0) [blk aB [nV c_.params,nV c_.regs,v1] 44,ow [aF] aC] a w) (λa hf=>⟨.slice aS ([]:List Int).length aT,hf.sb rfl,hm.pk [1,0] rfl rfl⟩) ?_ ?_)
  ·repeat clear hm
   rintro _ _ aA aC a w ⟨aF,hf,hm⟩ ai aj ak _
   refine gv hf (gS (gS (gR (gM rfl (gF fo_44_2 rfl (gL hm 0 isAgg42 rfl ?_))))))
   obtain ⟨aM,aN,rfl,al⟩:=ro_slice h1
   refine gY (yV st_42 rfl) (gB rfl (gE (go _ 13 rfl (decide_eq_true (by omega)) (gct rfl (gSk (gS (gBk (gS (gR (gA rfl (gE ?_)))))))))))
   obtain ⟨aG,aH,rfl,am⟩:=ro_slice (hm.ow_rep 1 rfl)
   refine gJg (λaI a w=>∃ (aD:Value),St 43 [(1,(nV b_)),(2,(pV aB)),(5,aD),(6,(nV aA))] w0 (hp w0) [blk aB [nV c_.params,nV c_.regs,.slice aM c_.blocks.length aN] 44,ow [aD] aI] a w) (λaI=>?_) ?_
   ·refine gBk (gMf hm (fun aJ => [(1, (nV b_)), (2, (pV aB)), (5, (.slice aG aC.length aH)), (6, (nV aA)), (7, (nV aJ))]) (fun aJ => [blk aB [nV c_.params, nV c_.regs, .slice aM c_.blocks.length aN] 44, ow [.slice aG aC.length aH] aC]) [0, 1] rfl ?_)
    repeat clear hm
    intro an aO aJ w hm ao aP
    refine gS (gS (gR (gM rfl (gF fo_44_2 rfl (gL hm 0 isAgg42 rfl (gM rfl (gg λap aQ aE=>?_)))))))
    obtain ⟨aq,ar,au,he⟩:=idx_form' h1 aE
    obtain ⟨rfl,_,rfl⟩:=sl3 he
    obtain ⟨av,aw,ax,aR,ay,az,aK⟩:=rk_Block_ h1 aE
    refine gI st_42 aQ (idx_lt aE) rfl (gF fo_49_4 rfl (gY (yl isAgg47 ((aR.mono hm.lez).cell (j:=4) rfl) rfl) ?_))
    obtain ⟨bA,bB,rfl,bC⟩:=ro_slice aK
    refine gY (yV st_47 rfl) (gB rfl (gE (gsd 24 rfl (λaV=>?_) λaV=>?_)))
    ·refine gct rfl (gSk (gS (gBk (gS (gR (gF fo_44_2 rfl (gL hm 0 isAgg42 rfl (gM rfl (gI st_42 aQ (idx_lt aE) rfl (gF fo_49_4 rfl (gY (yl isAgg47 ((aR.mono hm.lez).cell (j := 4) rfl) rfl) (gM rfl (gg fun aW aX aL => ?_)))))))))))))
     obtain ⟨bD,bE,bF,he⟩:=idx_form aK aL
     obtain ⟨rfl,_,rfl⟩:=sl3 he
     refine gI st_47 aX (idx_lt aL) rfl (gY (yl isAgg3 ((flat_cells (cs:=[nV aW]) (hm.now aK) aL rfl).cell (j:=0) rfl) rfl) (gM rfl (gB rfl (gE (gsd 37 rfl (λaY=>?_) λaY=>?_)))))
     ·refine gct rfl (gS (gR (gM rfl (gM rfl (gf rfl (fun a hf => e_build (vs := #[(0, (nV aA))]) (cs := [nV aA]) et_47 hf hm rfl rfl (by kernel_rfl) rfl rfl) ?_)))))
      rintro _ w ⟨bG,rfl,hm⟩
      replace hm:=hm.lit (xs:=([aA]:List Int)) 0 rfl rfl rfl rfl
      refine gb λbH aZ=>?_
      obtain ⟨aa,ab⟩:=appM_some.1 aZ
      refine gf rfl (λa hf=>e_append 2 et_47 hf hm rfl (hm.ow_rep 0 rfl) rfl rfl rfl aa) ?_
      rintro ac w hm
      rw [ab] at hm
      exact gA rfl (gE (gXt (gHm rfl (gHh (gLp aP aO (gZ λa hf=>⟨ac,hf.sb rfl,hm.pk [1,2] rfl rfl⟩))))))
     exact gcf rfl (gSk (gR (gM rfl (gB rfl (gA rfl (gE (gze hm [0,1] rfl)))))))
    exact gcf rfl (gXt (gHh (gLp aP aO (gZ λa hf=>⟨.slice aG aC.length aH,hf.sb rfl,hm.pk [0,1] rfl rfl⟩))))
   repeat clear hm
   rintro aI a w ⟨aD,hf,hm⟩
   exact gv hf (gR (gM rfl (gP (by omega) (by omega) rfl (gA rfl (gE (gZe λa hf=>⟨aD,hf.sb rfl,hm.pk [0,1] rfl rfl⟩))))))
  repeat clear hm
  rintro bJ bK a w ⟨ae,hf,hm⟩ bL bM
  refine gv hf (gS (gS (gR (gM rfl (gF fo_44_2 rfl (gL hm 0 isAgg42 rfl ?_))))))
  obtain ⟨bN,bO,rfl,bP⟩:=ro_slice h1
  exact gY (yV st_42 rfl) (gB rfl (gE (go _ 13 rfl (decide_eq_false (by omega)) (gcf rfl (gXt (gHh (gS (gR (gM rfl (gA rfl (gE (gRt (gr1 results83 rfl ⟨ae,rfl,hm.pk [1] rfl rfl⟩)))))))))))))
theorem spec_l7Block_ok (w0 : World) (u : Unit_) (v1 : Value) (h1 : GT.rep (hp w0) [v1] u.codes) (k_ : Int) (b_ : Int) :
    ConM Tryz.prog 49 [(.agg #[v1]),nV k_,nV b_] w0 (spec_l7Block u k_ b_) λr v w'=>v=(.bool (r))∧Below w0.heap.size w0 w':=by
  unfold spec_l7Block
  refine gcon func49 rfl λr=>?_
  have hm:=Mem.start w0
  refine gS (gR (gBx hm rfl λaE w hm=>gA rfl (gE (gS (gR (gF fo_28_0 rfl (gL hm 0 isAgg26 rfl (gM rfl (gg λaB bD af=>?_)))))))))
  obtain ⟨aI,aJ,aK,he⟩:=idx_form' h1 af
  subst he
  obtain ⟨bs,bE,aO⟩:=rk_Code_ h1 af
  refine gI st_26 bD (idx_lt af) rfl (gY (yn (bE.mono hm.lez) isAgg44 sizeOf44 rfl) (gAl hm zeroValue44 rfl λaC w hm=>gSN hm 0 sizeOf44 (one_cons rfl (one_cons rfl (one_cons (rep_one aO) one_nil))) rfl λw hm=>gE (gS (gR (gF fo_44_2 rfl (gL hm 0 isAgg42 rfl (gM rfl (gg λaA bF ah=>?_))))))))
  obtain ⟨aF,aG,aH,he⟩:=idx_form' aO ah
  subst he
  obtain ⟨aL,aN,aQ,bG,aR,aS,aP⟩:=rk_Block_ aO ah
  refine gI st_42 bF (idx_lt ah) rfl (gY (yn (bG.mono hm.lez) isAgg49 sizeOf49 rfl) (gAl hm zeroValue49 rfl λaD w hm=>gSN hm 0 sizeOf49 (one_cons (rep_one aR) (one_cons (rep_one aS) (one_cons rfl (one_cons rfl (one_cons (rep_one aP) one_nil))))) rfl λw hm=>gE (gS (gR (gA rfl (gE (gS (gS (gR (gF fo_49_2 rfl (gL hm 0 isAgg3 rfl (gE (gJge (λaZ a w=>0≤aA.jump∧aA.jump≤3∧0≤aZ∧aZ≤2∧St 136 [(1,(nV k_)),(2,(nV b_)),(3,(pV aE)),(7,(pV aC)),(8,(pV aD)),(9,(nV aZ))] w0 (hp w0) [blk aE [sV aI aJ u.codes.length aK] 28,blk aC [nV aB.params,nV aB.regs,sV aF aG aB.blocks.length aH] 44,blk aD [aL,aN,nV aA.jump,nV aA.on,aQ] 49] a w) (λbt au=>?_) ?_)))))))))))))
  ·refine gBk (gS (gR (gB rfl (gA rfl (gE (gJge (fun aa a w => 0 ≤ aA.jump ∧ aA.jump ≤ 3 ∧ 0 ≤ aa ∧ aa ≤ 2 ∧ St 136 [(1, (nV k_)), (2, (nV b_)), (3, (pV aE)), (7, (pV aC)), (8, (pV aD)), (9, (nV aa))] w0 (hp w0) [blk aE [sV aI aJ u.codes.length aK] 28, blk aC [nV aB.params, nV aB.regs, sV aF aG aB.blocks.length aH] 44, blk aD [aL, aN, nV aA.jump, nV aA.on, aQ] 49] a w) (fun bu av => ?_) ?_))))))
   ·refine gsd 26 rfl (fun bH => ?_) fun bH => ?_
    ·refine gct rfl (gS (gR (gF fo_49_3 rfl (gL hm 0 isAgg3 rfl (gB rfl (gE (gsd 30 rfl (fun bJ => ?_) fun bJ => ?_)))))))
     ·exact gct rfl (gS (gR (gA rfl (gE (gRt (gEr av (gEr au (gr1 results49 rfl ⟨rfl,hm.below⟩))))))))
     exact gcf rfl (gSk (gZe λa hf=>⟨(by first | omega | (dsimp only;omega)),(by first | omega | (dsimp only;omega)),(by first | omega | (dsimp only;omega)),(by first | omega | (dsimp only;omega)),hf.sb rfl,hm.pk [2,1,0] rfl rfl⟩))
    refine gcf rfl (gS (gR (gB rfl (gA rfl (gE (gJge (λab a w=>0≤aA.jump∧aA.jump≤3∧0≤ab∧ab≤2∧St 136 [(1,(nV k_)),(2,(nV b_)),(3,(pV aE)),(7,(pV aC)),(8,(pV aD)),(9,(nV ab))] w0 (hp w0) [blk aE [sV aI aJ u.codes.length aK] 28,blk aC [nV aB.params,nV aB.regs,sV aF aG aB.blocks.length aH] 44,blk aD [aL,aN,nV aA.jump,nV aA.on,aQ] 49] a w) (λbv bK=>?_) ?_))))))
    ·refine gsd 31 rfl (fun bL => ?_) fun bL => ?_
     ·exact gct rfl (gR (gA rfl (gE (gZe λa hf=>⟨(by first | omega | (dsimp only;omega)),(by first | omega | (dsimp only;omega)),(by first | omega | (dsimp only;omega)),(by first | omega | (dsimp only;omega)),hf.sb rfl,hm.pk [2,1,0] rfl rfl⟩))))
     refine gcf rfl (gS (gR (gB rfl (gA rfl (gE (gsd 33 rfl (λbM=>?_) λbM=>?_))))))
     ·exact gct rfl (gR (gA rfl (gE (gZe λa hf=>⟨(by first | omega | (dsimp only;omega)),(by first | omega | (dsimp only;omega)),(by first | omega | (dsimp only;omega)),(by first | omega | (dsimp only;omega)),hf.sb rfl,hm.pk [2,1,0] rfl rfl⟩))))
     exact gcf rfl (gS (gR (gA rfl (gE (gRt (gEr bK (gEr av (gEr au (gr1 results49 rfl ⟨rfl,hm.below⟩)))))))))
    repeat clear hm
    rintro ab a w ⟨bx,bz,cA,cB,hf,hm⟩
    exact gv hf (gZe λa hf=>⟨(by first | omega | (dsimp only;omega)),(by first | omega | (dsimp only;omega)),(by first | omega | (dsimp only;omega)),(by first | omega | (dsimp only;omega)),hf.sb rfl,hm.pk [0,1,2] rfl rfl⟩)
   repeat clear hm
   rintro aa a w ⟨cC,cD,cE,cF,hf,hm⟩
   exact gv hf (gZe λa hf=>⟨(by first | omega | (dsimp only;omega)),(by first | omega | (dsimp only;omega)),(by first | omega | (dsimp only;omega)),(by first | omega | (dsimp only;omega)),hf.sb rfl,hm.pk [0,1,2] rfl rfl⟩)
  repeat clear hm
  rintro aZ a w ⟨cG,cH,cI,cJ,hf,hm⟩
  refine gv hf (gS (gS (gJg (λai a w=>0≤aA.jump∧aA.jump≤3∧St 136 [(1,(nV k_)),(2,(nV b_)),(3,(pV aE)),(7,(pV aC)),(8,(pV aD)),(53,(.bool (ai)))] w0 (hp w0) [blk aE [sV aI aJ u.codes.length aK] 28,blk aC [nV aB.params,nV aB.regs,sV aF aG aB.blocks.length aH] 44,blk aD [aL,aN,nV aA.jump,nV aA.on,aQ] 49] a w) (λai=>?_) ?_)))
  ·refine gR (gF fo_49_4 rfl (gL hm 2 isAgg47 rfl ?_))
   obtain ⟨cK,cL,rfl,cM⟩:=ro_slice aP
   refine gY (yV st_47 rfl) (gM rfl (gB rfl (gM rfl (gsd 40 rfl (λbN=>?_) λbN=>?_))))
   ·exact gO rfl (gO rfl (gO rfl (gO rfl (gO rfl (gO rfl (gO rfl (gO rfl (gO rfl (gO rfl (gO rfl (gO rfl (gKt rfl (gE (gZ λa hf=>⟨(by first | omega | (dsimp only;omega)),(by first | omega | (dsimp only;omega)),hf.sb rfl,hm.pk [0,1,2] rfl rfl⟩))))))))))))))
   refine gF fo_49_2 rfl (gL hm 2 isAgg3 rfl (gB rfl (gM rfl (gsd 44 rfl (λbO=>?_) λbO=>?_))))
   ·exact gF fo_49_3 rfl (gL hm 2 isAgg3 rfl (gF fo_44_1 rfl (gL hm 1 isAgg3 rfl (gB rfl (gC hm rfl call19 (spec_l1In_ok _ aA.on 0 (w64 (aB.regs - 1))) λcN cO w hm=>gN rfl (gKt rfl (gKf rfl (gE (gZ λa hf=>⟨(by first | omega | (dsimp only;omega)),(by first | omega | (dsimp only;omega)),hf.sb rfl,hm.pk [0,1,2] rfl rfl⟩)))))))))
   exact gO rfl (gO rfl (gO rfl (gO rfl (gO rfl (gO rfl (gO rfl (gKf rfl (gKf rfl (gE (gZ λa hf=>⟨(by first | omega | (dsimp only;omega)),(by first | omega | (dsimp only;omega)),hf.sb rfl,hm.pk [0,1,2] rfl rfl⟩))))))))))
  repeat clear hm
  rintro ai a w ⟨cP,cQ,hf,hm⟩
  refine gv hf (gs 53 rfl (λbP=>?_) λbP=>?_)
  ·exact gct rfl (gS (gR (gA rfl (gE (gRt (gr1 results49 rfl ⟨rfl,hm.below⟩))))))
  refine gcf rfl (gSk (gS (gS (gR (gA rfl (gE (gBk (gNf hm (λaj aw=>[(1,(nV k_)),(2,(nV b_)),(3,(pV aE)),(7,(pV aC)),(8,(pV aD)),(10,(nV aj))]) (λaj aw=>[blk aE [sV aI aJ u.codes.length aK] 28,blk aC [nV aB.params,nV aB.regs,sV aF aG aB.blocks.length aH] 44,blk aD [aL,aN,nV aA.jump,nV aA.on,aQ] 49]) [0,1,2] rfl ?_ ?_))))))))
  ·repeat clear hm
   intro cR bQ aj aw w hm cS cT cU bR
   refine gS (gS (gR (gM rfl (gF fo_49_4 rfl (gL hm 2 isAgg47 rfl ?_)))))
   obtain ⟨bS,bT,rfl,cV⟩:=ro_slice aP
   refine gY (yV st_47 rfl) (gB rfl (gE (go _ 58 rfl (decide_eq_true (by omega)) (gct rfl (gSk (gS (gBk (gS (gW (.p 0 (.p 2 (.p 5 (.q 1 (.p 3 (.q 4 (.e 6 (.p 7 (.p 8 (.e 9 (.p 10 .fin) .nil))) .nil))))))) [6] [0,2,3,5,7,8,10] hm [0,1,2] [blk aE [sV aI aJ u.codes.length aK] 28,blk aC [nV aB.params,nV aB.regs,sV aF aG aB.blocks.length aH] 44,blk aD [aL,aN,nV aA.jump,nV aA.on,.slice bS aA.next_.length bT] 49] rfl mxo (by kernel_rfl) (λ_ _ _ h=>h.2) λw hm hS=>tP rfl (λw=>yF fo_49_4 rfl) (tP rfl (λw=>yM rfl) (tP rfl (λw=>yF fo_44_2 rfl) (tQ rfl hS (λw hm=>yL hm 2 isAgg47 rfl) (gg λax bU ak=>?_)))))))))))))
   obtain ⟨cW,cX,cY,he⟩:=idx_form aP ak
   obtain ⟨rfl,_,rfl⟩:=sl3 he
   refine tP rfl (λw=>yI st_47 bU (idx_lt ak) rfl) (tQ rfl hS (λw hm=>yl isAgg3 ((flat_cells (cs:=[nV ax]) (hm.now aP) ak rfl).cell (j:=0) rfl) rfl) (tO (tY rfl (yL hm 1 isAgg42 rfl) (tAs hS ?_))))
   have cZ:=rep_len aO
   refine tP rfl (λw=>yV st_42 rfl) (tP rfl (λw=>yS (by omega) (by omega) rfl) (tO (gb λc4 bV=>tf rfl rfl (λa hf=>e_call hf rfl call19 rfl (spec_l1In_ok _ ax 1 (((aB.blocks.length:Int)) - 1) _ bV)) ?_)))
   rintro c5 w ⟨rfl,hB⟩
   replace hm:=hm.below' hB;clear hB
   refine tAn rfl (tP rfl (λw=>yN rfl) (tE (gsn 71 rfl (λbW=>?_) λbW=>?_)))
   ·exact gct rfl (gS (gR (gA rfl (gE (gRt (gLr bR bQ (gr1 results49 rfl ⟨rfl,hm.below⟩)))))))
   exact gcf rfl (gSk (gR (gM rfl (gP (by omega) (by omega) rfl (gA rfl (gE (gze hm [0,1,2] rfl)))))))
  repeat clear hm
  intro c6 c7 w hm c8 c9
  refine gS (gS (gR (gM rfl (gF fo_49_4 rfl (gL hm 2 isAgg47 rfl ?_)))))
  obtain ⟨aT,aV,rfl,ca⟩:=ro_slice aP
  refine gY (yV st_47 rfl) (gB rfl (gE (go _ 58 rfl (decide_eq_false (by omega)) (gcf rfl (gXt (gHh (gS (gS (gR (gA rfl (gE (gBk (gNf hm (λal ay=>[(1,(nV k_)),(2,(nV b_)),(3,(pV aE)),(7,(pV aC)),(8,(pV aD)),(11,(nV al))]) (λal ay=>[blk aE [sV aI aJ u.codes.length aK] 28,blk aC [nV aB.params,nV aB.regs,sV aF aG aB.blocks.length aH] 44,blk aD [aL,aN,nV aA.jump,nV aA.on,.slice aT aA.next_.length aV] 49]) [0,1,2] rfl ?_ ?_)))))))))))))
  ·repeat clear hm
   intro cb bX al ay w hm cd ce cf bY
   refine gS (gS (gR (gM rfl (gF fo_49_1 rfl (gL hm 2 isAgg46 rfl ?_)))))
   obtain ⟨bZ,b6,rfl,cg⟩:=ro_slice aS
   refine gY (yV st_46 rfl) (gB rfl (gE (go _ 76 rfl (decide_eq_true (by omega)) (gct rfl (gSk (gS (gBk (gS (gW (.p 1 (.p 2 (.p 4 (.q 0 (.e 3 (.p 5 (.e 6 (.e 7 (.p 8 .fin) .nil) .nil)) .nil))))) [3,6] [1,2,4,5,8] hm [0,1,2] [blk aE [sV aI aJ u.codes.length aK] 28,blk aC [nV aB.params,nV aB.regs,sV aF aG aB.blocks.length aH] 44,blk aD [aL,.slice bZ aA.ins.length b6,nV aA.jump,nV aA.on,.slice aT aA.next_.length aV] 49] rfl mxo (by kernel_rfl) (λ_ _ _ h=>h.2) λw hm hS=>tP rfl (λw=>yM rfl) (tP rfl (λw=>yF fo_49_1 rfl) (tP rfl (λw=>yM rfl) (tQ rfl hS (λw hm=>yn (hm.blk_at 0 rfl) isAgg28 sizeOf28 rfl) (tO (tY rfl (yL hm 2 isAgg46 rfl) (tAs hS (gg λb7 b8 am=>?_))))))))))))))))
   obtain ⟨ci,cj,ck,he⟩:=idx_form' aS am
   obtain ⟨rfl,_,rfl⟩:=sl3 he
   obtain ⟨b9,ba,bc⟩:=rk_Ins_ aS am
   refine tP rfl (λw=>yI st_46 b8 (idx_lt am) rfl) (tO (tY rfl (yn (ba.mono hm.lez) isAgg51 sizeOf51 rfl) (tAs hS (tO (gb λcl bd=>tf rfl rfl (λa hf=>e_call hf rfl call85 rfl (spec_l7Ins_ok _ u (sV aI aJ u.codes.length aK) (hm.now h1) k_ b7 b9 (hm.now bc) _ bd)) ?_)))))
   rintro cm w ⟨rfl,hB⟩
   replace hm:=hm.below' hB;clear hB
   refine tAn rfl (tP rfl (λw=>yN rfl) (tE (gsn 87 rfl (λbe=>?_) λbe=>?_)))
   ·exact gct rfl (gS (gR (gA rfl (gE (gRt (gLr bY bX (gr1 results49 rfl ⟨rfl,hm.below⟩)))))))
   exact gcf rfl (gSk (gR (gM rfl (gP (by omega) (by omega) rfl (gA rfl (gE (gze hm [0,1,2] rfl)))))))
  repeat clear hm
  intro cn co w hm cq cr
  refine gS (gS (gR (gM rfl (gF fo_49_1 rfl (gL hm 2 isAgg46 rfl ?_)))))
  obtain ⟨an,ao,rfl,ct⟩:=ro_slice aS
  refine gY (yV st_46 rfl) (gB rfl (gE (go _ 76 rfl (decide_eq_false (by omega)) (gcf rfl (gXt (gHh (gS (gR (gY (yn (hm.blk_at 1 rfl) isAgg44 sizeOf44 rfl) (gM rfl (gCg rfl call83 (spec_l7Preds_ok _ aB (sV aF aG aB.blocks.length aH) (hm.now aO) b_) ?_)))))))))))
  rintro aM cu cv w ⟨_,rfl,hB⟩
  replace hm:=hm.give hB;clear hB
  refine gA rfl (gE (gS (gS (gR (gA rfl (gE ?_))))))
  obtain ⟨aW,aX,rfl,cw⟩:=ro_slice (hm.ow_rep 0 rfl)
  refine gBk (gNf hm (λac az=>[(2,(nV b_)),(7,(pV aC)),(8,(pV aD)),(12,(.slice aW aM.length aX)),(13,(nV ac))]) (λac az=>[blk aC [nV aB.params,nV aB.regs,sV aF aG aB.blocks.length aH] 44,blk aD [aL,.slice an aA.ins.length ao,nV aA.jump,nV aA.on,.slice aT aA.next_.length aV] 49,ow [.slice aW aM.length aX] aM]) [2,3,0] rfl ?_ ?_)
  ·repeat clear hm
   intro cx bf ac az w hm cy cz dA bg
   refine gS (gS (gR (gM rfl (gF fo_49_0 rfl (gL hm 1 isAgg45 rfl ?_)))))
   obtain ⟨bA,bB,rfl,dB⟩:=ro_slice aR
   refine gY (yV st_45 rfl) (gB rfl (gE (go _ 95 rfl (decide_eq_true (by omega)) (gct rfl (gSk (gS (gBk (gS (gJ hm (λae=>[(2,(nV b_)),(7,(pV aC)),(8,(pV aD)),(12,(.slice aW aM.length aX)),(13,(nV ac)),(135,(.bool (ae)))]) (λae=>[blk aC [nV aB.params,nV aB.regs,sV aF aG aB.blocks.length aH] 44,blk aD [.slice bA aA.phis.length bB,.slice an aA.ins.length ao,nV aA.jump,nV aA.on,.slice aT aA.next_.length aV] 49,ow [.slice aW aM.length aX] aM]) (λae=>?_) ?_)))))))))
   ·refine gW (.p 0 (.p 1 (.p 2 (.p 3 (.p 5 (.p 10 (.p 11 (.e 4 (.p 6 (.p 7 (.e 8 (.p 9 (.p 12 (.p 13 (.p 14 (.p 16 (.p 18 (.q 15 (.e 17 (.p 19 (.p 20 (.e 21 (.e 22 (.p 23 (.p 24 (.p 25 (.p 26 (.p 28 (.p 32 (.q 27 (.p 29 (.p 30 (.q 31 (.e 33 (.p 34 (.e 35 (.p 36 (.p 37 .fin)) .nil)) .nil))))))))))) .nil) .nil))) .nil)))))))) .nil))) .nil)))))))) [17, 21, 33] [0, 1, 2, 3, 5, 6, 7, 9, 10, 11, 12, 13, 14, 16, 18, 19, 20, 23, 24, 25, 26, 28, 29, 30, 32, 34, 36, 37] hm [0, 1, 2] [blk aC [nV aB.params, nV aB.regs, sV aF aG aB.blocks.length aH] 44, blk aD [.slice bA aA.phis.length bB, .slice an aA.ins.length ao, nV aA.jump, nV aA.on, .slice aT aA.next_.length aV] 49, ow [.slice aW aM.length aX] aM] rfl mxo (by kernel_rfl) (fun _ _ _ h => h.2) fun w hm hS => tP rfl (fun w => yM rfl) (tP rfl (fun w => yB rfl) (tP rfl (fun w => yM rfl) (gsd 100 rfl (fun bh => ?_) fun bh => ?_)))
    ·refine tPo rfl rfl (tPo rfl rfl (tPo rfl rfl (tPo rfl rfl (tO (tEo rfl rfl (tAn rfl (tPo rfl rfl (tPo rfl rfl (tO (tEo rfl rfl (tAn rfl (tPo rfl rfl (tPo rfl rfl (tP rfl (fun w => yKt rfl) (tP rfl (fun w => yM rfl) (tPo rfl rfl (tPo rfl rfl (tQo rfl hS rfl (tO (tEo rfl rfl (tAs hS (tPo rfl rfl (tPo rfl rfl (tO (tEo rfl rfl (tAs hS (tO (tEo rfl rfl (tAn rfl (tPo rfl rfl ?_))))))))))))))))))))))))))))))
     exact tP rfl (λw=>yKt rfl) (tP rfl (λw=>yM rfl) (tPo rfl rfl (tPo rfl rfl (tPo rfl rfl (tQo rfl hS rfl (tPo rfl rfl (tPo rfl rfl (tQo rfl hS rfl (tO (tEo rfl rfl (tAs hS (tPo rfl rfl (tO (tEo rfl rfl (tAn rfl (tPo rfl rfl (tP rfl (λw=>yKt rfl) (tE (gz hm [0,1,2] rfl)))))))))))))))))))
    refine tP rfl (λw=>yF fo_49_0 rfl) (tP rfl (λw=>yM rfl) (tP rfl (λw=>yM rfl) (tP rfl (λw=>yV st_47 rfl) (tO (tY rfl (yL hm 1 isAgg45 rfl) (tAn rfl (gg λap aq aY=>?_)))))))
    obtain ⟨dC,dD,dE,he⟩:=idx_form' aR aY
    obtain ⟨rfl,_,rfl⟩:=sl3 he
    obtain ⟨dF,ar,bC⟩:=rk_Phi_ aR aY
    refine tP rfl (λw=>yI st_45 aq (idx_lt aY) rfl) (tP rfl (λw=>yF fo_105_1 rfl) (tO (tY rfl (yl isAgg47 ((ar.mono hm.lez).cell (j:=1) rfl) rfl) (tAn rfl ?_))))
    obtain ⟨bi,bj,rfl,dG⟩:=ro_slice bC
    refine tP rfl (λw=>yV st_47 rfl) (tP rfl (λw=>yB rfl) (tP rfl (λw=>yKf rfl) (tP rfl (λw=>yM rfl) (gsd 112 rfl (λbk=>?_) λbk=>?_))))
    ·refine tPo rfl rfl (tPo rfl rfl (tQo rfl hS rfl (tO (tEo rfl rfl (tAs hS (tPo rfl rfl (tPo rfl rfl (tO (tEo rfl rfl (tAs hS (tO (tEo rfl rfl (tAn rfl (tPo rfl rfl (tP rfl (fun w => yKt rfl) (tP rfl (fun w => yM rfl) (tPo rfl rfl (tPo rfl rfl (tPo rfl rfl (tQo rfl hS rfl (tPo rfl rfl (tPo rfl rfl (tQo rfl hS rfl (tO (tEo rfl rfl (tAs hS (tPo rfl rfl (tO (tEo rfl rfl (tAn rfl ?_))))))))))))))))))))))))))))))
     exact tPo rfl rfl (tP rfl (λw=>yKt rfl) (tE (gz hm [0,1,2] rfl)))
    refine tP rfl (λw=>yF fo_49_0 rfl) (tP rfl (λw=>yM rfl) (tQ rfl hS (λw hm=>yn (hm.blk_at 0 rfl) isAgg44 sizeOf44 rfl) (tO (tY rfl (yL hm 1 isAgg45 rfl) (tAs hS (tP rfl (λw=>yI st_45 aq (idx_lt aY) rfl) (tP rfl (λw=>yF fo_105_1 rfl) (tO (tY rfl (yl isAgg47 ((ar.mono hm.lez).cell (j:=1) rfl) rfl) (tAs hS (tO (gb λdH bm=>tf rfl rfl (λa hf=>e_call hf rfl call86 rfl (spec_l7Regs_ok _ aB (sV aF aG aB.blocks.length aH) (hm.now aO) ap.args (.slice bi ap.args.length bj) (hm.now bC) _ bm)) ?_))))))))))))
    rintro dI w ⟨rfl,hB⟩
    replace hm:=hm.below' hB;clear hB
    refine tAk hm [0,1,2] rfl λhS=>tP rfl (λw=>yN rfl) (tP rfl (λw=>yKf rfl) (tP rfl (λw=>yM rfl) (gsn 123 rfl (λbp=>?_) λbp=>?_)))
    ·exact tPo rfl rfl (tPo rfl rfl (tPo rfl rfl (tQo rfl hS rfl (tPo rfl rfl (tPo rfl rfl (tQo rfl hS rfl (tO (tEo rfl rfl (tAs hS (tPo rfl rfl (tO (tEo rfl rfl (tAn rfl (tPo rfl rfl (tP rfl (λw=>yKt rfl) (tE (gz hm [0,1,2] rfl)))))))))))))))))
    refine tP rfl (λw=>yF fo_49_0 rfl) (tP rfl (λw=>yM rfl) (tP rfl (λw=>yF fo_44_1 rfl) (tQ rfl hS (λw hm=>yL hm 1 isAgg45 rfl) (tP rfl (λw=>yI st_45 aq (idx_lt aY) rfl) (tP rfl (λw=>yF fo_105_0 rfl) (tQ rfl hS (λw hm=>yl isAgg3 ((ar.mono hm.lez).cell (j:=0) rfl) rfl) (tO (tY rfl (yL hm 0 isAgg3 rfl) (tAs hS (tP rfl (λw=>yB rfl) (tO (gb λdJ bq=>tf rfl rfl (λa hf=>e_call hf rfl call19 rfl (spec_l1In_ok _ ap.to 0 (w64 (aB.regs - 1)) _ bq)) ?_))))))))))))
    rintro dK w ⟨rfl,hB⟩
    replace hm:=hm.below' hB;clear hB
    exact tAn rfl (tP rfl (λw=>yN rfl) (tP rfl (λw=>yKf rfl) (tE (gz hm [0,1,2] rfl))))
   repeat clear hm
   intro ae w hm
   refine gs 135 rfl (λbr=>?_) λbr=>?_
   ·exact gct rfl (gS (gR (gA rfl (gE (gRt (gLr bg bf (gr1 results49 rfl ⟨rfl,hm.below⟩)))))))
   exact gcf rfl (gSk (gR (gM rfl (gP (by omega) (by omega) rfl (gA rfl (gE (gze hm [0,1,2] rfl)))))))
  repeat clear hm
  intro dL dM w hm dN dO
  refine gS (gS (gR (gM rfl (gF fo_49_0 rfl (gL hm 1 isAgg45 rfl ?_)))))
  obtain ⟨dP,dQ,rfl,dR⟩:=ro_slice aR
  exact gY (yV st_45 rfl) (gB rfl (gE (go _ 95 rfl (decide_eq_false (by omega)) (gcf rfl (gXt (gHh (gS (gR (gA rfl (gE (gRt (gr1 results49 rfl ⟨rfl,hm.below⟩))))))))))))
theorem spec_UnitValid_ok (w0 : World) (u : Unit_) (v1 : Value) (h1 : GT.rep (hp w0) [v1] u.codes) :
    ConM Tryz.prog 22 [(.agg #[v1])] w0 (spec_UnitValid u) λr v w'=>v=(.bool (r))∧Below w0.heap.size w0 w':=by
  unfold spec_UnitValid
  refine gcon func22 rfl λr=>?_
  have hm:=Mem.start w0
  refine gS (gR (gBx hm rfl λaB w hm=>gA rfl (gE (gS (gS (gR (gF fo_28_0 rfl (gL hm 0 isAgg26 rfl ?_))))))))
  obtain ⟨aX,aE,rfl,ap⟩:=ro_slice h1
  refine gY (yV st_26 rfl) (gC hm rfl call19 (spec_l1In_ok _ (u.codes.length:Int) 1 4) λaq ar w hm=>gN rfl (gE (gsn 11 rfl (λaY=>?_) λaY=>?_)))
  ·exact gct rfl (gS (gR (gA rfl (gE (gRt (gr1 results22 rfl ⟨rfl,hm.below⟩))))))
  refine gcf rfl (gSk (gS (gR (gA rfl (gE (gS (gS (gR (gA rfl (gE (gBk (gNf hm (λaC aJ=>[(1,(pV aB)),(3,(nV aJ)),(4,(nV aC))]) (λaC aJ=>[blk aB [.slice aX u.codes.length aE] 28]) [0] rfl ?_ ?_))))))))))))
  ·repeat clear hm
   intro au aP aC aJ w hm av aw ax aQ
   refine gS (gS (gR (gM rfl (gF fo_28_0 rfl (gL hm 0 isAgg26 rfl (gY (yV st_26 rfl) (gB rfl (gE (go _ 16 rfl (decide_eq_true (by omega)) (gct rfl (gSk (gS (gBk (gS (gR (gF fo_28_0 rfl (gL hm 0 isAgg26 rfl (gM rfl (gg λaA aZ aO=>?_)))))))))))))))))))
   obtain ⟨aG,aH,ay,he⟩:=idx_form' h1 aO
   obtain ⟨rfl,_,rfl⟩:=sl3 he
   obtain ⟨aR,aa,aF⟩:=rk_Code_ h1 aO
   refine gI st_26 aZ (idx_lt aO) rfl (gY (yn (aa.mono hm.lez) isAgg44 sizeOf44 rfl) (gAl hm zeroValue44 rfl λaD w hm=>gSN hm 0 sizeOf44 (one_cons rfl (one_cons rfl (one_cons (rep_one aF) one_nil))) rfl λw hm=>gE (gS (gS (gJ hm (λaK=>[(1,(pV aB)),(3,(nV aJ)),(4,(nV aC)),(5,(pV aD)),(42,(.bool (aK)))]) (λaK=>[blk aB [sV aG aH u.codes.length aE] 28,blk aD [nV aA.params,nV aA.regs,aR] 44]) (λaK=>?_) ?_)))))
   ·refine gR (gF fo_44_0 rfl (gL hm 0 isAgg3 rfl (gC hm rfl call19 (spec_l1In_ok _ aA.params 0 3) fun az bA w hm => gN rfl (gM rfl (gsn 28 rfl (fun ab => ?_) fun ab => ?_)))))
    ·exact gO rfl (gO rfl (gO rfl (gO rfl (gO rfl (gO rfl (gKt rfl (gM rfl (gO rfl (gO rfl (gO rfl (gO rfl (gO rfl (gKt rfl (gE (gz hm [1,0] rfl)))))))))))))))
    refine gF fo_44_1 rfl (gL hm 0 isAgg3 rfl (gF fo_44_0 rfl (gL hm 0 isAgg3 rfl (gC hm rfl call19 (spec_l1In_ok _ aA.regs aA.params 300) λbB bC w hm=>gN rfl (gKf rfl (gM rfl (gsn 36 rfl (λac=>?_) λac=>?_)))))))
    ·exact gO rfl (gO rfl (gO rfl (gO rfl (gO rfl (gKt rfl (gE (gz hm [1,0] rfl)))))))
    refine gF fo_44_2 rfl (gL hm 0 isAgg42 rfl ?_)
    obtain ⟨bD,bE,rfl,bF⟩:=ro_slice aF
    exact gY (yV st_42 rfl) (gC hm rfl call19 (spec_l1In_ok _ (aA.blocks.length:Int) 1 160) λbG bH w hm=>gN rfl (gKf rfl (gE (gz hm [1,0] rfl))))
   repeat clear hm
   intro aK w hm
   refine gs 42 rfl (λae=>?_) λae=>?_
   ·exact gct rfl (gS (gR (gA rfl (gE (gRt (gLr aQ aP (gr1 results22 rfl ⟨rfl,hm.below⟩)))))))
   refine gcf rfl (gSk (gS (gR (gA rfl (gE (gBk (gNf hm (λaI aL=>[(1,(pV aB)),(3,(nV aL)),(4,(nV aC)),(5,(pV aD)),(6,(nV aI))]) (λaI aL=>[blk aB [sV aG aH u.codes.length aE] 28,blk aD [nV aA.params,nV aA.regs,aR] 44]) [0,1] rfl ?_ ?_)))))))
   ·repeat clear hm
    intro bJ af aI aL w hm bK bL bM ah
    refine gS (gS (gR (gM rfl (gF fo_44_2 rfl (gL hm 1 isAgg42 rfl ?_)))))
    obtain ⟨ai,aS,rfl,bN⟩:=ro_slice aF
    refine gY (yV st_42 rfl) (gB rfl (gE (go _ 47 rfl (decide_eq_true (by omega)) (gct rfl (gSk (gS (gBk (gS (gW (.p 0 (.p 1 (.p 3 (.p 9 (.p 11 (.q 2 (.p 4 (.p 5 (.q 6 (.p 7 (.p 8 (.e 10 (.p 12 (.p 13 (.e 14 (.p 15 (.p 16 (.p 17 .fin))) .nil))) .nil)))))))))))) [10,14] [0,1,3,4,5,7,8,9,11,12,13,15,16,17] hm [0,1] [blk aB [sV aG aH u.codes.length aE] 28,blk aD [nV aA.params,nV aA.regs,.slice ai aA.blocks.length aS] 44] rfl mxo (by kernel_rfl) (λ_ _ _ h=>h.2) λw hm hS=>tP rfl (λw=>yM rfl) (tP rfl (λw=>yF fo_44_2 rfl) (tP rfl (λw=>yM rfl) (tP rfl (λw=>yF fo_44_2 rfl) (tP rfl (λw=>yM rfl) (tQ rfl hS (λw hm=>yL hm 1 isAgg42 rfl) (gg λaT aV aM=>?_)))))))))))))))
    obtain ⟨aj,ak,bO,he⟩:=idx_form' aF aM
    obtain ⟨rfl,_,rfl⟩:=sl3 he
    obtain ⟨bP,bQ,bR,aW,al,am,bS⟩:=rk_Block_ aF aM
    refine tP rfl (λw=>yI st_42 aV (idx_lt aM) rfl) (tP rfl (λw=>yF fo_49_1 rfl) (tQ rfl hS (λw hm=>yl isAgg46 ((aW.mono hm.lez).cell (j:=1) rfl) rfl) ?_))
    obtain ⟨bT,bU,rfl,bV⟩:=ro_slice am
    refine tP rfl (λw=>yV st_46 rfl) (tP rfl (λw=>yB rfl) (tO (tY rfl (yL hm 1 isAgg42 rfl) (tAs hS (tP rfl (λw=>yI st_42 aV (idx_lt aM) rfl) (tP rfl (λw=>yF fo_49_0 rfl) (tO (tY rfl (yl isAgg45 ((aW.mono hm.lez).cell (j:=0) rfl) rfl) (tAs hS ?_)))))))))
    obtain ⟨bW,bX,rfl,bY⟩:=ro_slice al
    refine tP rfl (λw=>yV st_45 rfl) (tP rfl (λw=>yB rfl) (tP rfl (λw=>yA rfl) (tE (gS (gJ hm (λaN=>[(1,(pV aB)),(3,(nV (w64 ((w64 (aL+((aT.ins.length:Int))))+((aT.phis.length:Int)))))),(4,(nV aC)),(5,(pV aD)),(6,(nV aI)),(75,(.bool (aN)))]) (λaN=>[blk aB [sV aG aH u.codes.length aE] 28,blk aD [nV aA.params,nV aA.regs,sV aj ak aA.blocks.length aS] 44]) (λaN=>?_) ?_)))))
    ·refine gR (gM rfl (gB rfl (gM rfl (gsd 69 rfl (fun an => ?_) fun an => ?_))))
     ·exact gO rfl (gO rfl (gO rfl (gO rfl (gO rfl (gKt rfl (gE (gz hm [0,1] rfl)))))))
     exact gY (yn (hm.blk_at 0 rfl) isAgg28 sizeOf28 rfl) (gM rfl (gM rfl (gC hm rfl call49 (spec_l7Block_ok _ u (sV aG aH u.codes.length aE) (hm.now h1) aC aI) λbZ b6 w hm=>gN rfl (gKf rfl (gE (gz hm [0,1] rfl))))))
    repeat clear hm
    intro aN w hm
    refine gs 75 rfl (λao=>?_) λao=>?_
    ·exact gct rfl (gS (gR (gA rfl (gE (gRt (gLr ah af (gLr aQ aP (gr1 results22 rfl ⟨rfl,hm.below⟩))))))))
    exact gcf rfl (gSk (gR (gM rfl (gP (by omega) (by omega) rfl (gA rfl (gE (gze hm [0,1] rfl)))))))
   repeat clear hm
   intro b7 b8 w hm b9 ba
   refine gS (gS (gR (gM rfl (gF fo_44_2 rfl (gL hm 1 isAgg42 rfl ?_)))))
   obtain ⟨bc,bd,rfl,be⟩:=ro_slice aF
   exact gY (yV st_42 rfl) (gB rfl (gE (go _ 47 rfl (decide_eq_false (by omega)) (gcf rfl (gXt (gHh (gR (gM rfl (gP (by omega) (by omega) rfl (gA rfl (gE (gze hm [0] rfl))))))))))))
  repeat clear hm
  intro bf bg w hm bh bi
  exact gS (gS (gR (gM rfl (gF fo_28_0 rfl (gL hm 0 isAgg26 rfl (gY (yV st_26 rfl) (gB rfl (gE (go _ 16 rfl (decide_eq_false (by omega)) (gcf rfl (gXt (gHh (gS (gR (gA rfl (gE (gRt (gr1 results22 rfl ⟨rfl,hm.below⟩))))))))))))))))))
abbrev od79_1:Go.Wk.Ord:=(.p 10 (.e 12 .fin .nil))
abbrev od79_2:Go.Wk.Ord:=(.p 10 (.e 11 (.e 12 .fin .nil) .nil))
abbrev od79_3:Go.Wk.Ord:=(.e 9 od79_2 (.e 11 (.e 9 od79_1 .nil) .nil))
abbrev od79_4:Go.Wk.Ord:=(.e 6 (.e 9 od79_1 .nil) .nil)
abbrev od79_5:Go.Wk.Ord:=(.e 1 od79_2 (.e 11 (.e 1 od79_1 .nil) .nil))
abbrev od79_6:Go.Wk.Ord:=(.e 1 (.e 9 od79_1 .nil) (.e 9 (.e 1 od79_1 .nil) .nil))
abbrev od79_7:Go.Wk.Ord:=(.e 0 od79_2 (.e 11 (.e 0 od79_1 .nil) .nil))
abbrev od79_8:Go.Wk.Ord:=(.e 0 (.e 9 od79_1 .nil) (.e 9 (.e 0 od79_1 .nil) .nil))
abbrev od79_9:Go.Wk.Ord:=(.e 0 (.e 1 od79_1 .nil) (.e 1 (.e 0 od79_1 .nil) .nil))
abbrev od79_10:Go.Wk.Ord:=(.e 6 od79_3 (.e 11 od79_4 .nil))
abbrev od79_11:Go.Wk.Ord:=(.e 1 od79_3 (.e 9 od79_5 (.e 11 od79_6 .nil)))
abbrev od79_12:Go.Wk.Ord:=(.e 1 od79_4 (.e 6 od79_6 .nil))
abbrev od79_13:Go.Wk.Ord:=(.e 0 od79_3 (.e 9 od79_7 (.e 11 od79_8 .nil)))
abbrev od79_14:Go.Wk.Ord:=(.e 0 od79_4 (.e 6 od79_8 .nil))
abbrev od79_15:Go.Wk.Ord:=(.e 0 od79_6 (.e 1 od79_8 (.e 9 od79_9 .nil)))
theorem spec_l7CopyBlock_ok (w0 : World) (b_ : Block_) (v1 : Value) (h1 : GT.rep (hp w0) [v1] b_.phis) (v2 : Value) (h2 : GT.rep (hp w0) [v2] b_.ins) (v3 : Value) (h3 : GT.rep (hp w0) [v3] b_.next_) :
    ConM Tryz.prog 79 [(.agg #[v1,v2,nV b_.jump,nV b_.on,v3])] w0 (spec_l7CopyBlock b_) λr v w'=>∃ (x1:Value) (x2:Value) (x3:Value),v=(.agg #[x1,x2,nV r.jump,nV r.on,x3])∧Mem w0 (hp w0) w' [ow [x1] r.phis,ow [x2] r.ins,ow [x3] r.next_]:=by
  unfold spec_l7CopyBlock
  refine gcon func79 rfl λr=>?_
  have hm:=Mem.start w0
  refine gS (gR (gBx hm rfl λaA w hm=>gAl hm zeroValue49 rfl λaB w hm=>gE (gS (gJg (λaE a w=>∃ (aM:Nat) (bg bh bi:Value),St 74 [(1,(pV aA)),(2,(pV aB)),(3,(pV aM))] w0 (hp w0) [blk aA [v1,v2,nV b_.jump,nV b_.on,v3] 49,blk aB [.slice none 0 0,.slice none 0 0,nV 0,nV 0,.slice none 0 0] 49,blk aM [bg,bh,nV b_.jump,nV b_.on,bi] 49,ow [bg] ([]:List Phi_),ow [bh] ([]:List Ins_),ow [bi] aE] a w) (λaE=>?_) ?_))))
  ·refine gW (.p 2 (.p 4 (.p 7 (.q 3 (.q 5 (.q 8 (.e 0 (.e 1 od79_10 (.e 6 od79_11 (.e 11 od79_12 .nil))) (.e 1 (.e 0 od79_10 (.e 6 od79_13 (.e 11 od79_14 .nil))) (.e 6 (.e 0 od79_11 (.e 1 od79_13 (.e 9 (.e 0 od79_5 (.e 1 od79_7 (.e 11 od79_9 .nil))) (.e 11 od79_15 .nil)))) (.e 11 (.e 0 od79_12 (.e 1 od79_14 (.e 6 od79_15 .nil))) .nil)))))))))) [0, 1, 3, 5, 6, 8, 9, 11] [2, 4, 7, 10] hm [0, 1] [blk aB [.slice none 0 0, .slice none 0 0, nV 0, nV 0, .slice none 0 0] 49, blk aA [v1, v2, nV b_.jump, nV b_.on, v3] 49] rfl mxo (by kernel_rfl) (fun _ _ _ h => h.2) fun w hm hS => tP rfl (fun w => yF fo_49_2 rfl) (tP rfl (fun w => yF fo_49_3 rfl) (tP rfl (fun w => yF fo_49_4 rfl) (tQ rfl hS (fun w hm => yL hm 1 isAgg3 rfl) (tQ rfl hS (fun w hm => yL hm 1 isAgg3 rfl) (tQ rfl hS (fun w hm => yL hm 1 isAgg47 rfl) (gb fun aJ aP => tSh ((.e 12 .fin .nil)) (fun a w => ∃ (bO : Nat) (bP bQ bR : Value), St 74 [(1, (pV aA)), (2, (pV aB)), (3, (pV bO)), (17, (.agg #[bP, bQ, nV b_.jump, nV b_.on, bR]))] w0 (hp w0) [blk aA [v1, v2, nV b_.jump, nV b_.on, v3] 49, blk aB [.slice none 0 0, .slice none 0 0, nV 0, nV 0, .slice none 0 0] 49, blk bO [.slice none 0 0, .slice none 0 0, nV 0, nV 0, .slice none 0 0] 49, ow [bP] ([] : List Phi_), ow [bQ] ([] : List Ins_), ow [bR] aJ] a w) ?_ fun hT2_1 => ?_))))))
   ·rintro a w ⟨bO, bP, bQ, bR, hf, hm⟩
    refine tSv hf hm [1,0] rfl λhS=>tO (tf0 rfl rfl (λa hf=>e_storeN 2 hf hm rfl sizeOf49 rfl rfl rfl (one_cons (rep_one (hm.ow_rep 3 rfl)) (one_cons (rep_one (hm.ow_rep 4 rfl)) (one_cons rfl (one_cons rfl (one_cons (rep_one (hm.ow_rep 5 rfl)) one_nil))))) rfl rfl) ?_)
    rintro _ w hm
    exact tAn rfl (tE (gZ λa hf=>⟨bO,bP,bQ,bR,hf.sb rfl,hm.pk [0,1,2,3,4,5] rfl rfl⟩))
   refine tSh (od79_1) (λa w=>∃ (bS:Nat) (bj bk bm:Value),St 74 [(1,(pV aA)),(2,(pV aB)),(3,(pV bS)),(7,bj),(8,bk),(10,(nV b_.jump)),(12,(nV b_.on)),(16,bm)] w0 (hp w0) [blk aA [v1,v2,nV b_.jump,nV b_.on,v3] 49,blk aB [.slice none 0 0,.slice none 0 0,nV 0,nV 0,.slice none 0 0] 49,blk bS [.slice none 0 0,.slice none 0 0,nV 0,nV 0,.slice none 0 0] 49,ow [bj] ([]:List Phi_),ow [bk] ([]:List Ins_),ow [bm] aJ] a w) ?_ λhT2_2=>?_
   ·rintro a w ⟨bS, bj, bk, bm, hf, hm⟩
    refine tSv hf hm [1,0] rfl λhS=>?_
    obtain ⟨aS,aT,rfl,cO⟩:=ro_slice (hm.ow_rep 3 rfl)
    obtain ⟨aV,aW,rfl,cP⟩:=ro_slice (hm.ow_rep 4 rfl)
    obtain ⟨aX,aY,rfl,cQ⟩:=ro_slice (hm.ow_rep 5 rfl)
    exact tP rfl (λw=>yG rfl (y_build (vs:=[(0,(.slice aS ([]:List Phi_).length aT)),(1,(.slice aV ([]:List Ins_).length aW)),(2,(nV b_.jump)),(3,(nV b_.on)),(4,(.slice aX aJ.length aY))]) (cs:=#[.slice aS ([]:List Phi_).length aT,.slice aV ([]:List Ins_).length aW,nV b_.jump,nV b_.on,.slice aX aJ.length aY]) rfl rfl (by kernel_rfl))) (tUse hT2_1 λa hf=>⟨bS,.slice aS ([]:List Phi_).length aT,.slice aV ([]:List Ins_).length aW,.slice aX aJ.length aY,hf.sb rfl,hm.pk [0,1,2,3,4,5] rfl rfl⟩)
   refine tSh ((.e 0 od79_1 .nil)) (λa w=>∃ (bT:Nat) (bU bV:Value),St 74 [(1,(pV aA)),(2,(pV aB)),(3,(pV bT)),(8,bU),(10,(nV b_.jump)),(12,(nV b_.on)),(16,bV)] w0 (hp w0) [blk aA [v1,v2,nV b_.jump,nV b_.on,v3] 49,blk aB [.slice none 0 0,.slice none 0 0,nV 0,nV 0,.slice none 0 0] 49,blk bT [.slice none 0 0,.slice none 0 0,nV 0,nV 0,.slice none 0 0] 49,ow [bU] ([]:List Ins_),ow [bV] aJ] a w) ?_ λhT2_3=>?_
   ·rintro a w ⟨bT, bU, bV, hf, hm⟩
    refine tSv hf hm [1,0] rfl λhS=>tO (tf rfl rfl (λa hf=>e_build0 (α:=Phi_) et_45 hm rfl) ?_)
    rintro aC w hm
    exact tAk hm [2,1] rfl λhS=>tUse hT2_2 λa hf=>⟨bT,aC,bU,bV,hf.sb rfl,hm.pk [1,2,3,0,4,5] rfl rfl⟩
   refine tSh ((.e 1 od79_1 .nil)) (λa w=>∃ (bW:Nat) (bX bY:Value),St 74 [(1,(pV aA)),(2,(pV aB)),(3,(pV bW)),(7,bX),(10,(nV b_.jump)),(12,(nV b_.on)),(16,bY)] w0 (hp w0) [blk aA [v1,v2,nV b_.jump,nV b_.on,v3] 49,blk aB [.slice none 0 0,.slice none 0 0,nV 0,nV 0,.slice none 0 0] 49,blk bW [.slice none 0 0,.slice none 0 0,nV 0,nV 0,.slice none 0 0] 49,ow [bX] ([]:List Phi_),ow [bY] aJ] a w) ?_ λhT2_4=>?_
   ·rintro a w ⟨bW, bX, bY, hf, hm⟩
    refine tSv hf hm [1,0] rfl λhS=>tO (tf rfl rfl (λa hf=>e_build0 (α:=Ins_) et_46 hm rfl) ?_)
    rintro aC w hm
    exact tAk hm [2,1] rfl λhS=>tUse hT2_2 λa hf=>⟨bW,bX,aC,bY,hf.sb rfl,hm.pk [1,2,3,4,0,5] rfl rfl⟩
   refine tSh ((.e 9 od79_1 .nil)) (λa w=>∃ (bZ:Nat) (b6 b7 bp:Value),St 74 [(1,(pV aA)),(2,(pV aB)),(3,(pV bZ)),(7,b6),(8,b7),(10,(nV b_.jump)),(12,(nV b_.on)),(13,bp),(15,v3)] w0 (hp w0) [blk aA [v1,v2,nV b_.jump,nV b_.on,v3] 49,blk aB [.slice none 0 0,.slice none 0 0,nV 0,nV 0,.slice none 0 0] 49,blk bZ [.slice none 0 0,.slice none 0 0,nV 0,nV 0,.slice none 0 0] 49,ow [b6] ([]:List Phi_),ow [b7] ([]:List Ins_),ow [bp] ([]:List Int)] a w) ?_ λhT2_5=>?_
   ·rintro a w ⟨bZ, b6, b7, bp, hf, hm⟩
    refine tSv hf hm [1,0] rfl λhS=>tO ?_
    obtain ⟨aG,aH⟩:=appM_some.1 aP
    refine tf rfl rfl (λa hf=>e_append 5 et_47 hf hm rfl (hm.now h3) rfl rfl rfl aG) ?_
    rintro aC w hm
    rw [aH] at hm
    exact tAk hm [1,0] rfl λhS=>tUse hT2_2 λa hf=>⟨bZ,b6,b7,aC,hf.sb rfl,hm.pk [0,1,2,3,4,5] rfl rfl⟩
   refine tSh (od79_2) (λa w=>∃ (bq br bs:Value),St 74 [(1,(pV aA)),(2,(pV aB)),(7,bq),(8,br),(10,(nV b_.jump)),(12,(nV b_.on)),(16,bs)] w0 (hp w0) [blk aA [v1,v2,nV b_.jump,nV b_.on,v3] 49,blk aB [.slice none 0 0,.slice none 0 0,nV 0,nV 0,.slice none 0 0] 49,ow [bq] ([]:List Phi_),ow [br] ([]:List Ins_),ow [bs] aJ] a w) ?_ λhT2_6=>?_
   ·rintro a w ⟨bq, br, bs, hf, hm⟩
    refine tSv hf hm [1,0] rfl λhS=>?_
    obtain ⟨aS,aT,rfl,cO⟩:=ro_slice (hm.ow_rep 2 rfl)
    obtain ⟨aV,aW,rfl,cP⟩:=ro_slice (hm.ow_rep 3 rfl)
    obtain ⟨aX,aY,rfl,cQ⟩:=ro_slice (hm.ow_rep 4 rfl)
    refine tP rfl (λw=>yG rfl (y_build (vs:=[(0,(.slice aS ([]:List Phi_).length aT)),(1,(.slice aV ([]:List Ins_).length aW)),(2,(nV b_.jump)),(3,(nV b_.on)),(4,(.slice aX aJ.length aY))]) (cs:=#[.slice aS ([]:List Phi_).length aT,.slice aV ([]:List Ins_).length aW,nV b_.jump,nV b_.on,.slice aX aJ.length aY]) rfl rfl (by kernel_rfl))) (tO (tf rfl rfl (λa hf=>e_alloc hm zeroValue49 rfl rfl) ?_))
    rintro _ w ⟨aI,rfl,hm⟩
    exact tAk hm [2,1] rfl λhS=>tUse hT2_1 λa hf=>⟨aI,.slice aS ([]:List Phi_).length aT,.slice aV ([]:List Ins_).length aW,.slice aX aJ.length aY,hf.sb rfl,hm.pk [1,2,0,3,4,5] rfl rfl⟩
   refine tSh (od79_9) (λa w=>∃ (ao:Nat) (ap:Value),St 74 [(1,(pV aA)),(2,(pV aB)),(3,(pV ao)),(10,(nV b_.jump)),(12,(nV b_.on)),(16,ap)] w0 (hp w0) [blk aA [v1,v2,nV b_.jump,nV b_.on,v3] 49,blk aB [.slice none 0 0,.slice none 0 0,nV 0,nV 0,.slice none 0 0] 49,blk ao [.slice none 0 0,.slice none 0 0,nV 0,nV 0,.slice none 0 0] 49,ow [ap] aJ] a w) ?_ λhT2_7=>?_
   ·rintro a w ⟨ao, ap, hf, hm⟩
    refine tSv hf hm [1,0] rfl λhS=>tMo ?_ ?_
    ·refine tf rfl rfl (fun a hf => e_build0 (α := Phi_) et_45 hm rfl) ?_
     rintro aC w hm
     exact tAk hm [2,1] rfl λhS=>tUse hT2_4 λa hf=>⟨ao,aC,ap,hf.sb rfl,hm.pk [1,2,3,0,4] rfl rfl⟩
    refine tO (tf rfl rfl (λa hf=>e_build0 (α:=Ins_) et_46 hm rfl) ?_)
    rintro aF w hm
    exact tAk hm [2,1] rfl λhS=>tUse hT2_3 λa hf=>⟨ao,aF,ap,hf.sb rfl,hm.pk [1,2,3,0,4] rfl rfl⟩
   refine tSh (od79_8) (λa w=>∃ (aq:Nat) (ar b8:Value),St 74 [(1,(pV aA)),(2,(pV aB)),(3,(pV aq)),(8,ar),(10,(nV b_.jump)),(12,(nV b_.on)),(13,b8),(15,v3)] w0 (hp w0) [blk aA [v1,v2,nV b_.jump,nV b_.on,v3] 49,blk aB [.slice none 0 0,.slice none 0 0,nV 0,nV 0,.slice none 0 0] 49,blk aq [.slice none 0 0,.slice none 0 0,nV 0,nV 0,.slice none 0 0] 49,ow [ar] ([]:List Ins_),ow [b8] ([]:List Int)] a w) ?_ λhT2_8=>?_
   ·rintro a w ⟨aq, ar, b8, hf, hm⟩
    refine tSv hf hm [1,0] rfl λhS=>tMo ?_ ?_
    ·refine tf rfl rfl (fun a hf => e_build0 (α := Phi_) et_45 hm rfl) ?_
     rintro aC w hm
     exact tAk hm [2,1] rfl λhS=>tUse hT2_5 λa hf=>⟨aq,aC,ar,b8,hf.sb rfl,hm.pk [1,2,3,0,4,5] rfl rfl⟩
    refine tO ?_
    obtain ⟨aG,aH⟩:=appM_some.1 aP
    refine tf rfl rfl (λa hf=>e_append 4 et_47 hf hm rfl (hm.now h3) rfl rfl rfl aG) ?_
    rintro aF w hm
    rw [aH] at hm
    exact tAk hm [1,0] rfl λhS=>tUse hT2_3 λa hf=>⟨aq,ar,aF,hf.sb rfl,hm.pk [0,1,2,3,4] rfl rfl⟩
   refine tSh (od79_7) (λa w=>∃ (au av:Value),St 74 [(1,(pV aA)),(2,(pV aB)),(8,au),(10,(nV b_.jump)),(12,(nV b_.on)),(16,av)] w0 (hp w0) [blk aA [v1,v2,nV b_.jump,nV b_.on,v3] 49,blk aB [.slice none 0 0,.slice none 0 0,nV 0,nV 0,.slice none 0 0] 49,ow [au] ([]:List Ins_),ow [av] aJ] a w) ?_ λhT2_9=>?_
   ·rintro a w ⟨au, av, hf, hm⟩
    refine tSv hf hm [1,0] rfl λhS=>tMo ?_ ?_
    ·refine tf rfl rfl (fun a hf => e_build0 (α := Phi_) et_45 hm rfl) ?_
     rintro aC w hm
     exact tAk hm [2,1] rfl λhS=>tUse hT2_6 λa hf=>⟨aC,au,av,hf.sb rfl,hm.pk [1,2,0,3,4] rfl rfl⟩
    refine tO (tf rfl rfl (λa hf=>e_alloc hm zeroValue49 rfl rfl) ?_)
    rintro _ w ⟨aI,rfl,hm⟩
    exact tAk hm [2,1] rfl λhS=>tUse hT2_3 λa hf=>⟨aI,au,av,hf.sb rfl,hm.pk [1,2,0,3,4] rfl rfl⟩
   refine tSh (od79_6) (λa w=>∃ (aw:Nat) (ax b9:Value),St 74 [(1,(pV aA)),(2,(pV aB)),(3,(pV aw)),(7,ax),(10,(nV b_.jump)),(12,(nV b_.on)),(13,b9),(15,v3)] w0 (hp w0) [blk aA [v1,v2,nV b_.jump,nV b_.on,v3] 49,blk aB [.slice none 0 0,.slice none 0 0,nV 0,nV 0,.slice none 0 0] 49,blk aw [.slice none 0 0,.slice none 0 0,nV 0,nV 0,.slice none 0 0] 49,ow [ax] ([]:List Phi_),ow [b9] ([]:List Int)] a w) ?_ λhT2_10=>?_
   ·rintro a w ⟨aw, ax, b9, hf, hm⟩
    refine tSv hf hm [1,0] rfl λhS=>tMo ?_ ?_
    ·refine tf rfl rfl (fun a hf => e_build0 (α := Ins_) et_46 hm rfl) ?_
     rintro aC w hm
     exact tAk hm [2,1] rfl λhS=>tUse hT2_5 λa hf=>⟨aw,ax,aC,b9,hf.sb rfl,hm.pk [1,2,3,4,0,5] rfl rfl⟩
    refine tO ?_
    obtain ⟨aG,aH⟩:=appM_some.1 aP
    refine tf rfl rfl (λa hf=>e_append 4 et_47 hf hm rfl (hm.now h3) rfl rfl rfl aG) ?_
    rintro aF w hm
    rw [aH] at hm
    exact tAk hm [1,0] rfl λhS=>tUse hT2_4 λa hf=>⟨aw,ax,aF,hf.sb rfl,hm.pk [0,1,2,3,4] rfl rfl⟩
   refine tSh (od79_5) (λa w=>∃ (ay az:Value),St 74 [(1,(pV aA)),(2,(pV aB)),(7,ay),(10,(nV b_.jump)),(12,(nV b_.on)),(16,az)] w0 (hp w0) [blk aA [v1,v2,nV b_.jump,nV b_.on,v3] 49,blk aB [.slice none 0 0,.slice none 0 0,nV 0,nV 0,.slice none 0 0] 49,ow [ay] ([]:List Phi_),ow [az] aJ] a w) ?_ λhT2_11=>?_
   ·rintro a w ⟨ay, az, hf, hm⟩
    refine tSv hf hm [1,0] rfl λhS=>tMo ?_ ?_
    ·refine tf rfl rfl (fun a hf => e_build0 (α := Ins_) et_46 hm rfl) ?_
     rintro aC w hm
     exact tAk hm [2,1] rfl λhS=>tUse hT2_6 λa hf=>⟨ay,aC,az,hf.sb rfl,hm.pk [1,2,3,0,4] rfl rfl⟩
    refine tO (tf rfl rfl (λa hf=>e_alloc hm zeroValue49 rfl rfl) ?_)
    rintro _ w ⟨aI,rfl,hm⟩
    exact tAk hm [2,1] rfl λhS=>tUse hT2_4 λa hf=>⟨aI,ay,az,hf.sb rfl,hm.pk [1,2,0,3,4] rfl rfl⟩
   refine tSh (od79_4) (λa w=>∃ (ba:Nat) (bc bd:Value),St 74 [(1,(pV aA)),(2,(pV aB)),(3,(pV ba)),(7,bc),(8,bd),(10,(nV b_.jump)),(12,(nV b_.on)),(15,v3)] w0 (hp w0) [blk aA [v1,v2,nV b_.jump,nV b_.on,v3] 49,blk aB [.slice none 0 0,.slice none 0 0,nV 0,nV 0,.slice none 0 0] 49,blk ba [.slice none 0 0,.slice none 0 0,nV 0,nV 0,.slice none 0 0] 49,ow [bc] ([]:List Phi_),ow [bd] ([]:List Ins_)] a w) ?_ λhT2_12=>?_
   ·rintro a w ⟨ba, bc, bd, hf, hm⟩
    refine tSv hf hm [1,0] rfl λhS=>tO (tf rfl rfl (λa hf=>e_build0 (α:=Int) et_47 hm rfl) ?_)
    rintro aC w hm
    exact tAk hm [2,1] rfl λhS=>tUse hT2_5 λa hf=>⟨ba,bc,bd,aC,hf.sb rfl,hm.pk [1,2,3,4,5,0] rfl rfl⟩
   refine tSh (od79_3) (λa w=>∃ (bA bB be:Value),St 74 [(1,(pV aA)),(2,(pV aB)),(7,bA),(8,bB),(10,(nV b_.jump)),(12,(nV b_.on)),(13,be),(15,v3)] w0 (hp w0) [blk aA [v1,v2,nV b_.jump,nV b_.on,v3] 49,blk aB [.slice none 0 0,.slice none 0 0,nV 0,nV 0,.slice none 0 0] 49,ow [bA] ([]:List Phi_),ow [bB] ([]:List Ins_),ow [be] ([]:List Int)] a w) ?_ λhT2_13=>?_
   ·rintro a w ⟨bA, bB, be, hf, hm⟩
    refine tSv hf hm [1,0] rfl λhS=>tMo ?_ ?_
    ·obtain ⟨aG, aH⟩ := appM_some.1 aP
     refine tf rfl rfl (λa hf=>e_append 4 et_47 hf hm rfl (hm.now h3) rfl rfl rfl aG) ?_
     rintro aC w hm
     rw [aH] at hm
     exact tAk hm [1,0] rfl λhS=>tUse hT2_6 λa hf=>⟨bA,bB,aC,hf.sb rfl,hm.pk [0,1,2,3,4] rfl rfl⟩
    refine tO (tf rfl rfl (λa hf=>e_alloc hm zeroValue49 rfl rfl) ?_)
    rintro _ w ⟨aI,rfl,hm⟩
    exact tAk hm [2,1] rfl λhS=>tUse hT2_5 λa hf=>⟨aI,bA,bB,be,hf.sb rfl,hm.pk [1,2,0,3,4,5] rfl rfl⟩
   refine tSh (od79_15) (λa w=>∃ (ah:Nat) (bC:Value),St 74 [(1,(pV aA)),(2,(pV aB)),(3,(pV ah)),(10,(nV b_.jump)),(12,(nV b_.on)),(13,bC),(15,v3)] w0 (hp w0) [blk aA [v1,v2,nV b_.jump,nV b_.on,v3] 49,blk aB [.slice none 0 0,.slice none 0 0,nV 0,nV 0,.slice none 0 0] 49,blk ah [.slice none 0 0,.slice none 0 0,nV 0,nV 0,.slice none 0 0] 49,ow [bC] ([]:List Int)] a w) ?_ λhT2_14=>?_
   ·rintro a w ⟨ah, bC, hf, hm⟩
    refine tSv hf hm [1,0] rfl λhS=>tMo ?_ ?_
    ·refine tf rfl rfl (fun a hf => e_build0 (α := Phi_) et_45 hm rfl) ?_
     rintro aC w hm
     exact tAk hm [2,1] rfl λhS=>tUse hT2_10 λa hf=>⟨ah,aC,bC,hf.sb rfl,hm.pk [1,2,3,0,4] rfl rfl⟩
    refine tMo ?_ ?_
    ·refine tf rfl rfl (fun a hf => e_build0 (α := Ins_) et_46 hm rfl) ?_
     rintro aF w hm
     exact tAk hm [2,1] rfl λhS=>tUse hT2_8 λa hf=>⟨ah,aF,bC,hf.sb rfl,hm.pk [1,2,3,0,4] rfl rfl⟩
    refine tO ?_
    obtain ⟨aG,aH⟩:=appM_some.1 aP
    refine tf rfl rfl (λa hf=>e_append 3 et_47 hf hm rfl (hm.now h3) rfl rfl rfl aG) ?_
    rintro bt w hm
    rw [aH] at hm
    exact tAk hm [1,0] rfl λhS=>tUse hT2_7 λa hf=>⟨ah,bt,hf.sb rfl,hm.pk [0,1,2,3] rfl rfl⟩
   refine tSh (od79_14) (λa w=>∃ (bD:Nat) (bE:Value),St 74 [(1,(pV aA)),(2,(pV aB)),(3,(pV bD)),(8,bE),(10,(nV b_.jump)),(12,(nV b_.on)),(15,v3)] w0 (hp w0) [blk aA [v1,v2,nV b_.jump,nV b_.on,v3] 49,blk aB [.slice none 0 0,.slice none 0 0,nV 0,nV 0,.slice none 0 0] 49,blk bD [.slice none 0 0,.slice none 0 0,nV 0,nV 0,.slice none 0 0] 49,ow [bE] ([]:List Ins_)] a w) ?_ λhT2_15=>?_
   ·rintro a w ⟨bD, bE, hf, hm⟩
    refine tSv hf hm [1,0] rfl λhS=>tMo ?_ ?_
    ·refine tf rfl rfl (fun a hf => e_build0 (α := Phi_) et_45 hm rfl) ?_
     rintro aC w hm
     exact tAk hm [2,1] rfl λhS=>tUse hT2_12 λa hf=>⟨bD,aC,bE,hf.sb rfl,hm.pk [1,2,3,0,4] rfl rfl⟩
    refine tO (tf rfl rfl (λa hf=>e_build0 (α:=Int) et_47 hm rfl) ?_)
    rintro aF w hm
    exact tAk hm [2,1] rfl λhS=>tUse hT2_8 λa hf=>⟨bD,bE,aF,hf.sb rfl,hm.pk [1,2,3,4,0] rfl rfl⟩
   refine tSh (od79_13) (λa w=>∃ (ai bF:Value),St 74 [(1,(pV aA)),(2,(pV aB)),(8,ai),(10,(nV b_.jump)),(12,(nV b_.on)),(13,bF),(15,v3)] w0 (hp w0) [blk aA [v1,v2,nV b_.jump,nV b_.on,v3] 49,blk aB [.slice none 0 0,.slice none 0 0,nV 0,nV 0,.slice none 0 0] 49,ow [ai] ([]:List Ins_),ow [bF] ([]:List Int)] a w) ?_ λhT2_16=>?_
   ·rintro a w ⟨ai, bF, hf, hm⟩
    refine tSv hf hm [1,0] rfl λhS=>tMo ?_ ?_
    ·refine tf rfl rfl (fun a hf => e_build0 (α := Phi_) et_45 hm rfl) ?_
     rintro aC w hm
     exact tAk hm [2,1] rfl λhS=>tUse hT2_13 λa hf=>⟨aC,ai,bF,hf.sb rfl,hm.pk [1,2,0,3,4] rfl rfl⟩
    refine tMo ?_ ?_
    ·obtain ⟨aG, aH⟩ := appM_some.1 aP
     refine tf rfl rfl (λa hf=>e_append 3 et_47 hf hm rfl (hm.now h3) rfl rfl rfl aG) ?_
     rintro aF w hm
     rw [aH] at hm
     exact tAk hm [1,0] rfl λhS=>tUse hT2_9 λa hf=>⟨ai,aF,hf.sb rfl,hm.pk [0,1,2,3] rfl rfl⟩
    refine tO (tf rfl rfl (λa hf=>e_alloc hm zeroValue49 rfl rfl) ?_)
    rintro _ w ⟨aI,rfl,hm⟩
    exact tAk hm [2,1] rfl λhS=>tUse hT2_8 λa hf=>⟨aI,ai,bF,hf.sb rfl,hm.pk [1,2,0,3,4] rfl rfl⟩
   refine tSh (od79_12) (λa w=>∃ (bG:Nat) (bH:Value),St 74 [(1,(pV aA)),(2,(pV aB)),(3,(pV bG)),(7,bH),(10,(nV b_.jump)),(12,(nV b_.on)),(15,v3)] w0 (hp w0) [blk aA [v1,v2,nV b_.jump,nV b_.on,v3] 49,blk aB [.slice none 0 0,.slice none 0 0,nV 0,nV 0,.slice none 0 0] 49,blk bG [.slice none 0 0,.slice none 0 0,nV 0,nV 0,.slice none 0 0] 49,ow [bH] ([]:List Phi_)] a w) ?_ λhT2_17=>?_
   ·rintro a w ⟨bG, bH, hf, hm⟩
    refine tSv hf hm [1,0] rfl λhS=>tMo ?_ ?_
    ·refine tf rfl rfl (fun a hf => e_build0 (α := Ins_) et_46 hm rfl) ?_
     rintro aC w hm
     exact tAk hm [2,1] rfl λhS=>tUse hT2_12 λa hf=>⟨bG,bH,aC,hf.sb rfl,hm.pk [1,2,3,4,0] rfl rfl⟩
    refine tO (tf rfl rfl (λa hf=>e_build0 (α:=Int) et_47 hm rfl) ?_)
    rintro aF w hm
    exact tAk hm [2,1] rfl λhS=>tUse hT2_10 λa hf=>⟨bG,bH,aF,hf.sb rfl,hm.pk [1,2,3,4,0] rfl rfl⟩
   refine tSh (od79_11) (λa w=>∃ (aj bJ:Value),St 74 [(1,(pV aA)),(2,(pV aB)),(7,aj),(10,(nV b_.jump)),(12,(nV b_.on)),(13,bJ),(15,v3)] w0 (hp w0) [blk aA [v1,v2,nV b_.jump,nV b_.on,v3] 49,blk aB [.slice none 0 0,.slice none 0 0,nV 0,nV 0,.slice none 0 0] 49,ow [aj] ([]:List Phi_),ow [bJ] ([]:List Int)] a w) ?_ λhT2_18=>?_
   ·rintro a w ⟨aj, bJ, hf, hm⟩
    refine tSv hf hm [1,0] rfl λhS=>tMo ?_ ?_
    ·refine tf rfl rfl (fun a hf => e_build0 (α := Ins_) et_46 hm rfl) ?_
     rintro aC w hm
     exact tAk hm [2,1] rfl λhS=>tUse hT2_13 λa hf=>⟨aj,aC,bJ,hf.sb rfl,hm.pk [1,2,3,0,4] rfl rfl⟩
    refine tMo ?_ ?_
    ·obtain ⟨aG, aH⟩ := appM_some.1 aP
     refine tf rfl rfl (λa hf=>e_append 3 et_47 hf hm rfl (hm.now h3) rfl rfl rfl aG) ?_
     rintro aF w hm
     rw [aH] at hm
     exact tAk hm [1,0] rfl λhS=>tUse hT2_11 λa hf=>⟨aj,aF,hf.sb rfl,hm.pk [0,1,2,3] rfl rfl⟩
    refine tO (tf rfl rfl (λa hf=>e_alloc hm zeroValue49 rfl rfl) ?_)
    rintro _ w ⟨aI,rfl,hm⟩
    exact tAk hm [2,1] rfl λhS=>tUse hT2_10 λa hf=>⟨aI,aj,bJ,hf.sb rfl,hm.pk [1,2,0,3,4] rfl rfl⟩
   refine tSh (od79_10) (λa w=>∃ (bK bL:Value),St 74 [(1,(pV aA)),(2,(pV aB)),(7,bK),(8,bL),(10,(nV b_.jump)),(12,(nV b_.on)),(15,v3)] w0 (hp w0) [blk aA [v1,v2,nV b_.jump,nV b_.on,v3] 49,blk aB [.slice none 0 0,.slice none 0 0,nV 0,nV 0,.slice none 0 0] 49,ow [bK] ([]:List Phi_),ow [bL] ([]:List Ins_)] a w) ?_ λhT2_19=>?_
   ·rintro a w ⟨bK, bL, hf, hm⟩
    refine tSv hf hm [1,0] rfl λhS=>tMo ?_ ?_
    ·refine tf rfl rfl (fun a hf => e_build0 (α := Int) et_47 hm rfl) ?_
     rintro aC w hm
     exact tAk hm [2,1] rfl λhS=>tUse hT2_13 λa hf=>⟨bK,bL,aC,hf.sb rfl,hm.pk [1,2,3,4,0] rfl rfl⟩
    refine tO (tf rfl rfl (λa hf=>e_alloc hm zeroValue49 rfl rfl) ?_)
    rintro _ w ⟨aI,rfl,hm⟩
    exact tAk hm [2,1] rfl λhS=>tUse hT2_12 λa hf=>⟨aI,bK,bL,hf.sb rfl,hm.pk [1,2,0,3,4] rfl rfl⟩
   refine tMo ?_ ?_
   ·refine tf rfl rfl (fun a hf => e_build0 (α := Phi_) et_45 hm rfl) ?_
    rintro aC w hm
    refine tAk hm [1,2] rfl λhS=>tMo ?_ ?_
    ·refine tf rfl rfl (fun a hf => e_build0 (α := Ins_) et_46 hm rfl) ?_
     rintro aF w hm
     exact tAk hm [2,3] rfl λhS=>tUse hT2_19 λa hf=>⟨aC,aF,hf.sb rfl,hm.pk [3,2,1,0] rfl rfl⟩
    refine tMo ?_ ?_
    ·refine tf rfl rfl (fun a hf => e_build0 (α := Int) et_47 hm rfl) ?_
     rintro bt w hm
     exact tAk hm [2,3] rfl λhS=>tUse hT2_18 λa hf=>⟨aC,bt,hf.sb rfl,hm.pk [3,2,1,0] rfl rfl⟩
    refine tO (tf rfl rfl (λa hf=>e_alloc hm zeroValue49 rfl rfl) ?_)
    rintro _ w ⟨aI,rfl,hm⟩
    exact tAk hm [2,3] rfl λhS=>tUse hT2_17 λa hf=>⟨aI,aC,hf.sb rfl,hm.pk [3,2,0,1] rfl rfl⟩
   refine tMo ?_ ?_
   ·refine tf rfl rfl (fun a hf => e_build0 (α := Ins_) et_46 hm rfl) ?_
    rintro bu w hm
    refine tAk hm [1,2] rfl λhS=>tMo ?_ ?_
    ·refine tf rfl rfl (fun a hf => e_build0 (α := Phi_) et_45 hm rfl) ?_
     rintro cR w hm
     exact tAk hm [2,3] rfl λhS=>tUse hT2_19 λa hf=>⟨cR,bu,hf.sb rfl,hm.pk [3,2,0,1] rfl rfl⟩
    refine tMo ?_ ?_
    ·refine tf rfl rfl (fun a hf => e_build0 (α := Int) et_47 hm rfl) ?_
     rintro cS w hm
     exact tAk hm [2,3] rfl λhS=>tUse hT2_16 λa hf=>⟨bu,cS,hf.sb rfl,hm.pk [3,2,1,0] rfl rfl⟩
    refine tO (tf rfl rfl (λa hf=>e_alloc hm zeroValue49 rfl rfl) ?_)
    rintro _ w ⟨cT,rfl,hm⟩
    exact tAk hm [2,3] rfl λhS=>tUse hT2_15 λa hf=>⟨cT,bu,hf.sb rfl,hm.pk [3,2,0,1] rfl rfl⟩
   refine tMo ?_ ?_
   ·refine tf rfl rfl (fun a hf => e_build0 (α := Int) et_47 hm rfl) ?_
    rintro bv w hm
    refine tAk hm [1,2] rfl λhS=>tMo ?_ ?_
    ·refine tf rfl rfl (fun a hf => e_build0 (α := Phi_) et_45 hm rfl) ?_
     rintro cU w hm
     exact tAk hm [2,3] rfl λhS=>tUse hT2_18 λa hf=>⟨cU,bv,hf.sb rfl,hm.pk [3,2,0,1] rfl rfl⟩
    refine tMo ?_ ?_
    ·refine tf rfl rfl (fun a hf => e_build0 (α := Ins_) et_46 hm rfl) ?_
     rintro cV w hm
     exact tAk hm [2,3] rfl λhS=>tUse hT2_16 λa hf=>⟨cV,bv,hf.sb rfl,hm.pk [3,2,0,1] rfl rfl⟩
    refine tMo ?_ ?_
    ·obtain ⟨aG, aH⟩ := appM_some.1 aP
     refine tf rfl rfl (λa hf=>e_append 0 et_47 hf hm rfl (hm.now h3) rfl rfl rfl aG) ?_
     rintro bx w hm
     rw [aH] at hm
     refine tAk hm [1,2] rfl λhS=>tMo ?_ ?_
     ·refine tf rfl rfl (fun a hf => e_build0 (α := Phi_) et_45 hm rfl) ?_
      rintro cW w hm
      exact tAk hm [2,3] rfl λhS=>tUse hT2_11 λa hf=>⟨cW,bx,hf.sb rfl,hm.pk [3,2,0,1] rfl rfl⟩
     refine tMo ?_ ?_
     ·refine tf rfl rfl (fun a hf => e_build0 (α := Ins_) et_46 hm rfl) ?_
      rintro cX w hm
      exact tAk hm [2,3] rfl λhS=>tUse hT2_9 λa hf=>⟨cX,bx,hf.sb rfl,hm.pk [3,2,0,1] rfl rfl⟩
     refine tO (tf rfl rfl (λa hf=>e_alloc hm zeroValue49 rfl rfl) ?_)
     rintro _ w ⟨cY,rfl,hm⟩
     exact tAk hm [2,3] rfl λhS=>tUse hT2_7 λa hf=>⟨cY,bx,hf.sb rfl,hm.pk [3,2,0,1] rfl rfl⟩
    refine tO (tf rfl rfl (λa hf=>e_alloc hm zeroValue49 rfl rfl) ?_)
    rintro _ w ⟨cZ,rfl,hm⟩
    exact tAk hm [2,3] rfl λhS=>tUse hT2_14 λa hf=>⟨cZ,bv,hf.sb rfl,hm.pk [3,2,0,1] rfl rfl⟩
   refine tO (tf rfl rfl (λa hf=>e_alloc hm zeroValue49 rfl rfl) ?_)
   rintro _ w ⟨bz,rfl,hm⟩
   refine tAk hm [1,2] rfl λhS=>tMo ?_ ?_
   ·refine tf rfl rfl (fun a hf => e_build0 (α := Phi_) et_45 hm rfl) ?_
    rintro c4 w hm
    exact tAk hm [2,3] rfl λhS=>tUse hT2_17 λa hf=>⟨bz,c4,hf.sb rfl,hm.pk [3,2,1,0] rfl rfl⟩
   refine tMo ?_ ?_
   ·refine tf rfl rfl (fun a hf => e_build0 (α := Ins_) et_46 hm rfl) ?_
    rintro c5 w hm
    exact tAk hm [2,3] rfl λhS=>tUse hT2_15 λa hf=>⟨bz,c5,hf.sb rfl,hm.pk [3,2,1,0] rfl rfl⟩
   refine tO (tf rfl rfl (λa hf=>e_build0 (α:=Int) et_47 hm rfl) ?_)
   rintro c6 w hm
   exact tAk hm [2,3] rfl λhS=>tUse hT2_14 λa hf=>⟨bz,c6,hf.sb rfl,hm.pk [3,2,1,0] rfl rfl⟩
  repeat clear hm
  rintro aE a w ⟨aM,bg,bh,bi,hf,hm⟩
  refine gv hf (gS (gS (gR (gA rfl (gE ?_)))))
  obtain ⟨c7,c8,rfl,dA⟩:=ro_slice (hm.ow_rep 3 rfl)
  obtain ⟨aZ,aa,rfl,dB⟩:=ro_slice (hm.ow_rep 4 rfl)
  obtain ⟨aK,aL,rfl,dC⟩:=ro_slice (hm.ow_rep 5 rfl)
  refine gBk (gNg (λcD bM a w=>∃ (ab:Value),St 74 [(1,(pV aA)),(2,(pV aB)),(3,(pV aM)),(4,(nV cD))] w0 (hp w0) [blk aA [v1,v2,nV b_.jump,nV b_.on,v3] 49,blk aB [.slice none 0 0,.slice none 0 0,nV 0,nV 0,.slice none 0 0] 49,blk aM [ab,.slice aZ ([]:List Ins_).length aa,nV b_.jump,nV b_.on,.slice aK aE.length aL] 49,ow [ab] bM,ow [.slice aZ ([]:List Ins_).length aa] ([]:List Ins_),ow [.slice aK aE.length aL] aE] a w) (λa hf=>⟨.slice c7 ([]:List Phi_).length c8,hf.sb rfl,hm.pk [0,1,2,3,4,5] rfl rfl⟩) ?_ ?_)
  ·repeat clear hm
   rintro _ _ cD bM a w ⟨ab,hf,hm⟩ dD dE dF _
   refine gv hf (gS (gS (gR (gM rfl (gF fo_49_0 rfl (gL hm 0 isAgg45 rfl ?_))))))
   obtain ⟨c9,cE,rfl,dG⟩:=ro_slice h1
   refine gY (yV st_45 rfl) (gB rfl (gE (go _ 22 rfl (decide_eq_true (by omega)) (gct rfl (gSk (gS (gBk (gW (.p 0 (.p 2 (.p 4 (.p 9 (.p 11 (.q 1 (.q 3 (.p 5 (.p 6 (.q 7 (.q 10 (.p 12 (.p 13 (.q 14 (.e 8 (.e 15 (.p 16 (.e 17 (.e 18 (.p 19 (.e 20 .fin .nil)) .nil) .nil)) .nil) .nil))))))))))))))) [1,3,7,8,10,14,15,17] [0,2,4,5,6,9,11,12,13,16,19] hm [0,1,2,3,4,5] [blk aA [.slice c9 b_.phis.length cE,v2,nV b_.jump,nV b_.on,v3] 49,blk aB [.slice none 0 0,.slice none 0 0,nV 0,nV 0,.slice none 0 0] 49,blk aM [ab,.slice aZ ([]:List Ins_).length aa,nV b_.jump,nV b_.on,.slice aK aE.length aL] 49,ow [ab] bM,ow [.slice aZ ([]:List Ins_).length aa] ([]:List Ins_),ow [.slice aK aE.length aL] aE] rfl mxo (by kernel_rfl) (λ_ _ _ h=>h.2) λw hm hS=>tP rfl (λw=>yF fo_49_0 rfl) (tP rfl (λw=>yF fo_49_0 rfl) (tP rfl (λw=>yM rfl) (tP rfl (λw=>yF fo_49_0 rfl) (tP rfl (λw=>yM rfl) (tQ rfl hS (λw hm=>yL hm 2 isAgg45 rfl) (tQ rfl hS (λw hm=>yL hm 0 isAgg45 rfl) (gg λaO cF bf=>?_)))))))))))))))
   obtain ⟨ca,cb,dH,he⟩:=idx_form' h1 bf
   obtain ⟨rfl,_,rfl⟩:=sl3 he
   obtain ⟨dI,cG,cd⟩:=rk_Phi_ h1 bf
   refine tP rfl (λw=>yI st_45 cF (idx_lt bf) rfl) (tP rfl (λw=>yF fo_105_0 rfl) (tQ rfl hS (λw hm=>yl isAgg3 ((cG.mono hm.lez).cell (j:=0) rfl) rfl) (tQ rfl hS (λw hm=>yL hm 0 isAgg45 rfl) (tP rfl (λw=>yI st_45 cF (idx_lt bf) rfl) (tP rfl (λw=>yF fo_105_1 rfl) (tQ rfl hS (λw hm=>yl isAgg47 ((cG.mono hm.lez).cell (j:=1) rfl) rfl) (tO (tf rfl rfl (λa hf=>e_build0 (α:=Int) et_47 hm rfl) ?_))))))))
   rintro dJ w hm
   refine tAk hm [1,2,3,4,5,6] rfl λhS=>tO (gb λaQ ce=>?_)
   obtain ⟨cf,cg⟩:=appM_some.1 ce
   refine tf rfl rfl (λa hf=>e_append 0 et_47 hf hm rfl (hm.now cd) rfl rfl rfl cf) ?_
   rintro dK w hm
   rw [cg] at hm
   refine tAk hm [1,2,3,4,5,6] rfl λhS=>?_
   obtain ⟨ak,al,rfl,dL⟩:=ro_slice (hm.ow_rep 0 rfl)
   refine tP rfl (λw=>yG rfl (y_build (vs:=[(0,(nV aO.to)),(1,(.slice ak aQ.length al))]) (cs:=#[nV aO.to,.slice ak aQ.length al]) rfl rfl (by kernel_rfl))) (tO (tf rfl rfl (λa hf=>e_build (vs:=#[(0,(.agg #[nV aO.to,.slice ak aQ.length al]))]) (cs:=[nV aO.to,.slice ak aQ.length al]) et_45 hf hm rfl rfl (by kernel_rfl) rfl rfl) ?_))
   rintro _ w ⟨ci,rfl,hm⟩
   replace hm:=hm.els_nil (α:=Phi_)
   replace hm:Mem w0 (hp w0) _ [els [] ([]:List Phi_),blk ci [nV aO.to,.slice ak aQ.length al] 105,ow [nV aO.to,.slice ak aQ.length al] ((⟨aO.to,aQ⟩:Phi_):Phi_),blk aA [sV ca cb b_.phis.length cE,v2,nV b_.jump,nV b_.on,v3] 49,blk aB [.slice none 0 0,.slice none 0 0,nV 0,nV 0,.slice none 0 0] 49,blk aM [ab,.slice aZ ([]:List Ins_).length aa,nV b_.jump,nV b_.on,.slice aK aE.length aL] 49,ow [ab] bM,ow [.slice aZ ([]:List Ins_).length aa] ([]:List Ins_),ow [.slice aK aE.length aL] aE]:=mk_Phi_ aO.to hm 2 rfl
   replace hm:=(hm.els_cons 0 2 (by decide) rfl rfl).pk (L':=[_,_,_,_,_,_,_,_]) [0,1,3,4,5,6,7,8] rfl rfl
   replace hm:=(hm.lit_els 1 0 (by decide) rfl rfl rfl rfl).pk (L':=[_,_,_,_,_,_,_]) [1,2,3,4,5,6,7] rfl rfl
   refine tAk hm [1,2,3,4,5,6] rfl λhS=>tO (gb λdM cj=>?_)
   obtain ⟨ck,cl⟩:=appM_some.1 cj
   replace hm:=(hm.both 4 0 (by decide) rfl rfl).pk (L':=[_,_,_,_,_,_]) [1,2,3,4,5,6] rfl rfl
   refine tf rfl rfl (λa hf=>e_appendD (xs:=bM) (ys:=([(⟨aO.to,aQ⟩:Phi_)]:List Phi_)) 3 et_45 hf hm rfl rfl rfl rfl ck) ?_
   rintro cm w hm
   rw [cl] at hm
   refine tAn rfl (tP rfl (λw=>yF fo_49_0 rfl) (tO (tf0 rfl rfl (λa hf=>e_store1 2 hf hm rfl sizeOf45 rfl rfl rfl (rep_one (hm.ow_rep 3 rfl)) rfl) ?_)))
   rintro _ w hm
   exact tAn rfl (tE (gR (gM rfl (gP (by omega) (by omega) rfl (gA rfl (gE (gZe λa hf=>⟨cm,hf.sb rfl,hm.pk [0,1,2,3,4,5] rfl rfl⟩)))))))
  repeat clear hm
  rintro dN aN a w ⟨dO,hf,hm⟩ dP dQ
  refine gv hf (gS (gS (gR (gM rfl (gF fo_49_0 rfl (gL hm 0 isAgg45 rfl ?_))))))
  obtain ⟨cA,cB,rfl,dR⟩:=ro_slice h1
  refine gY (yV st_45 rfl) (gB rfl (gE (go _ 22 rfl (decide_eq_false (by omega)) (gcf rfl (gXt (gHh (gS (gS (gR (gA rfl (gE ?_)))))))))))
  obtain ⟨ac,ae,rfl,dS⟩:=ro_slice (hm.ow_rep 3 rfl)
  refine gBk (gNg (λcH bN a w=>∃ (af:Value),St 74 [(1,(pV aA)),(2,(pV aB)),(3,(pV aM)),(5,(nV cH))] w0 (hp w0) [blk aA [.slice cA b_.phis.length cB,v2,nV b_.jump,nV b_.on,v3] 49,blk aB [.slice none 0 0,.slice none 0 0,nV 0,nV 0,.slice none 0 0] 49,blk aM [.slice ac aN.length ae,af,nV b_.jump,nV b_.on,.slice aK aE.length aL] 49,ow [.slice ac aN.length ae] aN,ow [af] bN,ow [.slice aK aE.length aL] aE] a w) (λa hf=>⟨.slice aZ ([]:List Ins_).length aa,hf.sb rfl,hm.pk [0,1,2,3,4,5] rfl rfl⟩) ?_ ?_)
  ·repeat clear hm
   rintro _ _ cH bN a w ⟨af,hf,hm⟩ dT dU dV _
   refine gv hf (gS (gS (gR (gM rfl (gF fo_49_1 rfl (gL hm 0 isAgg46 rfl ?_))))))
   obtain ⟨dW,cI,rfl,dX⟩:=ro_slice h2
   refine gY (yV st_46 rfl) (gB rfl (gE (go _ 49 rfl (decide_eq_true (by omega)) (gct rfl (gSk (gS (gBk (gS (gR (gF fo_49_1 rfl (gL hm 0 isAgg46 rfl (gM rfl (gg λaD cn cC=>?_)))))))))))))
   obtain ⟨cJ,cK,dY,he⟩:=idx_form' h2 cC
   obtain ⟨rfl,_,rfl⟩:=sl3 he
   obtain ⟨cL,co,cM⟩:=rk_Ins_ h2 cC
   refine gI st_46 cn (idx_lt cC) rfl (gY (yn (co.mono hm.lez) isAgg51 sizeOf51 rfl) (gAl hm zeroValue51 rfl λcN w hm=>gSN hm 0 sizeOf51 (one_cons rfl (one_cons rfl (one_cons (rep_one cM) (one_cons rfl one_nil)))) rfl λw hm=>gE (gW (.p 0 (.p 2 (.p 4 (.p 7 (.p 10 (.q 1 (.q 3 (.q 5 (.q 8 (.q 11 (.e 6 (.e 9 (.p 12 (.e 13 (.e 14 (.p 15 (.e 16 .fin .nil)) .nil) .nil)) .nil) .nil))))))))))) [1,3,5,6,8,9,11,13] [0,2,4,7,10,12,15] hm [0,1,2,3,4,5,6] [blk cN [nV aD.op,nV aD.to,cL,nV aD.n_] 51,blk aA [.slice cA b_.phis.length cB,sV cJ cK b_.ins.length cI,nV b_.jump,nV b_.on,v3] 49,blk aB [.slice none 0 0,.slice none 0 0,nV 0,nV 0,.slice none 0 0] 49,blk aM [.slice ac aN.length ae,af,nV b_.jump,nV b_.on,.slice aK aE.length aL] 49,ow [.slice ac aN.length ae] aN,ow [af] bN,ow [.slice aK aE.length aL] aE] rfl mxo (by kernel_rfl) (λ_ _ _ h=>h.2) λw hm hS=>tP rfl (λw=>yF fo_49_1 rfl) (tP rfl (λw=>yF fo_51_0 rfl) (tP rfl (λw=>yF fo_51_1 rfl) (tP rfl (λw=>yF fo_51_2 rfl) (tP rfl (λw=>yF fo_51_3 rfl) (tQ rfl hS (λw hm=>yL hm 3 isAgg46 rfl) (tQ rfl hS (λw hm=>yL hm 0 isAgg3 rfl) (tQ rfl hS (λw hm=>yL hm 0 isAgg3 rfl) (tQ rfl hS (λw hm=>yL hm 0 isAgg47 rfl) (tQ rfl hS (λw hm=>yL hm 0 isAgg3 rfl) (tO (tf rfl rfl (λa hf=>e_build0 (α:=Int) et_47 hm rfl) ?_))))))))))))))
   rintro dZ w hm
   refine tAk hm [1,2,3,4,5,6,7] rfl λhS=>tO (gb λaR cq=>?_)
   obtain ⟨cr,ct⟩:=appM_some.1 cq
   refine tf rfl rfl (λa hf=>e_append 0 et_47 hf hm rfl (hm.now cM) rfl rfl rfl cr) ?_
   rintro d2 w hm
   rw [ct] at hm
   refine tAk hm [1,2,3,4,5,6,7] rfl λhS=>?_
   obtain ⟨am,an,rfl,d4⟩:=ro_slice (hm.ow_rep 0 rfl)
   refine tP rfl (λw=>yG rfl (y_build (vs:=[(0,(nV aD.op)),(1,(nV aD.to)),(2,(.slice am aR.length an)),(3,(nV aD.n_))]) (cs:=#[nV aD.op,nV aD.to,.slice am aR.length an,nV aD.n_]) rfl rfl (by kernel_rfl))) (tO (tf rfl rfl (λa hf=>e_build (vs:=#[(0,(.agg #[nV aD.op,nV aD.to,.slice am aR.length an,nV aD.n_]))]) (cs:=[nV aD.op,nV aD.to,.slice am aR.length an,nV aD.n_]) et_46 hf hm rfl rfl (by kernel_rfl) rfl rfl) ?_))
   rintro _ w ⟨cu,rfl,hm⟩
   replace hm:=hm.els_nil (α:=Ins_)
   replace hm:Mem w0 (hp w0) _ [els [] ([]:List Ins_),blk cu [nV aD.op,nV aD.to,.slice am aR.length an,nV aD.n_] 51,ow [nV aD.op,nV aD.to,.slice am aR.length an,nV aD.n_] ((⟨aD.op,aD.to,aR,aD.n_⟩:Ins_):Ins_),blk cN [nV aD.op,nV aD.to,cL,nV aD.n_] 51,blk aA [.slice cA b_.phis.length cB,sV cJ cK b_.ins.length cI,nV b_.jump,nV b_.on,v3] 49,blk aB [.slice none 0 0,.slice none 0 0,nV 0,nV 0,.slice none 0 0] 49,blk aM [.slice ac aN.length ae,af,nV b_.jump,nV b_.on,.slice aK aE.length aL] 49,ow [.slice ac aN.length ae] aN,ow [af] bN,ow [.slice aK aE.length aL] aE]:=mk_Ins_ aD.op aD.to aD.n_ hm 2 rfl
   replace hm:=(hm.els_cons 0 2 (by decide) rfl rfl).pk (L':=[_,_,_,_,_,_,_,_,_]) [0,1,3,4,5,6,7,8,9] rfl rfl
   replace hm:=(hm.lit_els 1 0 (by decide) rfl rfl rfl rfl).pk (L':=[_,_,_,_,_,_,_,_]) [1,2,3,4,5,6,7,8] rfl rfl
   refine tAk hm [1,2,3,4,5,6,7] rfl λhS=>tO (gb λd5 cv=>?_)
   obtain ⟨cw,cx⟩:=appM_some.1 cv
   replace hm:=(hm.both 6 0 (by decide) rfl rfl).pk (L':=[_,_,_,_,_,_,_]) [1,2,3,4,5,6,7] rfl rfl
   refine tf rfl rfl (λa hf=>e_appendD (xs:=bN) (ys:=([(⟨aD.op,aD.to,aR,aD.n_⟩:Ins_)]:List Ins_)) 5 et_46 hf hm rfl rfl rfl rfl cw) ?_
   rintro cy w hm
   rw [cx] at hm
   refine tAn rfl (tP rfl (λw=>yF fo_49_1 rfl) (tO (tf0 rfl rfl (λa hf=>e_store1 3 hf hm rfl sizeOf46 rfl rfl rfl (rep_one (hm.ow_rep 5 rfl)) rfl) ?_)))
   rintro _ w hm
   exact tAn rfl (tE (gR (gM rfl (gP (by omega) (by omega) rfl (gA rfl (gE (gZe λa hf=>⟨cy,hf.sb rfl,hm.pk [1,2,3,4,5,6] rfl rfl⟩)))))))
  repeat clear hm
  rintro d6 d7 a w ⟨cz,hf,hm⟩ d8 d9
  refine gv hf (gS (gS (gR (gM rfl (gF fo_49_1 rfl (gL hm 0 isAgg46 rfl ?_))))))
  obtain ⟨da,db,rfl,dc⟩:=ro_slice h2
  exact gY (yV st_46 rfl) (gB rfl (gE (go _ 49 rfl (decide_eq_false (by omega)) (gcf rfl (gXt (gHh (gS (gR (gY (yn (hm.blk_at 2 rfl) isAgg49 sizeOf49 rfl) (gSN hm 1 sizeOf49 (one_cons rfl (one_cons (rep_one (hm.ow_rep 4 rfl)) (one_cons rfl (one_cons rfl (one_cons rfl one_nil))))) rfl λw hm=>gE (gRt (grc 1 results79 hm rfl isAgg49 sizeOf49 ⟨.slice ac aN.length ae,cz,.slice aK aE.length aL,rfl,hm.pk [3,4,5] rfl rfl⟩))))))))))))
theorem spec_l7Copy_ok (w0 : World) (c_ : Code_) (v1 : Value) (h1 : GT.rep (hp w0) [v1] c_.blocks) :
    ConM Tryz.prog 45 [(.agg #[nV c_.params,nV c_.regs,v1])] w0 (spec_l7Copy c_) λr v w'=>∃ (x1:Value),v=(.agg #[nV r.params,nV r.regs,x1])∧Mem w0 (hp w0) w' [ow [x1] r.blocks]:=by
  unfold spec_l7Copy
  refine gcon func45 rfl λr=>?_
  have hm:=Mem.start w0
  refine gS (gR (gBx hm rfl λaD w hm=>gAl hm zeroValue44 rfl λaE w hm=>gE (gS (gR (gF fo_44_0 rfl (gL hm 1 isAgg3 rfl (gF fo_44_1 rfl (gL hm 1 isAgg3 rfl (gY (yG rfl (y_build (vs:=[(0,(nV c_.params)),(1,(nV c_.regs))]) (cs:=#[nV c_.params,nV c_.regs,.slice none 0 0]) rfl rfl (by kernel_rfl))) (gAl hm zeroValue44 rfl λaF w hm=>gSN hm 0 sizeOf44 (one_cons rfl (one_cons rfl (one_cons rfl one_nil))) rfl λw hm=>gE (gS (gS (gR (gA rfl (gE (gBk ?_))))))))))))))))
  replace hm:=hm.nilow (α:=Block_)
  refine gNg (λaH aC a w=>∃ (aB:Value),St 29 [(1,(pV aD)),(2,(pV aE)),(3,(pV aF)),(4,(nV aH))] w0 (hp w0) [blk aD [nV c_.params,nV c_.regs,v1] 44,blk aE [nV 0,nV 0,.slice none 0 0] 44,blk aF [nV c_.params,nV c_.regs,aB] 44,ow [aB] aC] a w) (λa hf=>⟨.slice none 0 0,hf.sb rfl,hm.pk [3,2,1,0] rfl rfl⟩) ?_ ?_
  ·repeat clear hm
   rintro _ _ aH aC a w ⟨aB,hf,hm⟩ ae af ah _
   refine gv hf (gS (gS (gR (gM rfl (gF fo_44_2 rfl (gL hm 0 isAgg42 rfl ?_))))))
   obtain ⟨aL,aM,rfl,ai⟩:=ro_slice h1
   refine gY (yV st_42 rfl) (gB rfl (gE (go _ 14 rfl (decide_eq_true (by omega)) (gct rfl (gSk (gS (gBk (gW (.p 0 (.p 2 (.p 4 (.q 1 (.e 3 (.p 5 (.e 6 (.e 7 (.e 8 (.e 9 (.p 10 (.e 11 .fin .nil)) .nil) .nil) .nil) .nil)) .nil))))) [3,6,7,8] [0,2,4,5,10] hm [0,1,2,3] [blk aD [nV c_.params,nV c_.regs,.slice aL c_.blocks.length aM] 44,blk aE [nV 0,nV 0,.slice none 0 0] 44,blk aF [nV c_.params,nV c_.regs,aB] 44,ow [aB] aC] rfl mxo (by kernel_rfl) (λ_ _ _ h=>h.2) λw hm hS=>tP rfl (λw=>yF fo_44_2 rfl) (tP rfl (λw=>yF fo_44_2 rfl) (tP rfl (λw=>yM rfl) (tQ rfl hS (λw hm=>yL hm 2 isAgg42 rfl) (tO (tY rfl (yL hm 0 isAgg42 rfl) (tAs hS (gg λaN aO aG=>?_)))))))))))))))
   obtain ⟨aj,ak,al,he⟩:=idx_form' h1 aG
   obtain ⟨rfl,_,rfl⟩:=sl3 he
   obtain ⟨aP,aQ,aR,aS,aT,aV,aW⟩:=rk_Block_ h1 aG
   refine tP rfl (λw=>yI st_42 aO (idx_lt aG) rfl) (tO (tY rfl (yn (aS.mono hm.lez) isAgg49 sizeOf49 rfl) (tAs hS (tO (gb λaA aX=>tf rfl rfl (λa hf=>e_call hf rfl call79 rfl (spec_l7CopyBlock_ok _ aN aP (hm.now aT) aQ (hm.now aV) aR (hm.now aW) _ aX)) ?_)))))
   rintro am w ⟨aI,aJ,aK,rfl,hB⟩
   replace hm:=hm.give hB;clear hB
   refine tAk hm [3,4,5,6] rfl λhS=>tO (tf rfl rfl (λa hf=>e_build (vs:=#[(0,(.agg #[aI,aJ,nV aA.jump,nV aA.on,aK]))]) (cs:=[aI,aJ,nV aA.jump,nV aA.on,aK]) et_42 hf hm rfl rfl (by kernel_rfl) rfl rfl) ?_)
   rintro _ w ⟨an,rfl,hm⟩
   replace hm:=hm.els_nil (α:=Block_)
   replace hm:=(mk_Block_ aA.jump aA.on hm 2 3 4 rfl).pk (L':=[_,_,_,_,_,_,_]) [0,1,2,5,6,7,8] rfl rfl
   replace hm:=(hm.els_cons 0 2 (by decide) rfl rfl).pk (L':=[_,_,_,_,_,_]) [0,1,3,4,5,6] rfl rfl
   replace hm:=(hm.lit_els 1 0 (by decide) rfl rfl rfl rfl).pk (L':=[_,_,_,_,_]) [1,2,3,4,5] rfl rfl
   refine tAk hm [1,2,3,4] rfl λhS=>tO (gb λao aY=>?_)
   obtain ⟨aZ,aa⟩:=appM_some.1 aY
   replace hm:=(hm.both 4 0 (by decide) rfl rfl).pk (L':=[_,_,_,_]) [1,2,3,4] rfl rfl
   refine tf rfl rfl (λa hf=>e_appendD (xs:=aC) (ys:=([aA]:List Block_)) 3 et_42 hf hm rfl rfl rfl rfl aZ) ?_
   rintro ab w hm
   rw [aa] at hm
   refine tAn rfl (tP rfl (λw=>yF fo_44_2 rfl) (tO (tf0 rfl rfl (λa hf=>e_store1 2 hf hm rfl sizeOf42 rfl rfl rfl (rep_one (hm.ow_rep 3 rfl)) rfl) ?_)))
   rintro _ w hm
   exact tAn rfl (tE (gR (gM rfl (gP (by omega) (by omega) rfl (gA rfl (gE (gZe λa hf=>⟨ab,hf.sb rfl,hm.pk [0,1,2,3] rfl rfl⟩)))))))
  repeat clear hm
  rintro ap aq a w ⟨ac,hf,hm⟩ ar au
  refine gv hf (gS (gS (gR (gM rfl (gF fo_44_2 rfl (gL hm 0 isAgg42 rfl ?_))))))
  obtain ⟨av,aw,rfl,ax⟩:=ro_slice h1
  exact gY (yV st_42 rfl) (gB rfl (gE (go _ 14 rfl (decide_eq_false (by omega)) (gcf rfl (gXt (gHh (gS (gR (gY (yn (hm.blk_at 2 rfl) isAgg44 sizeOf44 rfl) (gSN hm 1 sizeOf44 (one_cons rfl (one_cons rfl (one_cons (rep_one (hm.ow_rep 3 rfl)) one_nil))) rfl λw hm=>gE (gRt (grc 1 results45 hm rfl isAgg44 sizeOf44 ⟨ac,rfl,hm.pk [3] rfl rfl⟩))))))))))))
theorem spec_l7CopyUnit_ok (w0 : World) (u : Unit_) (v1 : Value) (h1 : GT.rep (hp w0) [v1] u.codes) :
    ConM Tryz.prog 20 [(.agg #[v1])] w0 (spec_l7CopyUnit u) λr v w'=>∃ (x1:Value),v=(.agg #[x1])∧Mem w0 (hp w0) w' [ow [x1] r.codes]:=by
  unfold spec_l7CopyUnit
  refine gcon func20 rfl λr=>?_
  have hm:=Mem.start w0
  refine gS (gR (gBx hm rfl λaD w hm=>gAl hm zeroValue28 rfl λaE w hm=>gE (gS (gR (gY (yG rfl (y_build (vs:=[]) (cs:=#[.slice none 0 0]) rfl rfl (by kernel_rfl))) (gAl hm zeroValue28 rfl λaF w hm=>gSN hm 0 sizeOf28 (one_cons rfl one_nil) rfl λw hm=>gE (gS (gS (gR (gA rfl (gE (gBk ?_))))))))))))
  replace hm:=hm.nilow (α:=Code_)
  refine gNg (λaI aC a w=>∃ (aB:Value),St 25 [(1,(pV aD)),(2,(pV aE)),(3,(pV aF)),(4,(nV aI))] w0 (hp w0) [blk aD [v1] 28,blk aE [.slice none 0 0] 28,blk aF [aB] 28,ow [aB] aC] a w) (λa hf=>⟨.slice none 0 0,hf.sb rfl,hm.pk [3,2,1,0] rfl rfl⟩) ?_ ?_
  ·repeat clear hm
   rintro _ _ aI aC a w ⟨aB,hf,hm⟩ aa ab ac _
   refine gv hf (gS (gS (gR (gM rfl (gF fo_28_0 rfl (gL hm 0 isAgg26 rfl ?_))))))
   obtain ⟨aK,aJ,rfl,ae⟩:=ro_slice h1
   refine gY (yV st_26 rfl) (gB rfl (gE (go _ 10 rfl (decide_eq_true (by omega)) (gct rfl (gSk (gS (gBk (gW (.p 0 (.p 2 (.p 4 (.q 1 (.e 3 (.p 5 (.e 6 (.e 7 (.e 8 (.e 9 (.p 10 (.e 11 .fin .nil)) .nil) .nil) .nil) .nil)) .nil))))) [3,6,7,8] [0,2,4,5,10] hm [0,1,2,3] [blk aD [.slice aK u.codes.length aJ] 28,blk aE [.slice none 0 0] 28,blk aF [aB] 28,ow [aB] aC] rfl mxo (by kernel_rfl) (λ_ _ _ h=>h.2) λw hm hS=>tP rfl (λw=>yF fo_28_0 rfl) (tP rfl (λw=>yF fo_28_0 rfl) (tP rfl (λw=>yM rfl) (tQ rfl hS (λw hm=>yL hm 2 isAgg26 rfl) (tO (tY rfl (yL hm 0 isAgg26 rfl) (tAs hS (gg λaL aM aH=>?_)))))))))))))))
   obtain ⟨aN,aO,af,he⟩:=idx_form' h1 aH
   obtain ⟨rfl,_,rfl⟩:=sl3 he
   obtain ⟨aP,aQ,aR⟩:=rk_Code_ h1 aH
   refine tP rfl (λw=>yI st_26 aM (idx_lt aH) rfl) (tO (tY rfl (yn (aQ.mono hm.lez) isAgg44 sizeOf44 rfl) (tAs hS (tO (gb λaA aS=>tf rfl rfl (λa hf=>e_call hf rfl call45 rfl (spec_l7Copy_ok _ aL aP (hm.now aR) _ aS)) ?_)))))
   rintro ah w ⟨aG,rfl,hB⟩
   replace hm:=hm.give hB;clear hB
   refine tAk hm [1,2,3,4] rfl λhS=>tO (tf rfl rfl (λa hf=>e_build (vs:=#[(0,(.agg #[nV aA.params,nV aA.regs,aG]))]) (cs:=[nV aA.params,nV aA.regs,aG]) et_26 hf hm rfl rfl (by kernel_rfl) rfl rfl) ?_)
   rintro _ w ⟨aT,rfl,hm⟩
   replace hm:=hm.els_nil (α:=Code_)
   replace hm:Mem w0 (hp w0) _ [els [] ([]:List Code_),blk aT [nV aA.params,nV aA.regs,aG] 44,ow [nV aA.params,nV aA.regs,aG] (aA:Code_),blk aD [sV aN aO u.codes.length aJ] 28,blk aE [.slice none 0 0] 28,blk aF [aB] 28,ow [aB] aC]:=mk_Code_ aA.params aA.regs hm 2 rfl
   replace hm:=(hm.els_cons 0 2 (by decide) rfl rfl).pk (L':=[_,_,_,_,_,_]) [0,1,3,4,5,6] rfl rfl
   replace hm:=(hm.lit_els 1 0 (by decide) rfl rfl rfl rfl).pk (L':=[_,_,_,_,_]) [1,2,3,4,5] rfl rfl
   refine tAk hm [1,2,3,4] rfl λhS=>tO (gb λai aV=>?_)
   obtain ⟨aW,aX⟩:=appM_some.1 aV
   replace hm:=(hm.both 4 0 (by decide) rfl rfl).pk (L':=[_,_,_,_]) [1,2,3,4] rfl rfl
   refine tf rfl rfl (λa hf=>e_appendD (xs:=aC) (ys:=([aA]:List Code_)) 3 et_26 hf hm rfl rfl rfl rfl aW) ?_
   rintro aY w hm
   rw [aX] at hm
   refine tAn rfl (tP rfl (λw=>yF fo_28_0 rfl) (tO (tf0 rfl rfl (λa hf=>e_store1 2 hf hm rfl sizeOf26 rfl rfl rfl (rep_one (hm.ow_rep 3 rfl)) rfl) ?_)))
   rintro _ w hm
   exact tAn rfl (tE (gR (gM rfl (gP (by omega) (by omega) rfl (gA rfl (gE (gZe λa hf=>⟨aY,hf.sb rfl,hm.pk [0,1,2,3] rfl rfl⟩)))))))
  repeat clear hm
  rintro aj ak a w ⟨aZ,hf,hm⟩ al am
  refine gv hf (gS (gS (gR (gM rfl (gF fo_28_0 rfl (gL hm 0 isAgg26 rfl ?_))))))
  obtain ⟨an,ao,rfl,ap⟩:=ro_slice h1
  exact gY (yV st_26 rfl) (gB rfl (gE (go _ 10 rfl (decide_eq_false (by omega)) (gcf rfl (gXt (gHh (gS (gR (gY (yn (hm.blk_at 2 rfl) isAgg28 sizeOf28 rfl) (gSN hm 1 sizeOf28 (one_cons (rep_one (hm.ow_rep 3 rfl)) one_nil) rfl λw hm=>gE (gRt (grc 1 results20 hm rfl isAgg28 sizeOf28 ⟨aZ,rfl,hm.pk [3] rfl rfl⟩))))))))))))
theorem spec_l12Has_ok (w0 : World) (u : Unit_) (v1 : Value) (h1 : GT.rep (hp w0) [v1] u.codes) (k_ : Int) :
    ConM Tryz.prog 18 [(.agg #[v1]),nV k_] w0 (spec_l12Has u k_) λr v w'=>v=(.bool (r))∧Below w0.heap.size w0 w':=by
  unfold spec_l12Has
  refine gcon func18 rfl λr=>?_
  have hm:=Mem.start w0
  refine gS (gR (gBx hm rfl λaC w hm=>gA rfl (gE (gS (gJ hm (λaA=>[(4,(.bool (aA)))]) (λaA=>[]) (λaA=>?_) ?_)))))
  ·refine gR (gY (yn (hm.blk_at 0 rfl) isAgg28 sizeOf28 rfl) (gC hm rfl call22 (spec_UnitValid_ok _ u v1 (hm.now h1)) fun aD aE w hm => gM rfl (gs 7 rfl (fun aB => ?_) fun aB => ?_)))
   ·refine gM rfl (gF fo_28_0 rfl (gL hm 0 isAgg26 rfl ?_))
    obtain ⟨aF,aG,rfl,aH⟩:=ro_slice h1
    exact gY (yV st_26 rfl) (gY (yS (by omega) (by omega) rfl) (gC hm rfl call19 (spec_l1In_ok _ k_ 0 (((u.codes.length:Int)) - 1)) λaI aJ w hm=>gKt rfl (gA rfl (gE (gz hm [] rfl)))))
   exact gO rfl (gO rfl (gO rfl (gO rfl (gO rfl (gO rfl (gKf rfl (gA rfl (gE (gz hm [] rfl)))))))))
  repeat clear hm
  intro aA w hm
  exact gRt (gr1 results18 rfl ⟨rfl,hm.below⟩)
theorem spec_CallPlaces_ok (w0 : World) (u : Unit_) (v1 : Value) (h1 : GT.rep (hp w0) [v1] u.codes) (k_ : Int) :
    ConM Tryz.prog 32 [(.agg #[v1]),nV k_] w0 (spec_CallPlaces u k_) λr v w'=>∃ (x1:Value),v=x1∧Mem w0 (hp w0) w' [ow [x1] r]:=by
  unfold spec_CallPlaces
  refine gcon func32 rfl λr=>?_
  have hm:=Mem.start w0
  refine gS (gR (gBx hm rfl λay w hm=>gA rfl (gE (gS (gR (gf rfl (λa hf=>e_build0 (α:=List Int) et_59 hm rfl) ?_))))))
  rintro aa w hm
  refine gA rfl (gE (gS (gS (gR (gY (yn (hm.blk_at 1 rfl) isAgg28 sizeOf28 rfl) (gM rfl (gC hm rfl call18 (spec_l12Has_ok _ u v1 (hm.now h1) k_) λaz bA w hm=>gN rfl (gE (gsn 13 rfl (λab=>?_) λab=>?_)))))))))
  ·exact gct rfl (gS (gR (gM rfl (gA rfl (gE (gRt (gr1 results32 rfl ⟨aa,rfl,hm.pk [0] rfl rfl⟩)))))))
  refine gcf rfl (gSk (gS (gR (gF fo_28_0 rfl (gL hm 1 isAgg26 rfl (gM rfl (gg λaA ac aL=>?_)))))))
  obtain ⟨bB,bC,bD,he⟩:=idx_form' h1 aL
  subst he
  obtain ⟨ae,af,aE⟩:=rk_Code_ h1 aL
  refine gI st_26 ac (idx_lt aL) rfl (gY (yn (af.mono hm.lez) isAgg44 sizeOf44 rfl) (gAl hm zeroValue44 rfl λaD w hm=>gSN hm 0 sizeOf44 (one_cons rfl (one_cons rfl (one_cons (rep_one aE) one_nil))) rfl λw hm=>gE (gS (gS (gR (gA rfl (gE ?_)))))))
  obtain ⟨ah,ai,rfl,bE⟩:=ro_slice (hm.ow_rep 1 rfl)
  refine gBk (gNg (λaB aM a w=>∃ (aN:Value),St 56 [(5,aN),(6,(pV aD)),(7,(nV aB))] w0 (hp w0) [ow [aN] aM,blk aD [nV aA.params,nV aA.regs,ae] 44] a w) (λa hf=>⟨.slice ah ([]:List (List Int)).length ai,hf.sb rfl,hm.pk [1,0] rfl rfl⟩) ?_ ?_)
  ·repeat clear hm
   rintro _ _ aB aM a w ⟨aN,hf,hm⟩ bF bG bH _
   refine gv hf (gS (gS (gR (gM rfl (gF fo_44_2 rfl (gL hm 1 isAgg42 rfl ?_))))))
   obtain ⟨aV,aG,rfl,bJ⟩:=ro_slice aE
   refine gY (yV st_42 rfl) (gB rfl (gE (go _ 24 rfl (decide_eq_true (by omega)) (gct rfl (gSk (gS (gBk (gS (gR (gA rfl (gE ?_)))))))))))
   obtain ⟨aj,ak,rfl,bK⟩:=ro_slice (hm.ow_rep 0 rfl)
   refine gJg (λaO a w=>∃ (aH:Value),St 56 [(5,aH),(6,(pV aD)),(7,(nV aB))] w0 (hp w0) [ow [aH] aO,blk aD [nV aA.params,nV aA.regs,.slice aV aA.blocks.length aG] 44] a w) (λaO=>?_) ?_
   ·refine gBk (gMg (fun aC a w => ∃ (aF : Value), St 56 [(5, aF), (6, (pV aD)), (7, (nV aB)), (8, (nV aC.2))] w0 (hp w0) [ow [aF] aC.1, blk aD [nV aA.params, nV aA.regs, .slice aV aA.blocks.length aG] 44] a w) (fun a hf => ⟨.slice aj aM.length ak, hf.sb rfl, hm.pk [0, 1] rfl rfl⟩) ?_)
    repeat clear hm
    rintro bL al aC a w ⟨aF,hf,hm⟩ bM am
    refine gv hf (gS (gS (gR (gM rfl (gF fo_44_2 rfl (gL hm 1 isAgg42 rfl (gM rfl (gg λbN aW aI=>?_))))))))
    obtain ⟨aX,aY,bO,he⟩:=idx_form' aE aI
    obtain ⟨rfl,_,rfl⟩:=sl3 he
    obtain ⟨bP,bQ,bR,aZ,bS,aP,bT⟩:=rk_Block_ aE aI
    refine gI st_42 aW (idx_lt aI) rfl (gF fo_49_1 rfl (gY (yl isAgg46 ((aZ.mono hm.lez).cell (j:=1) rfl) rfl) ?_))
    obtain ⟨bU,bV,rfl,bW⟩:=ro_slice aP
    refine gY (yV st_46 rfl) (gB rfl (gE (gsd 35 rfl (λan=>?_) λan=>?_)))
    ·refine gct rfl (gSk (gS (gJg (fun aQ a w => ∃ (aJ : Value), St 56 [(5, aJ), (6, (pV aD)), (7, (nV aB)), (8, (nV aC.2))] w0 (hp w0) [ow [aJ] aQ, blk aD [nV aA.params, nV aA.regs, sV aX aY aA.blocks.length aG] 44] a w) (fun aQ => ?_) ?_)))
     ·refine gBk (gS (gR (gF fo_44_2 rfl (gL hm 1 isAgg42 rfl (gM rfl (gI st_42 aW (idx_lt aI) rfl (gF fo_49_1 rfl (gY (yl isAgg46 ((aZ.mono hm.lez).cell (j := 1) rfl) rfl) (gM rfl (gg fun bX ao aR => ?_))))))))))
      obtain ⟨bY,bZ,b6,he⟩:=idx_form' aP aR
      obtain ⟨rfl,_,rfl⟩:=sl3 he
      obtain ⟨b7,ap,b8⟩:=rk_Ins_ aP aR
      refine gI st_46 ao (idx_lt aR) rfl (gF fo_51_0 rfl (gY (yl isAgg3 ((ap.mono hm.lez).cell (j:=0) rfl) rfl) (gB rfl (gE (gJg (λaS a w=>∃ (aK:Value),St 56 [(5,aK),(6,(pV aD)),(7,(nV aB)),(8,(nV aC.2))] w0 (hp w0) [ow [aK] aS,blk aD [nV aA.params,nV aA.regs,sV aX aY aA.blocks.length aG] 44] a w) (λaS=>?_) ?_)))))
      ·refine gsd 48 rfl (fun aq => ?_) fun aq => ?_
       ·refine gct rfl (gR (gM rfl (gM rfl (gM rfl (gf rfl (fun a hf => e_build (vs := #[(0, (nV aB)), (1, (nV aC.2))]) (cs := [nV aB, nV aC.2]) et_47 hf hm rfl rfl (by kernel_rfl) rfl rfl) ?_)))))
        rintro _ w ⟨aT,rfl,hm⟩
        replace hm:=hm.lit (xs:=([aB,aC.2]:List Int)) 0 rfl rfl rfl rfl
        refine gf rfl (λa hf=>e_build (vs:=#[(0,(sV aT 0 2 2))]) (cs:=[sV aT 0 2 2]) et_59 hf hm rfl rfl (by kernel_rfl) rfl rfl) ?_
        rintro _ w ⟨b9,rfl,hm⟩
        replace hm:=hm.els_nil (α:=List Int)
        replace hm:=hm.imp (c':=ow [sV aT 0 2 2] (([aB,aC.2]:List Int):List Int)) 2 rfl (λF h0=>h0)
        replace hm:=(hm.els_cons 0 2 (by decide) rfl rfl).pk (L':=[_,_,_,_]) [0,1,3,4] rfl rfl
        replace hm:=(hm.lit_els 1 0 (by decide) rfl rfl rfl rfl).pk (L':=[_,_,_]) [1,2,3] rfl rfl
        refine gb λba ar=>?_
        obtain ⟨au,av⟩:=appM_some.1 ar
        replace hm:=(hm.both 1 0 (by decide) rfl rfl).pk (L':=[_,_]) [1,2] rfl rfl
        refine gf rfl (λa hf=>e_appendD (xs:=aC.1) (ys:=([([aB,aC.2]:List Int)]:List (List Int))) 0 et_59 hf hm rfl rfl rfl rfl au) ?_
        rintro aw w hm
        rw [av] at hm
        exact gA rfl (gE (gZ λa hf=>⟨aw,hf.sb rfl,hm.pk [0,1] rfl rfl⟩))
       exact gcf rfl (gSk (gZ λa hf=>⟨aF,hf.sb rfl,hm.pk [0,1] rfl rfl⟩))
      repeat clear hm
      rintro aS a w ⟨aK,hf,hm⟩
      exact gv hf (gZ λa hf=>⟨aK,hf.sb rfl,hm.pk [0,1] rfl rfl⟩)
     repeat clear hm
     rintro aQ a w ⟨aJ,hf,hm⟩
     exact gv hf (gR (gM rfl (gB rfl (gA rfl (gE (gZe λa hf=>⟨aJ,hf.sb rfl,hm.pk [0,1] rfl rfl⟩))))))
    exact gcf rfl (gXt (gHh (gLp am al (gZ λa hf=>⟨aF,hf.sb rfl,hm.pk [0,1] rfl rfl⟩))))
   repeat clear hm
   rintro aO a w ⟨aH,hf,hm⟩
   exact gv hf (gR (gM rfl (gP (by omega) (by omega) rfl (gA rfl (gE (gZe λa hf=>⟨aH,hf.sb rfl,hm.pk [0,1] rfl rfl⟩))))))
  repeat clear hm
  rintro bc bd a w ⟨ax,hf,hm⟩ be bf
  refine gv hf (gS (gS (gR (gM rfl (gF fo_44_2 rfl (gL hm 1 isAgg42 rfl ?_))))))
  obtain ⟨bg,bh,rfl,bi⟩:=ro_slice aE
  exact gY (yV st_42 rfl) (gB rfl (gE (go _ 24 rfl (decide_eq_false (by omega)) (gcf rfl (gXt (gHh (gS (gR (gM rfl (gA rfl (gE (gRt (gr1 results32 rfl ⟨ax,rfl,hm.pk [0] rfl rfl⟩)))))))))))))
theorem spec_l19Size_ok (w0 : World) (c_ : Code_) (v1 : Value) (h1 : GT.rep (hp w0) [v1] c_.blocks) :
    ConM Tryz.prog 33 [(.agg #[nV c_.params,nV c_.regs,v1])] w0 (spec_l19Size c_) λr v w'=>v=(nV r)∧Below w0.heap.size w0 w':=by
  unfold spec_l19Size
  refine gcon func33 rfl λr=>?_
  have hm:=Mem.start w0
  refine gS (gR (gBx hm rfl λaB w hm=>gA rfl (gE (gS (gR (gA rfl (gE (gS (gS (gR (gA rfl (gE (gBk (gNf hm (λaC aD=>[(1,(pV aB)),(3,(nV aD)),(4,(nV aC))]) (λaC aD=>[blk aB [nV c_.params,nV c_.regs,v1] 44]) [0] rfl ?_ ?_))))))))))))))
  ·repeat clear hm
   intro _ _ aC aD w hm aK aL aM _
   refine gS (gS (gR (gM rfl (gF fo_44_2 rfl (gL hm 0 isAgg42 rfl ?_)))))
   obtain ⟨aG,aH,rfl,aN⟩:=ro_slice h1
   refine gY (yV st_42 rfl) (gB rfl (gE (go _ 9 rfl (decide_eq_true (by omega)) (gct rfl (gSk (gS (gBk (gW (.p 0 (.p 1 (.p 3 (.p 9 (.p 11 (.q 2 (.p 4 (.p 5 (.q 6 (.p 7 (.p 8 (.e 10 (.p 12 (.p 13 (.e 14 (.p 15 (.p 16 (.p 17 .fin))) .nil))) .nil)))))))))))) [10,14] [0,1,3,4,5,7,8,9,11,12,13,15,16,17] hm [0] [blk aB [nV c_.params,nV c_.regs,.slice aG c_.blocks.length aH] 44] rfl mxo (by kernel_rfl) (λ_ _ _ h=>h.2) λw hm hS=>tP rfl (λw=>yM rfl) (tP rfl (λw=>yF fo_44_2 rfl) (tP rfl (λw=>yM rfl) (tP rfl (λw=>yF fo_44_2 rfl) (tP rfl (λw=>yM rfl) (tQ rfl hS (λw hm=>yL hm 0 isAgg42 rfl) (gg λaO aE aA=>?_))))))))))))))
   obtain ⟨aP,aQ,aR,he⟩:=idx_form' h1 aA
   obtain ⟨rfl,_,rfl⟩:=sl3 he
   obtain ⟨aS,aT,aV,aF,aI,aJ,aW⟩:=rk_Block_ h1 aA
   refine tP rfl (λw=>yI st_42 aE (idx_lt aA) rfl) (tP rfl (λw=>yF fo_49_1 rfl) (tQ rfl hS (λw hm=>yl isAgg46 ((aF.mono hm.lez).cell (j:=1) rfl) rfl) ?_))
   obtain ⟨aX,aY,rfl,aZ⟩:=ro_slice aJ
   refine tP rfl (λw=>yV st_46 rfl) (tP rfl (λw=>yB rfl) (tO (tY rfl (yL hm 0 isAgg42 rfl) (tAs hS (tP rfl (λw=>yI st_42 aE (idx_lt aA) rfl) (tP rfl (λw=>yF fo_49_0 rfl) (tO (tY rfl (yl isAgg45 ((aF.mono hm.lez).cell (j:=0) rfl) rfl) (tAs hS ?_)))))))))
   obtain ⟨aa,ab,rfl,ac⟩:=ro_slice aI
   exact tP rfl (λw=>yV st_45 rfl) (tP rfl (λw=>yB rfl) (tP rfl (λw=>yA rfl) (tE (gR (gM rfl (gP (by omega) (by omega) rfl (gA rfl (gE (gze hm [0] rfl)))))))))
  repeat clear hm
  intro ae af w hm ah ai
  refine gS (gS (gR (gM rfl (gF fo_44_2 rfl (gL hm 0 isAgg42 rfl ?_)))))
  obtain ⟨aj,ak,rfl,al⟩:=ro_slice h1
  exact gY (yV st_42 rfl) (gB rfl (gE (go _ 9 rfl (decide_eq_false (by omega)) (gcf rfl (gXt (gHh (gS (gR (gM rfl (gA rfl (gE (gRt (gr1 results33 rfl ⟨rfl,hm.below⟩)))))))))))))
theorem spec_l7Each_ok (w0 : World) (c_ : Code_) (v1 : Value) (h1 : GT.rep (hp w0) [v1] c_.blocks) (to : List Int) (v2 : Value) (h2 : GT.rep (hp w0) [v2] to) :
    ConM Tryz.prog 46 [(.agg #[nV c_.params,nV c_.regs,v1]),v2] w0 (spec_l7Each c_ to) λr v w'=>∃ (x1:Value),v=(.agg #[nV r.params,nV r.regs,x1])∧Mem w0 (hp w0) w' [ow [x1] r.blocks]:=by
  unfold spec_l7Each
  refine gcon func46 rfl λr=>?_
  have hm:=Mem.start w0
  refine gS (gR (gBx hm rfl λcY w hm=>gAl hm zeroValue44 rfl λaI w hm=>gE (gS (gR (gY (yn (hm.blk_at 1 rfl) isAgg44 sizeOf44 rfl) (gCg rfl call45 (spec_l7Copy_ok _ c_ v1 (hm.now h1)) ?_))))))
  rintro aA cZ c4 w ⟨c5,rfl,hB⟩
  replace hm:=hm.give hB;clear hB
  refine gAl hm zeroValue44 rfl λaJ w hm=>gSN hm 0 sizeOf44 (one_cons rfl (one_cons rfl (one_cons (rep_one (hm.ow_rep 1 rfl)) one_nil))) rfl λw hm=>gE (gS (gS (gR (gA rfl (gE ?_)))))
  obtain ⟨aw,aF,rfl,c6⟩:=ro_slice (hm.ow_rep 1 rfl)
  refine gBk (gNf hm (λaH aP=>[(1,v2),(4,(pV aI)),(5,(pV aJ)),(6,(nV aH))]) (λaH aP=>[blk aI [nV 0,nV 0,.slice none 0 0] 44,blk aJ [nV aA.params,nV aA.regs,.slice aw aA.blocks.length aF] 44,ow [.slice aw aA.blocks.length aF] aP]) [2,0,1] rfl ?_ ?_)
  ·repeat clear hm
   intro _ _ aH aP w hm c7 c8 c9 _
   refine gS (gS (gR (gM rfl (gF fo_44_2 rfl (gL hm 1 isAgg42 rfl ?_)))))
   have ca:=rep_len (hm.ow_rep 2 rfl)
   refine gY (yV st_42 rfl) (gB rfl (gE (go _ 18 rfl (decide_eq_true (by omega)) (gct rfl (gSk (gS (gJ hm (λay=>[(1,v2),(4,(pV aI)),(5,(pV aJ)),(6,(nV aH))]) (λay=>[blk aI [nV 0,nV 0,.slice none 0 0] 44,blk aJ [nV aA.params,nV aA.regs,.slice aw aA.blocks.length aF] 44,ow [.slice aw aA.blocks.length aF] ay]) (λay=>?_) ?_)))))))
   ·refine gBk (gS (gR (gF fo_44_2 rfl (gL hm 1 isAgg42 rfl (gM rfl (gg fun aB bx am => ?_))))))
    obtain ⟨aD,aE,cb,he⟩:=idx_form' (hm.ow_rep 2 rfl) am
    obtain ⟨rfl,_,rfl⟩:=sl3 he
    obtain ⟨cd,ce,cf,cg,ci,cj,ck⟩:=rk_Block_ (hm.ow_rep 2 rfl) am
    have hL2_1:=rep_slice_len (hm.ow_rep 2 rfl)
    refine gI st_42 bx (idx_lt2 am hL2_1) rfl (gA rfl (gE ?_))
    obtain ⟨aN,aO,aG,hm⟩:=pin_Block_ hm 2 rfl am
    refine gS (gS (gR (gA rfl (gE (gJ hm (λaT=>[(1,v2),(4,(pV aI)),(5,(pV aJ)),(6,(nV aH)),(7,(.pointer (some ⟨aD,aE+(aH).toNat*5,none⟩)))]) (λaT=>[blk aI [nV 0,nV 0,.slice none 0 0] 44,blk aJ [nV aA.params,nV aA.regs,sV aD aE aA.blocks.length aF] 44,holeE aD aE aA.blocks.length aF (aP:List Block_) (aH).toNat [aN,aO,nV aB.jump,nV aB.on,aG],ow [aN] aT,ow [aO] aB.ins,ow [aG] aB.next_]) (λaT=>?_) ?_)))))
    ·refine gBk (gMf hm (fun aL => [(1, v2), (4, (pV aI)), (5, (pV aJ)), (6, (nV aH)), (7, (.pointer (some ⟨aD, aE + (aH).toNat * 5, none⟩))), (8, (nV aL.2))]) (fun aL => [blk aI [nV 0, nV 0, .slice none 0 0] 44, blk aJ [nV aA.params, nV aA.regs, sV aD aE aA.blocks.length aF] 44, holeE aD aE aA.blocks.length aF (aP : List Block_) (aH).toNat [aN, aO, nV aB.jump, nV aB.on, aG], ow [aN] aL.1, ow [aO] aB.ins, ow [aG] aB.next_]) [3, 4, 5, 2, 1, 0] rfl ?_)
     repeat clear hm
     intro cl bz aL w hm cm cA
     refine gS (gS (gR (gM rfl (gM rfl (gY (yG rfl (y_nilptr rfl rfl)) (gF fo_49_0 rfl (gY (yl isAgg45 ((hm.holeE_at 2 rfl).cell (j:=0) rfl) rfl) ?_)))))))
     obtain ⟨cn,aW,rfl,co⟩:=ro_slice (hm.ow_rep 3 rfl)
     refine gY (yV st_45 rfl) (gB rfl (gE (gsd 31 rfl (λcB=>?_) λcB=>?_)))
     ·refine gct rfl (gSk (gS (gBk (gS (gg fun an bV ax => ?_)))))
      obtain ⟨aX,aY,cq,he⟩:=idx_form' (hm.ow_rep 3 rfl) ax
      obtain ⟨rfl,_,rfl⟩:=sl3 he
      obtain ⟨ao,hm⟩:=pin_Phi_ hm 3 rfl ax
      refine gW (.p 0 (.p 1 (.p 2 (.p 4 (.p 5 (.p 6 (.p 7 (.p 8 (.p 10 (.q 3 (.e 9 (.p 11 (.p 12 (.e 13 (.p 14 (.e 15 (.p 16 (.p 17 (.e 18 .fin .nil))) .nil)) .nil))) .nil))))))))))) [9,13,15] [0,1,2,4,5,6,7,8,10,11,12,14,16,17] hm [0,1,2,3,4,5,6] [ow [ao] an.args,blk aI [nV 0,nV 0,.slice none 0 0] 44,blk aJ [nV aA.params,nV aA.regs,sV aD aE aA.blocks.length aF] 44,holeE aD aE aA.blocks.length aF (aP:List Block_) (aH).toNat [sV aX aY aL.1.length aW,aO,nV aB.jump,nV aB.on,aG],holeE aX aY aL.1.length aW (aL.1:List Phi_) (aL.2).toNat [nV an.to,ao],ow [aO] aB.ins,ow [aG] aB.next_] rfl mxo (by kernel_rfl) (λ_ _ _ h=>h.2) λw hm hS=>tP rfl (λw=>yM rfl) (tP rfl (λw=>yG rfl (y_nilptr rfl rfl)) (tP rfl (λw=>yF fo_49_0 rfl) (tP rfl (λw=>yM rfl) (tP rfl (λw=>yM rfl) (tP rfl (λw=>yM rfl) (tP rfl (λw=>yG rfl (y_nilptr rfl rfl)) (tP rfl (λw=>yF fo_49_0 rfl) (tP rfl (λw=>yM rfl) (tQ rfl hS (λw hm=>yl isAgg45 ((hm.holeE_at 3 rfl).cell (j:=0) rfl) rfl) (tO (tY rfl (yl isAgg45 ((hm.holeE_at 3 rfl).cell (j:=0) rfl) rfl) (tAs hS ?_))))))))))))
      have hL4_1:=hm.holeE_len 4 rfl
      refine tP rfl (λw=>yI st_45 bV (idx_lt2 ax hL4_1) rfl) (tP rfl (λw=>yF fo_105_0 rfl) (tO (tY rfl (yl isAgg3 ((hm.holeE_at 4 rfl).cell (j:=0) rfl) rfl) (tAs hS (gg λae cC bK=>?_)))))
      obtain ⟨bL,bM,bN,he⟩:=idx_form h2 bK
      subst he
      refine tP rfl (λw=>yI st_47 cC (idx_lt bK) rfl) (tO (tY rfl (yl isAgg3 ((flat_cells (cs:=[nV ae]) (hm.now h2) bK rfl).cell (j:=0) rfl) rfl) (tAs hS ?_)))
      have hL4_2:=hm.holeE_len 4 rfl
      refine tP rfl (λw=>yI st_45 bV (idx_lt2 ax hL4_2) rfl) (tP rfl (λw=>yF fo_105_0 rfl) (tO ?_))
      have cD:∀ u∈([nV ae]:List Value),u.oneCell'=true:=(one_cons rfl one_nil)
      refine tf0 rfl rfl (λa hf=>e_storeH (j:=0) (vs:=[nV ae]) 4 hf hm rfl rfl rfl sizeOf3 rfl rfl rfl cD rfl) ?_
      rintro _ w hm
      replace hm:Mem w0 (hp w0) _ [ow [ao] an.args,blk aI [nV 0,nV 0,.slice none 0 0] 44,blk aJ [nV aA.params,nV aA.regs,sV aD aE aA.blocks.length aF] 44,holeE aD aE aA.blocks.length aF (aP:List Block_) (aH).toNat [sV aX aY aL.1.length aW,aO,nV aB.jump,nV aB.on,aG],holeE aX aY aL.1.length aW (aL.1:List Phi_) (aL.2).toNat [nV ae,ao],ow [aO] aB.ins,ow [aG] aB.next_]:=hm
      refine tAn rfl (tE (gS ?_))
      replace hm:Mem w0 (hp w0) _ [ow [nV ae,ao] ((⟨ae,an.args⟩:Phi_):Phi_),blk aI [nV 0,nV 0,.slice none 0 0] 44,blk aJ [nV aA.params,nV aA.regs,sV aD aE aA.blocks.length aF] 44,holeE aD aE aA.blocks.length aF (aP:List Block_) (aH).toNat [sV aX aY aL.1.length aW,aO,nV aB.jump,nV aB.on,aG],holeE aX aY aL.1.length aW (aL.1:List Phi_) (aL.2).toNat [nV ae,ao],ow [aO] aB.ins,ow [aG] aB.next_]:=mk_Phi_ ae hm 0 rfl
      replace hm:=(hm.shutE (y:=((⟨ae,an.args⟩:Phi_):Phi_)) 4 0 (by decide) rfl rfl).pk (L':=[_,_,_,_,_,_]) [1,2,3,4,5,6] rfl rfl
      have cr:=List.getElem?_set_self (a:=((⟨ae,an.args⟩:Phi_):Phi_)) (idx_lt ax)
      refine gR (gA rfl (gE (gJ hm (λaz=>[(1,(sV bL bM to.length bN)),(4,(pV aI)),(5,(pV aJ)),(6,(nV aH)),(7,(.pointer (some ⟨aD,aE+(aH).toNat*5,none⟩))),(8,(nV aL.2))]) (λaz=>[blk aI [nV 0,nV 0,.slice none 0 0] 44,blk aJ [nV aA.params,nV aA.regs,sV aD aE aA.blocks.length aF] 44,holeE aD aE aA.blocks.length aF (aP:List Block_) (aH).toNat [sV aX aY aL.1.length aW,aO,nV aB.jump,nV aB.on,aG],ow [sV aX aY aL.1.length aW] az,ow [aO] aB.ins,ow [aG] aB.next_]) (λaz=>?_) ?_)))
      ·refine gBk (gMf hm (fun aZ => [(1, (sV bL bM to.length bN)), (4, (pV aI)), (5, (pV aJ)), (6, (nV aH)), (7, (.pointer (some ⟨aD, aE + (aH).toNat * 5, none⟩))), (8, (nV aL.2)), (9, (nV aZ.2))]) (fun aZ => [blk aI [nV 0, nV 0, .slice none 0 0] 44, blk aJ [nV aA.params, nV aA.regs, sV aD aE aA.blocks.length aF] 44, holeE aD aE aA.blocks.length aF (aP : List Block_) (aH).toNat [sV aX aY aL.1.length aW, aO, nV aB.jump, nV aB.on, aG], ow [sV aX aY aL.1.length aW] aZ.1, ow [aO] aB.ins, ow [aG] aB.next_]) [0, 1, 2, 3, 4, 5] rfl ?_)
       repeat clear hm
       intro ct cE aZ w hm cu cF
       refine gS (gS (gR (gM rfl (gM rfl (gY (yG rfl (y_nilptr rfl rfl)) (gF fo_49_0 rfl (gY (yl isAgg45 ((hm.holeE_at 2 rfl).cell (j:=0) rfl) rfl) (gM rfl (gg λaM bO af=>?_)))))))))
       obtain ⟨cv,cw,cx⟩:=rk_Phi_ (hm.ow_rep 3 rfl) af
       have hL6_1:=rep_slice_len (hm.ow_rep 3 rfl)
       refine gI st_45 bO (idx_lt2 af hL6_1) rfl (gF fo_105_1 rfl ?_)
       obtain ⟨cy,hm⟩:=pin_Phi_ hm 3 rfl af
       refine gY (yl isAgg47 ((hm.holeE_at 4 rfl).cell (j:=1) rfl) rfl) ?_
       obtain ⟨bA,bB,rfl,cz⟩:=ro_slice (hm.ow_rep 0 rfl)
       refine gY (yV st_47 rfl) (gB rfl (gE (gsd 62 rfl (λcG=>?_) λcG=>?_)))
       ·refine gct rfl (gSk (gS (gBk ?_)))
        replace hm:Mem w0 (hp w0) _ [ow [nV aM.to,.slice bA aM.args.length bB] (aM:Phi_),blk aI [nV 0,nV 0,.slice none 0 0] 44,blk aJ [nV aA.params,nV aA.regs,sV aD aE aA.blocks.length aF] 44,holeE aD aE aA.blocks.length aF (aP:List Block_) (aH).toNat [sV aX aY aL.1.length aW,aO,nV aB.jump,nV aB.on,aG],holeE aX aY aL.1.length aW (aZ.1:List Phi_) (aL.2).toNat [nV aM.to,.slice bA aM.args.length bB],ow [aO] aB.ins,ow [aG] aB.next_]:=mk_Phi_ aM.to hm 0 rfl
        replace hm:=(hm.shutE (y:=(aM:Phi_)) 4 0 (by decide) rfl rfl).pk (L':=[_,_,_,_,_,_]) [1,2,3,4,5,6] rfl rfl
        rw [set_same af] at hm
        obtain ⟨bW,hm⟩:=pin_Phi_ hm 3 rfl af
        refine gJ hm (λbC=>[(1,(sV bL bM to.length bN)),(4,(pV aI)),(5,(pV aJ)),(6,(nV aH)),(7,(.pointer (some ⟨aD,aE+(aH).toNat*5,none⟩))),(8,(nV aL.2)),(9,(nV aZ.2))]) (λbC=>[blk aI [nV 0,nV 0,.slice none 0 0] 44,blk aJ [nV aA.params,nV aA.regs,sV aD aE aA.blocks.length aF] 44,holeE aD aE aA.blocks.length aF (aP:List Block_) (aH).toNat [sV aX aY aL.1.length aW,aO,nV aB.jump,nV aB.on,aG],ow [sV aX aY aL.1.length aW] bC,ow [aO] aB.ins,ow [aG] aB.next_]) (λbC=>?_) ?_
        ·refine gW (.p 0 (.p 1 (.p 2 (.p 4 (.p 8 (.p 9 (.p 10 (.p 11 (.p 12 (.p 14 (.p 18 (.q 3 (.p 5 (.p 6 (.q 13 (.p 15 (.p 16 (.e 7 (.e 17 (.p 19 (.e 20 (.p 21 (.e 22 (.p 23 (.e 24 .fin .nil)) .nil)) .nil)) .nil) (.e 17 (.p 19 (.q 20 (.p 21 (.q 22 (.e 7 (.p 23 (.e 24 .fin .nil)) .nil))))) .nil))))))))))))))))))) [3, 7, 13, 17, 20, 22] [0, 1, 2, 4, 5, 6, 8, 9, 10, 11, 12, 14, 15, 16, 18, 19, 21, 23] hm [0, 1, 2, 3, 4, 5, 6] [ow [bW] aM.args, blk aI [nV 0, nV 0, .slice none 0 0] 44, blk aJ [nV aA.params, nV aA.regs, sV aD aE aA.blocks.length aF] 44, holeE aD aE aA.blocks.length aF (aP : List Block_) (aH).toNat [sV aX aY aL.1.length aW, aO, nV aB.jump, nV aB.on, aG], holeE aX aY aL.1.length aW (aZ.1 : List Phi_) (aL.2).toNat [nV aM.to, bW], ow [aO] aB.ins, ow [aG] aB.next_] rfl mxo (by kernel_rfl) (fun _ _ _ h => h.2) fun w hm hS => tP rfl (fun w => yM rfl) (tP rfl (fun w => yG rfl (y_nilptr rfl rfl)) (tP rfl (fun w => yF fo_49_0 rfl) (tP rfl (fun w => yM rfl) (tP rfl (fun w => yM rfl) (tP rfl (fun w => yM rfl) (tP rfl (fun w => yM rfl) (tP rfl (fun w => yG rfl (y_nilptr rfl rfl)) (tP rfl (fun w => yF fo_49_0 rfl) (tP rfl (fun w => yM rfl) (tP rfl (fun w => yM rfl) (tQ rfl hS (fun w hm => yl isAgg45 ((hm.holeE_at 3 rfl).cell (j := 0) rfl) rfl) ?_)))))))))))
         have hL7_1:=hm.holeE_len 4 rfl
         refine tP rfl (λw=>yI st_45 bO (idx_lt2 af hL7_1) rfl) (tP rfl (λw=>yF fo_105_1 rfl) (tQ rfl hS (λw hm=>yl isAgg45 ((hm.holeE_at 3 rfl).cell (j:=0) rfl) rfl) ?_))
         have hL7_2:=hm.holeE_len 4 rfl
         refine tP rfl (λw=>yI st_45 bO (idx_lt2 af hL7_2) rfl) (tP rfl (λw=>yF fo_105_1 rfl) (gb λbX bY=>gb λab bZ=>tMo ?_ ?_))
         ·refine tY rfl (yl isAgg47 ((hm.holeE_at 4 rfl).cell (j := 1) rfl) rfl) (tAs hS (tO (tY rfl (yl isAgg47 ((hm.holeE_at 4 rfl).cell (j := 1) rfl) rfl) (tAs hS ?_))))
          obtain ⟨b6,ap⟩:=getI_some.1 bY
          obtain ⟨b7,b8,b9,he⟩:=idx_form (hm.ow_rep 0 rfl) ap
          subst he
          refine tP rfl (λw=>yI st_47 b6 (idx_lt ap) rfl) (tO (tY rfl (yl isAgg3 ((flat_cells (cs:=[nV bX]) (hm.ow_rep 0 rfl) ap rfl).cell (j:=0) rfl) rfl) (tAs hS ?_)))
          obtain ⟨cH,ba⟩:=getI_some.1 bZ
          refine tP rfl (λw=>yI st_47 cH (idx_lt ba) rfl) (tO (tY rfl (yl isAgg3 ((flat_cells (cs:=[nV ab]) (hm.now h2) ba rfl).cell (j:=0) rfl) rfl) (tAs hS (tP rfl (λw=>yI st_47 b6 (idx_lt ap) rfl) (tO (tf0 rfl rfl (λa hf=>e_setElem (x1:=ab) (j:=0) (vs:=[nV ab]) 0 hf hm rfl ap rfl sizeOf3 rfl rfl rfl (one_cons rfl one_nil) rfl rfl) ?_))))))
          rintro _ w hm
          have dA:=List.getElem?_set_self (a:=ab) (idx_lt ap)
          refine tAn rfl (tE ?_)
          replace hm:Mem w0 (hp w0) _ [ow [nV aM.to,sV b7 b8 aM.args.length b9] ((⟨aM.to,(aM.args.set (aZ.2).toNat ab)⟩:Phi_):Phi_),blk aI [nV 0,nV 0,.slice none 0 0] 44,blk aJ [nV aA.params,nV aA.regs,sV aD aE aA.blocks.length aF] 44,holeE aD aE aA.blocks.length aF (aP:List Block_) (aH).toNat [sV aX aY aL.1.length aW,aO,nV aB.jump,nV aB.on,aG],holeE aX aY aL.1.length aW (aZ.1:List Phi_) (aL.2).toNat [nV aM.to,sV b7 b8 aM.args.length b9],ow [aO] aB.ins,ow [aG] aB.next_]:=mk_Phi_ aM.to hm 0 rfl
          replace hm:=(hm.shutE (y:=((⟨aM.to,(aM.args.set (aZ.2).toNat ab)⟩:Phi_):Phi_)) 4 0 (by decide) rfl rfl).pk (L':=[_,_,_,_,_,_]) [1,2,3,4,5,6] rfl rfl
          have dB:=List.getElem?_set_self (a:=((⟨aM.to,(aM.args.set (aZ.2).toNat ab)⟩:Phi_):Phi_)) (idx_lt af)
          exact gz hm [0,1,2,3,4,5] rfl
         refine tO (tY rfl (yl isAgg47 ((hm.holeE_at 4 rfl).cell (j:=1) rfl) rfl) (tAs hS ?_))
         obtain ⟨bc,aq⟩:=getI_some.1 bY
         obtain ⟨bd,be,bf,he⟩:=idx_form (hm.ow_rep 0 rfl) aq
         subst he
         refine tP rfl (λw=>yI st_47 bc (idx_lt aq) rfl) (tQ rfl hS (λw hm=>yl isAgg3 ((flat_cells (cs:=[nV bX]) (hm.ow_rep 0 rfl) aq rfl).cell (j:=0) rfl) rfl) ?_)
         obtain ⟨cI,bg⟩:=getI_some.1 bZ
         refine tP rfl (λw=>yI st_47 cI (idx_lt bg) rfl) (tQ rfl hS (λw hm=>yl isAgg3 ((flat_cells (cs:=[nV ab]) (hm.now h2) bg rfl).cell (j:=0) rfl) rfl) (tO (tY rfl (yl isAgg47 ((hm.holeE_at 4 rfl).cell (j:=1) rfl) rfl) (tAs hS (tP rfl (λw=>yI st_47 bc (idx_lt aq) rfl) (tO (tf0 rfl rfl (λa hf=>e_setElem (x1:=ab) (j:=0) (vs:=[nV ab]) 0 hf hm rfl aq rfl sizeOf3 rfl rfl rfl (one_cons rfl one_nil) rfl rfl) ?_)))))))
         rintro _ w hm
         have dC:=List.getElem?_set_self (a:=ab) (idx_lt aq)
         refine tAn rfl (tE ?_)
         replace hm:Mem w0 (hp w0) _ [ow [nV aM.to,sV bd be aM.args.length bf] ((⟨aM.to,(aM.args.set (aZ.2).toNat ab)⟩:Phi_):Phi_),blk aI [nV 0,nV 0,.slice none 0 0] 44,blk aJ [nV aA.params,nV aA.regs,sV aD aE aA.blocks.length aF] 44,holeE aD aE aA.blocks.length aF (aP:List Block_) (aH).toNat [sV aX aY aL.1.length aW,aO,nV aB.jump,nV aB.on,aG],holeE aX aY aL.1.length aW (aZ.1:List Phi_) (aL.2).toNat [nV aM.to,sV bd be aM.args.length bf],ow [aO] aB.ins,ow [aG] aB.next_]:=mk_Phi_ aM.to hm 0 rfl
         replace hm:=(hm.shutE (y:=((⟨aM.to,(aM.args.set (aZ.2).toNat ab)⟩:Phi_):Phi_)) 4 0 (by decide) rfl rfl).pk (L':=[_,_,_,_,_,_]) [1,2,3,4,5,6] rfl rfl
         have dD:=List.getElem?_set_self (a:=((⟨aM.to,(aM.args.set (aZ.2).toNat ab)⟩:Phi_):Phi_)) (idx_lt af)
         exact gz hm [0,1,2,3,4,5] rfl
        repeat clear hm
        intro bC w hm
        exact gR (gM rfl (gB rfl (gA rfl (gE (gze hm [0,1,2,3,4,5] rfl)))))
       refine gcf rfl (gXt (gHh ?_))
       replace hm:Mem w0 (hp w0) _ [ow [nV aM.to,.slice bA aM.args.length bB] (aM:Phi_),blk aI [nV 0,nV 0,.slice none 0 0] 44,blk aJ [nV aA.params,nV aA.regs,sV aD aE aA.blocks.length aF] 44,holeE aD aE aA.blocks.length aF (aP:List Block_) (aH).toNat [sV aX aY aL.1.length aW,aO,nV aB.jump,nV aB.on,aG],holeE aX aY aL.1.length aW (aZ.1:List Phi_) (aL.2).toNat [nV aM.to,.slice bA aM.args.length bB],ow [aO] aB.ins,ow [aG] aB.next_]:=mk_Phi_ aM.to hm 0 rfl
       replace hm:=(hm.shutE (y:=(aM:Phi_)) 4 0 (by decide) rfl rfl).pk (L':=[_,_,_,_,_,_]) [1,2,3,4,5,6] rfl rfl
       rw [set_same af] at hm
       exact gLp cF cE (gz hm [0,1,2,3,4,5] rfl)
      repeat clear hm
      intro az w hm
      exact gR (gM rfl (gB rfl (gA rfl (gE (gze hm [0,1,2,3,4,5] rfl)))))
     exact gcf rfl (gXt (gHh (gLp cA bz (gz hm [0,1,2,3,4,5] rfl))))
    repeat clear hm
    intro aT w hm
    refine gS (gS (gR (gA rfl (gE (gJ hm (λaj=>[(1,v2),(4,(pV aI)),(5,(pV aJ)),(6,(nV aH)),(7,(.pointer (some ⟨aD,aE+(aH).toNat*5,none⟩)))]) (λaj=>[blk aI [nV 0,nV 0,.slice none 0 0] 44,blk aJ [nV aA.params,nV aA.regs,sV aD aE aA.blocks.length aF] 44,holeE aD aE aA.blocks.length aF (aP:List Block_) (aH).toNat [aN,aO,nV aB.jump,nV aB.on,aG],ow [aN] aT,ow [aO] aj,ow [aG] aB.next_]) (λaj=>?_) ?_)))))
    ·refine gBk (gMf hm (fun aK => [(1, v2), (4, (pV aI)), (5, (pV aJ)), (6, (nV aH)), (7, (.pointer (some ⟨aD, aE + (aH).toNat * 5, none⟩))), (10, (nV aK.2))]) (fun aK => [blk aI [nV 0, nV 0, .slice none 0 0] 44, blk aJ [nV aA.params, nV aA.regs, sV aD aE aA.blocks.length aF] 44, holeE aD aE aA.blocks.length aF (aP : List Block_) (aH).toNat [aN, aO, nV aB.jump, nV aB.on, aG], ow [aN] aT, ow [aO] aK.1, ow [aG] aB.next_]) [0, 1, 2, 3, 4, 5] rfl ?_)
     repeat clear hm
     intro dE cJ aK w hm dF cK
     refine gS (gS (gR (gM rfl (gM rfl (gY (yG rfl (y_nilptr rfl rfl)) (gF fo_49_1 rfl (gY (yl isAgg46 ((hm.holeE_at 2 rfl).cell (j:=1) rfl) rfl) ?_)))))))
     obtain ⟨dG,aQ,rfl,dH⟩:=ro_slice (hm.ow_rep 4 rfl)
     refine gY (yV st_46 rfl) (gB rfl (gE (gsd 95 rfl (λcL=>?_) λcL=>?_)))
     ·refine gct rfl (gSk (gS (gBk (gS (gS (gR (gM rfl (gY (yG rfl (y_nilptr rfl rfl)) (gF fo_49_1 rfl (gY (yl isAgg46 ((hm.holeE_at 2 rfl).cell (j := 1) rfl) rfl) (gM rfl (gg fun aV bP ak => ?_))))))))))))
      obtain ⟨aR,aS,dI,he⟩:=idx_form' (hm.ow_rep 4 rfl) ak
      obtain ⟨rfl,_,rfl⟩:=sl3 he
      obtain ⟨dJ,cM,dK⟩:=rk_Ins_ (hm.ow_rep 4 rfl) ak
      refine gI st_46 bP (idx_lt ak) rfl (gF fo_51_0 rfl (gY (yl isAgg3 (cM.cell (j:=0) rfl) rfl) (gC hm rfl call80 (spec_l7Makes_ok _ aV.op) λdL dM w hm=>gE (gJ hm (λbD=>[(1,v2),(4,(pV aI)),(5,(pV aJ)),(6,(nV aH)),(7,(.pointer (some ⟨aD,aE+(aH).toNat*5,none⟩))),(10,(nV aK.2))]) (λbD=>[blk aI [nV 0,nV 0,.slice none 0 0] 44,blk aJ [nV aA.params,nV aA.regs,sV aD aE aA.blocks.length aF] 44,holeE aD aE aA.blocks.length aF (aP:List Block_) (aH).toNat [aN,sV aR aS aK.1.length aQ,nV aB.jump,nV aB.on,aG],ow [aN] aT,ow [sV aR aS aK.1.length aQ] bD,ow [aG] aB.next_]) (λbD=>?_) ?_))))
      ·refine gs 106 rfl (fun cN => ?_) fun cN => ?_
       ·refine gct rfl ?_
        obtain ⟨ar,hm⟩:=pin_Ins_ hm 4 rfl ak
        refine gW (.p 0 (.p 1 (.p 2 (.p 4 (.p 5 (.p 6 (.p 7 (.p 8 (.p 10 (.q 3 (.e 9 (.p 11 (.p 12 (.e 13 (.p 14 (.e 15 (.p 16 (.p 17 (.e 18 .fin .nil))) .nil)) .nil))) .nil))))))))))) [9,13,15] [0,1,2,4,5,6,7,8,10,11,12,14,16,17] hm [0,1,2,3,4,5,6] [ow [ar] aV.args,blk aI [nV 0,nV 0,.slice none 0 0] 44,blk aJ [nV aA.params,nV aA.regs,sV aD aE aA.blocks.length aF] 44,holeE aD aE aA.blocks.length aF (aP:List Block_) (aH).toNat [aN,sV aR aS aK.1.length aQ,nV aB.jump,nV aB.on,aG],ow [aN] aT,holeE aR aS aK.1.length aQ (aK.1:List Ins_) (aK.2).toNat [nV aV.op,nV aV.to,ar,nV aV.n_],ow [aG] aB.next_] rfl mxo (by kernel_rfl) (λ_ _ _ h=>h.2) λw hm hS=>tP rfl (λw=>yM rfl) (tP rfl (λw=>yG rfl (y_nilptr rfl rfl)) (tP rfl (λw=>yF fo_49_1 rfl) (tP rfl (λw=>yM rfl) (tP rfl (λw=>yM rfl) (tP rfl (λw=>yM rfl) (tP rfl (λw=>yG rfl (y_nilptr rfl rfl)) (tP rfl (λw=>yF fo_49_1 rfl) (tP rfl (λw=>yM rfl) (tQ rfl hS (λw hm=>yl isAgg46 ((hm.holeE_at 3 rfl).cell (j:=1) rfl) rfl) (tO (tY rfl (yl isAgg46 ((hm.holeE_at 3 rfl).cell (j:=1) rfl) rfl) (tAs hS ?_))))))))))))
        have hL5_1:=hm.holeE_len 5 rfl
        refine tP rfl (λw=>yI st_46 bP (idx_lt2 ak hL5_1) rfl) (tP rfl (λw=>yF fo_51_1 rfl) (tO (tY rfl (yl isAgg3 ((hm.holeE_at 5 rfl).cell (j:=1) rfl) rfl) (tAs hS (gg λah cO bQ=>?_)))))
        obtain ⟨dN,dO,dP,he⟩:=idx_form h2 bQ
        subst he
        refine tP rfl (λw=>yI st_47 cO (idx_lt bQ) rfl) (tO (tY rfl (yl isAgg3 ((flat_cells (cs:=[nV ah]) (hm.now h2) bQ rfl).cell (j:=0) rfl) rfl) (tAs hS ?_)))
        have hL5_2:=hm.holeE_len 5 rfl
        refine tP rfl (λw=>yI st_46 bP (idx_lt2 ak hL5_2) rfl) (tP rfl (λw=>yF fo_51_1 rfl) (tO ?_))
        have cP:∀ u∈([nV ah]:List Value),u.oneCell'=true:=(one_cons rfl one_nil)
        refine tf0 rfl rfl (λa hf=>e_storeH (j:=1) (vs:=[nV ah]) 5 hf hm rfl rfl rfl sizeOf3 rfl rfl rfl cP rfl) ?_
        rintro _ w hm
        replace hm:Mem w0 (hp w0) _ [ow [ar] aV.args,blk aI [nV 0,nV 0,.slice none 0 0] 44,blk aJ [nV aA.params,nV aA.regs,sV aD aE aA.blocks.length aF] 44,holeE aD aE aA.blocks.length aF (aP:List Block_) (aH).toNat [aN,sV aR aS aK.1.length aQ,nV aB.jump,nV aB.on,aG],ow [aN] aT,holeE aR aS aK.1.length aQ (aK.1:List Ins_) (aK.2).toNat [nV aV.op,nV ah,ar,nV aV.n_],ow [aG] aB.next_]:=hm
        refine tAn rfl (tE ?_)
        replace hm:Mem w0 (hp w0) _ [ow [nV aV.op,nV ah,ar,nV aV.n_] ((⟨aV.op,ah,aV.args,aV.n_⟩:Ins_):Ins_),blk aI [nV 0,nV 0,.slice none 0 0] 44,blk aJ [nV aA.params,nV aA.regs,sV aD aE aA.blocks.length aF] 44,holeE aD aE aA.blocks.length aF (aP:List Block_) (aH).toNat [aN,sV aR aS aK.1.length aQ,nV aB.jump,nV aB.on,aG],ow [aN] aT,holeE aR aS aK.1.length aQ (aK.1:List Ins_) (aK.2).toNat [nV aV.op,nV ah,ar,nV aV.n_],ow [aG] aB.next_]:=mk_Ins_ aV.op ah aV.n_ hm 0 rfl
        replace hm:=(hm.shutE (y:=((⟨aV.op,ah,aV.args,aV.n_⟩:Ins_):Ins_)) 5 0 (by decide) rfl rfl).pk (L':=[_,_,_,_,_,_]) [1,2,3,4,5,6] rfl rfl
        have dQ:=List.getElem?_set_self (a:=((⟨aV.op,ah,aV.args,aV.n_⟩:Ins_):Ins_)) (idx_lt ak)
        exact gz hm [0,1,2,3,4,5] rfl
       exact gcf rfl (gSk (gz hm [0,1,2,3,4,5] rfl))
      repeat clear hm
      intro bD w hm
      refine gS (gR (gA rfl (gE (gJ hm (λbE=>[(1,v2),(4,(pV aI)),(5,(pV aJ)),(6,(nV aH)),(7,(.pointer (some ⟨aD,aE+(aH).toNat*5,none⟩))),(10,(nV aK.2))]) (λbE=>[blk aI [nV 0,nV 0,.slice none 0 0] 44,blk aJ [nV aA.params,nV aA.regs,sV aD aE aA.blocks.length aF] 44,holeE aD aE aA.blocks.length aF (aP:List Block_) (aH).toNat [aN,sV aR aS aK.1.length aQ,nV aB.jump,nV aB.on,aG],ow [aN] aT,ow [sV aR aS aK.1.length aQ] bE,ow [aG] aB.next_]) (λbE=>?_) ?_))))
      ·refine gBk (gMf hm (fun aa => [(1, v2), (4, (pV aI)), (5, (pV aJ)), (6, (nV aH)), (7, (.pointer (some ⟨aD, aE + (aH).toNat * 5, none⟩))), (10, (nV aK.2)), (11, (nV aa.2))]) (fun aa => [blk aI [nV 0, nV 0, .slice none 0 0] 44, blk aJ [nV aA.params, nV aA.regs, sV aD aE aA.blocks.length aF] 44, holeE aD aE aA.blocks.length aF (aP : List Block_) (aH).toNat [aN, sV aR aS aK.1.length aQ, nV aB.jump, nV aB.on, aG], ow [aN] aT, ow [sV aR aS aK.1.length aQ] aa.1, ow [aG] aB.next_]) [0, 1, 2, 3, 4, 5] rfl ?_)
       repeat clear hm
       intro dR cQ aa w hm dS cR
       refine gS (gS (gR (gM rfl (gM rfl (gY (yG rfl (y_nilptr rfl rfl)) (gF fo_49_1 rfl (gY (yl isAgg46 ((hm.holeE_at 2 rfl).cell (j:=1) rfl) rfl) (gM rfl (gg λaC bR ai=>?_)))))))))
       obtain ⟨dT,dU,dV⟩:=rk_Ins_ (hm.ow_rep 4 rfl) ai
       have hL6_2:=rep_slice_len (hm.ow_rep 4 rfl)
       refine gI st_46 bR (idx_lt2 ai hL6_2) rfl (gF fo_51_2 rfl ?_)
       obtain ⟨dW,hm⟩:=pin_Ins_ hm 4 rfl ai
       refine gY (yl isAgg47 ((hm.holeE_at 5 rfl).cell (j:=2) rfl) rfl) ?_
       obtain ⟨bF,bG,rfl,dX⟩:=ro_slice (hm.ow_rep 0 rfl)
       refine gY (yV st_47 rfl) (gB rfl (gE (gsd 135 rfl (λcS=>?_) λcS=>?_)))
       ·refine gct rfl (gSk (gS (gBk ?_)))
        replace hm:Mem w0 (hp w0) _ [ow [nV aC.op,nV aC.to,.slice bF aC.args.length bG,nV aC.n_] (aC:Ins_),blk aI [nV 0,nV 0,.slice none 0 0] 44,blk aJ [nV aA.params,nV aA.regs,sV aD aE aA.blocks.length aF] 44,holeE aD aE aA.blocks.length aF (aP:List Block_) (aH).toNat [aN,sV aR aS aK.1.length aQ,nV aB.jump,nV aB.on,aG],ow [aN] aT,holeE aR aS aK.1.length aQ (aa.1:List Ins_) (aK.2).toNat [nV aC.op,nV aC.to,.slice bF aC.args.length bG,nV aC.n_],ow [aG] aB.next_]:=mk_Ins_ aC.op aC.to aC.n_ hm 0 rfl
        replace hm:=(hm.shutE (y:=(aC:Ins_)) 5 0 (by decide) rfl rfl).pk (L':=[_,_,_,_,_,_]) [1,2,3,4,5,6] rfl rfl
        rw [set_same ai] at hm
        obtain ⟨bh,hm⟩:=pin_Ins_ hm 4 rfl ai
        refine gJ hm (λbH=>[(1,v2),(4,(pV aI)),(5,(pV aJ)),(6,(nV aH)),(7,(.pointer (some ⟨aD,aE+(aH).toNat*5,none⟩))),(10,(nV aK.2)),(11,(nV aa.2))]) (λbH=>[blk aI [nV 0,nV 0,.slice none 0 0] 44,blk aJ [nV aA.params,nV aA.regs,sV aD aE aA.blocks.length aF] 44,holeE aD aE aA.blocks.length aF (aP:List Block_) (aH).toNat [aN,sV aR aS aK.1.length aQ,nV aB.jump,nV aB.on,aG],ow [aN] aT,ow [sV aR aS aK.1.length aQ] bH,ow [aG] aB.next_]) (λbH=>?_) ?_
        ·refine gW (.p 0 (.p 1 (.p 2 (.p 4 (.p 8 (.p 9 (.p 10 (.p 11 (.p 12 (.p 14 (.p 18 (.q 3 (.p 5 (.p 6 (.q 13 (.p 15 (.p 16 (.e 7 (.e 17 (.p 19 (.e 20 (.p 21 (.e 22 (.p 23 (.e 24 .fin .nil)) .nil)) .nil)) .nil) (.e 17 (.p 19 (.q 20 (.p 21 (.q 22 (.e 7 (.p 23 (.e 24 .fin .nil)) .nil))))) .nil))))))))))))))))))) [3, 7, 13, 17, 20, 22] [0, 1, 2, 4, 5, 6, 8, 9, 10, 11, 12, 14, 15, 16, 18, 19, 21, 23] hm [0, 1, 2, 3, 4, 5, 6] [ow [bh] aC.args, blk aI [nV 0, nV 0, .slice none 0 0] 44, blk aJ [nV aA.params, nV aA.regs, sV aD aE aA.blocks.length aF] 44, holeE aD aE aA.blocks.length aF (aP : List Block_) (aH).toNat [aN, sV aR aS aK.1.length aQ, nV aB.jump, nV aB.on, aG], ow [aN] aT, holeE aR aS aK.1.length aQ (aa.1 : List Ins_) (aK.2).toNat [nV aC.op, nV aC.to, bh, nV aC.n_], ow [aG] aB.next_] rfl mxo (by kernel_rfl) (fun _ _ _ h => h.2) fun w hm hS => tP rfl (fun w => yM rfl) (tP rfl (fun w => yG rfl (y_nilptr rfl rfl)) (tP rfl (fun w => yF fo_49_1 rfl) (tP rfl (fun w => yM rfl) (tP rfl (fun w => yM rfl) (tP rfl (fun w => yM rfl) (tP rfl (fun w => yM rfl) (tP rfl (fun w => yG rfl (y_nilptr rfl rfl)) (tP rfl (fun w => yF fo_49_1 rfl) (tP rfl (fun w => yM rfl) (tP rfl (fun w => yM rfl) (tQ rfl hS (fun w hm => yl isAgg46 ((hm.holeE_at 3 rfl).cell (j := 1) rfl) rfl) ?_)))))))))))
         have hL7_3:=hm.holeE_len 5 rfl
         refine tP rfl (λw=>yI st_46 bR (idx_lt2 ai hL7_3) rfl) (tP rfl (λw=>yF fo_51_2 rfl) (tQ rfl hS (λw hm=>yl isAgg46 ((hm.holeE_at 3 rfl).cell (j:=1) rfl) rfl) ?_))
         have hL7_4:=hm.holeE_len 5 rfl
         refine tP rfl (λw=>yI st_46 bR (idx_lt2 ai hL7_4) rfl) (tP rfl (λw=>yF fo_51_2 rfl) (gb λbi bj=>gb λac bk=>tMo ?_ ?_))
         ·refine tY rfl (yl isAgg47 ((hm.holeE_at 5 rfl).cell (j := 2) rfl) rfl) (tAs hS (tO (tY rfl (yl isAgg47 ((hm.holeE_at 5 rfl).cell (j := 2) rfl) rfl) (tAs hS ?_))))
          obtain ⟨bm,au⟩:=getI_some.1 bj
          obtain ⟨bp,bq,br,he⟩:=idx_form (hm.ow_rep 0 rfl) au
          subst he
          refine tP rfl (λw=>yI st_47 bm (idx_lt au) rfl) (tO (tY rfl (yl isAgg3 ((flat_cells (cs:=[nV bi]) (hm.ow_rep 0 rfl) au rfl).cell (j:=0) rfl) rfl) (tAs hS ?_)))
          obtain ⟨cT,bS⟩:=getI_some.1 bk
          obtain ⟨dY,dZ,d2,he⟩:=idx_form h2 bS
          subst he
          refine tP rfl (λw=>yI st_47 cT (idx_lt bS) rfl) (tO (tY rfl (yl isAgg3 ((flat_cells (cs:=[nV ac]) (hm.now h2) bS rfl).cell (j:=0) rfl) rfl) (tAs hS (tP rfl (λw=>yI st_47 bm (idx_lt au) rfl) (tO (tf0 rfl rfl (λa hf=>e_setElem (x1:=ac) (j:=0) (vs:=[nV ac]) 0 hf hm rfl au rfl sizeOf3 rfl rfl rfl (one_cons rfl one_nil) rfl rfl) ?_))))))
          rintro _ w hm
          have d4:=List.getElem?_set_self (a:=ac) (idx_lt au)
          refine tAn rfl (tE ?_)
          replace hm:Mem w0 (hp w0) _ [ow [nV aC.op,nV aC.to,sV bp bq aC.args.length br,nV aC.n_] ((⟨aC.op,aC.to,(aC.args.set (aa.2).toNat ac),aC.n_⟩:Ins_):Ins_),blk aI [nV 0,nV 0,.slice none 0 0] 44,blk aJ [nV aA.params,nV aA.regs,sV aD aE aA.blocks.length aF] 44,holeE aD aE aA.blocks.length aF (aP:List Block_) (aH).toNat [aN,sV aR aS aK.1.length aQ,nV aB.jump,nV aB.on,aG],ow [aN] aT,holeE aR aS aK.1.length aQ (aa.1:List Ins_) (aK.2).toNat [nV aC.op,nV aC.to,sV bp bq aC.args.length br,nV aC.n_],ow [aG] aB.next_]:=mk_Ins_ aC.op aC.to aC.n_ hm 0 rfl
          replace hm:=(hm.shutE (y:=((⟨aC.op,aC.to,(aC.args.set (aa.2).toNat ac),aC.n_⟩:Ins_):Ins_)) 5 0 (by decide) rfl rfl).pk (L':=[_,_,_,_,_,_]) [1,2,3,4,5,6] rfl rfl
          have d5:=List.getElem?_set_self (a:=((⟨aC.op,aC.to,(aC.args.set (aa.2).toNat ac),aC.n_⟩:Ins_):Ins_)) (idx_lt ai)
          exact gz hm [0,1,2,3,4,5] rfl
         refine tO (tY rfl (yl isAgg47 ((hm.holeE_at 5 rfl).cell (j:=2) rfl) rfl) (tAs hS ?_))
         obtain ⟨bs,av⟩:=getI_some.1 bj
         obtain ⟨bt,bu,bv,he⟩:=idx_form (hm.ow_rep 0 rfl) av
         subst he
         refine tP rfl (λw=>yI st_47 bs (idx_lt av) rfl) (tQ rfl hS (λw hm=>yl isAgg3 ((flat_cells (cs:=[nV bi]) (hm.ow_rep 0 rfl) av rfl).cell (j:=0) rfl) rfl) ?_)
         obtain ⟨cU,bT⟩:=getI_some.1 bk
         obtain ⟨d6,d7,d8,he⟩:=idx_form h2 bT
         subst he
         refine tP rfl (λw=>yI st_47 cU (idx_lt bT) rfl) (tQ rfl hS (λw hm=>yl isAgg3 ((flat_cells (cs:=[nV ac]) (hm.now h2) bT rfl).cell (j:=0) rfl) rfl) (tO (tY rfl (yl isAgg47 ((hm.holeE_at 5 rfl).cell (j:=2) rfl) rfl) (tAs hS (tP rfl (λw=>yI st_47 bs (idx_lt av) rfl) (tO (tf0 rfl rfl (λa hf=>e_setElem (x1:=ac) (j:=0) (vs:=[nV ac]) 0 hf hm rfl av rfl sizeOf3 rfl rfl rfl (one_cons rfl one_nil) rfl rfl) ?_)))))))
         rintro _ w hm
         have d9:=List.getElem?_set_self (a:=ac) (idx_lt av)
         refine tAn rfl (tE ?_)
         replace hm:Mem w0 (hp w0) _ [ow [nV aC.op,nV aC.to,sV bt bu aC.args.length bv,nV aC.n_] ((⟨aC.op,aC.to,(aC.args.set (aa.2).toNat ac),aC.n_⟩:Ins_):Ins_),blk aI [nV 0,nV 0,.slice none 0 0] 44,blk aJ [nV aA.params,nV aA.regs,sV aD aE aA.blocks.length aF] 44,holeE aD aE aA.blocks.length aF (aP:List Block_) (aH).toNat [aN,sV aR aS aK.1.length aQ,nV aB.jump,nV aB.on,aG],ow [aN] aT,holeE aR aS aK.1.length aQ (aa.1:List Ins_) (aK.2).toNat [nV aC.op,nV aC.to,sV bt bu aC.args.length bv,nV aC.n_],ow [aG] aB.next_]:=mk_Ins_ aC.op aC.to aC.n_ hm 0 rfl
         replace hm:=(hm.shutE (y:=((⟨aC.op,aC.to,(aC.args.set (aa.2).toNat ac),aC.n_⟩:Ins_):Ins_)) 5 0 (by decide) rfl rfl).pk (L':=[_,_,_,_,_,_]) [1,2,3,4,5,6] rfl rfl
         have da:=List.getElem?_set_self (a:=((⟨aC.op,aC.to,(aC.args.set (aa.2).toNat ac),aC.n_⟩:Ins_):Ins_)) (idx_lt ai)
         exact gz hm [0,1,2,3,4,5] rfl
        repeat clear hm
        intro bH w hm
        exact gR (gM rfl (gB rfl (gA rfl (gE (gze hm [0,1,2,3,4,5] rfl)))))
       refine gcf rfl (gXt (gHh ?_))
       replace hm:Mem w0 (hp w0) _ [ow [nV aC.op,nV aC.to,.slice bF aC.args.length bG,nV aC.n_] (aC:Ins_),blk aI [nV 0,nV 0,.slice none 0 0] 44,blk aJ [nV aA.params,nV aA.regs,sV aD aE aA.blocks.length aF] 44,holeE aD aE aA.blocks.length aF (aP:List Block_) (aH).toNat [aN,sV aR aS aK.1.length aQ,nV aB.jump,nV aB.on,aG],ow [aN] aT,holeE aR aS aK.1.length aQ (aa.1:List Ins_) (aK.2).toNat [nV aC.op,nV aC.to,.slice bF aC.args.length bG,nV aC.n_],ow [aG] aB.next_]:=mk_Ins_ aC.op aC.to aC.n_ hm 0 rfl
       replace hm:=(hm.shutE (y:=(aC:Ins_)) 5 0 (by decide) rfl rfl).pk (L':=[_,_,_,_,_,_]) [1,2,3,4,5,6] rfl rfl
       rw [set_same ai] at hm
       exact gLp cR cQ (gz hm [0,1,2,3,4,5] rfl)
      repeat clear hm
      intro bE w hm
      exact gR (gM rfl (gB rfl (gA rfl (gE (gze hm [0,1,2,3,4,5] rfl)))))
     exact gcf rfl (gXt (gHh (gLp cK cJ (gz hm [0,1,2,3,4,5] rfl))))
    repeat clear hm
    intro aj w hm
    refine gS (gR (gM rfl (gY (yG rfl (y_nilptr rfl rfl)) (gF fo_49_2 rfl (gY (yl isAgg3 ((hm.holeE_at 2 rfl).cell (j:=2) rfl) rfl) (gB rfl (gE (gJ hm (λbJ=>[(1,v2),(4,(pV aI)),(5,(pV aJ)),(6,(nV aH))]) (λbJ=>[blk aI [nV 0,nV 0,.slice none 0 0] 44,blk aJ [nV aA.params,nV aA.regs,sV aD aE aA.blocks.length aF] 44,ow [sV aD aE aA.blocks.length aF] bJ]) (λbJ=>?_) ?_))))))))
    ·refine gsd 166 rfl (fun cV => ?_) fun cV => ?_
     ·refine gct rfl (gR (gM rfl (gM rfl (gM rfl (gY (yG rfl (y_nilptr rfl rfl)) (gF fo_49_3 rfl (gY (yl isAgg3 ((hm.holeE_at 2 rfl).cell (j := 3) rfl) rfl) (gg fun al cW bU => ?_))))))))
      obtain ⟨db,dc,dd,he⟩:=idx_form h2 bU
      subst he
      refine gI st_47 cW (idx_lt bU) rfl (gY (yl isAgg3 ((flat_cells (cs:=[nV al]) (hm.now h2) bU rfl).cell (j:=0) rfl) rfl) (gY (yG rfl (y_nilptr rfl rfl)) (gF fo_49_3 rfl ?_)))
      have cX:∀ u∈([nV al]:List Value),u.oneCell'=true:=(one_cons rfl one_nil)
      refine gf0 rfl (λa hf=>e_storeH (j:=3) (vs:=[nV al]) 2 hf hm rfl rfl rfl sizeOf3 rfl rfl rfl cX rfl) ?_
      rintro _ w hm
      replace hm:Mem w0 (hp w0) _ [blk aI [nV 0,nV 0,.slice none 0 0] 44,blk aJ [nV aA.params,nV aA.regs,sV aD aE aA.blocks.length aF] 44,holeE aD aE aA.blocks.length aF (aP:List Block_) (aH).toNat [aN,aO,nV aB.jump,nV al,aG],ow [aN] aT,ow [aO] aj,ow [aG] aB.next_]:=hm
      refine gE ?_
      replace hm:=(mk_Block_ aB.jump al hm 3 4 5 rfl).pk (L':=[_,_,_,_]) [0,1,2,3] rfl rfl
      replace hm:=(hm.shutE (y:=((⟨aT,aj,aB.jump,al,aB.next_⟩:Block_):Block_)) 2 3 (by decide) rfl rfl).pk (L':=[_,_,_]) [0,1,2] rfl rfl
      have de:=List.getElem?_set_self (a:=((⟨aT,aj,aB.jump,al,aB.next_⟩:Block_):Block_)) (idx_lt am)
      exact gz hm [0,1,2] rfl
     refine gcf rfl (gSk ?_)
     replace hm:=(mk_Block_ aB.jump aB.on hm 3 4 5 rfl).pk (L':=[_,_,_,_]) [0,1,2,3] rfl rfl
     replace hm:=(hm.shutE (y:=((⟨aT,aj,aB.jump,aB.on,aB.next_⟩:Block_):Block_)) 2 3 (by decide) rfl rfl).pk (L':=[_,_,_]) [0,1,2] rfl rfl
     have df:=List.getElem?_set_self (a:=((⟨aT,aj,aB.jump,aB.on,aB.next_⟩:Block_):Block_)) (idx_lt am)
     exact gz hm [0,1,2] rfl
    repeat clear hm
    intro bJ w hm
    exact gz hm [0,1,2] rfl
   repeat clear hm
   intro ay w hm
   exact gR (gM rfl (gP (by omega) (by omega) rfl (gA rfl (gE (gze hm [0,1,2] rfl)))))
  repeat clear hm
  intro dg dh w hm di dk
  refine gS (gS (gR (gM rfl (gF fo_44_2 rfl (gL hm 1 isAgg42 rfl ?_)))))
  have dl:=rep_len (hm.ow_rep 2 rfl)
  exact gY (yV st_42 rfl) (gB rfl (gE (go _ 18 rfl (decide_eq_false (by omega)) (gcf rfl (gXt (gHh (gS (gR (gY (yn (hm.blk_at 1 rfl) isAgg44 sizeOf44 rfl) (gSN hm 0 sizeOf44 (one_cons rfl (one_cons rfl (one_cons rfl one_nil))) rfl λw hm=>gE (gRt (grc 0 results46 hm rfl isAgg44 sizeOf44 ⟨.slice aw aA.blocks.length aF,rfl,hm.pk [2] rfl rfl⟩))))))))))))
theorem spec_l10At_ok (w0 : World) (list : List Int) (v1 : Value) (h1 : GT.rep (hp w0) [v1] list) (n_ : Int) :
    ConM Tryz.prog 84 [v1,nV n_] w0 (spec_l10At list n_) λr v w'=>v=(nV r)∧Below w0.heap.size w0 w':=by
  unfold spec_l10At
  refine gcon func84 rfl λr=>?_
  have hm:=Mem.start w0
  refine gS (gR (gA rfl (gE (gS (gS (gR (gA rfl (gE (gBk (gNf hm (λaA aC=>[(0,v1),(1,(nV n_)),(5,(nV aA))]) (λaA aC=>[]) [] rfl ?_ ?_))))))))))
  ·repeat clear hm
   intro aI aD aA aC w hm aJ aK aL aE
   refine gS (gS (gR (gM rfl (gM rfl ?_))))
   obtain ⟨aM,aN,rfl,aO⟩:=ro_slice h1
   refine gY (yV st_47 rfl) (gB rfl (gE (go _ 9 rfl (decide_eq_true (by omega)) (gct rfl (gSk (gS (gBk (gS (gR (gM rfl (gM rfl (gg λaF aG aB=>?_))))))))))))
   obtain ⟨aP,aQ,aR,he⟩:=idx_form h1 aB
   obtain ⟨rfl,_,rfl⟩:=sl3 he
   refine gI st_47 aG (idx_lt aB) rfl (gY (yl isAgg3 ((flat_cells (cs:=[nV aF]) (hm.now h1) aB rfl).cell (j:=0) rfl) rfl) (gM rfl (gB rfl (gE (gsd 17 rfl (λaH=>?_) λaH=>?_)))))
   ·exact gct rfl (gS (gR (gM rfl (gA rfl (gE (gRt (gLr aE aD (gr1 results84 rfl ⟨rfl,hm.below⟩))))))))
   exact gcf rfl (gSk (gR (gM rfl (gP (by omega) (by omega) rfl (gA rfl (gE (gze hm [] rfl)))))))
  repeat clear hm
  intro aS aT w hm aV aW
  refine gS (gS (gR (gM rfl (gM rfl ?_))))
  obtain ⟨aX,aY,rfl,aZ⟩:=ro_slice h1
  exact gY (yV st_47 rfl) (gB rfl (gE (go _ 9 rfl (decide_eq_false (by omega)) (gcf rfl (gXt (gHh (gS (gR (gA rfl (gE (gRt (gr1 results84 rfl ⟨rfl,hm.below⟩))))))))))))
theorem spec_l12Flow_ok (w0 : World) (hz : Heap) (c_ : Code_) (v1 : Value) (h1 : GT.rep hz [v1] c_.blocks) (s_ : l12Sets) (v2 : Value) (h2 : GT.rep hz [v2] s_.ins) (v3 : Value) (b_ : Int) (next_ : Int) (hm0 : Mem w0 hz w0 [ow [v3] s_.outs]) :
    ConM Tryz.prog 81 [(.agg #[nV c_.params,nV c_.regs,v1]),(.agg #[v2,v3]),nV b_,nV next_] w0 (spec_l12Flow c_ s_ b_ next_) λr v w'=>v=(.bool (r.1))∧Mem w0 hz w' [ow [v3] r.2]:=by
  unfold spec_l12Flow
  refine gcon func81 rfl λr=>?_
  have hm:=hm0
  refine gS (gR (gBx hm rfl λaB w hm=>gBx hm rfl λaC w hm=>gA rfl (gE (gS (gR (gf rfl (λa hf=>e_build0 (α:=Bool) et_73 hm rfl) ?_))))))
  rintro bt w hm
  refine gF fo_76_0 rfl (gL hm 1 isAgg74 rfl (gM rfl (gg λbG bH af=>?_)))
  obtain ⟨aH,aI,aK,he⟩:=idx_form' h2 af
  subst he
  obtain ⟨_,_,ah,bJ⟩:=ro_get' h2 af
  have aW:=bJ
  obtain ⟨ax,rfl,-⟩:=id aW
  replace aW:GT.rep hz [ax] bG:=aW
  replace ah:CellsAt hz aH (aI+(next_).toNat*1) [ax]:=ah
  refine gI st_74 bH (idx_lt af) rfl (gY (yl isAgg73 ((ah.mono hm.lez).cell (j:=0) rfl) rfl) (gb λaD bK=>?_))
  obtain ⟨bL,bM⟩:=appM_some.1 bK
  refine gf rfl (λa hf=>e_append 0 et_73 hf hm rfl (hm.now aW) rfl rfl rfl bL) ?_
  rintro bu w hm
  rw [bM] at hm
  refine gA rfl (gE (gS (gR (gY (yn (hm.blk_at 2 rfl) isAgg44 sizeOf44 rfl) (gM rfl (gCg rfl call83 (spec_l7Preds_ok _ c_ v1 (hm.now h1) next_) ?_))))))
  rintro bN bv bO w ⟨_,rfl,hB⟩
  replace hm:=hm.give hB;clear hB
  refine gM rfl (gC hm rfl call84 (spec_l10At_ok _ bN bO (hm.ow_rep 0 rfl) b_) λbP bx w hm=>gA rfl (gE (gS (gS (gR (gA rfl (gE ?_)))))))
  obtain ⟨aF,aA,rfl,bz⟩:=ro_slice (hm.ow_rep 4 rfl)
  obtain ⟨aL,aE,rfl,cA⟩:=ro_slice (hm.ow_rep 1 rfl)
  refine gJ hm (λaG=>[(2,(nV b_)),(4,(pV aB)),(5,(pV aC)),(9,(.slice aL aD.length aE))]) (λaG=>[blk aB [nV c_.params,nV c_.regs,v1] 44,blk aC [sV aH aI s_.ins.length aK,.slice aF s_.outs.length aA] 76,ow [.slice aF s_.outs.length aA] s_.outs,ow [.slice aL aD.length aE] aG]) (λaG=>?_) ?_
  ·refine gBk (gMf hm (fun aX => [(2, (nV b_)), (3, (nV next_)), (4, (pV aB)), (5, (pV aC)), (9, (.slice aL aD.length aE)), (10, (nV bP)), (11, (nV aX.2))]) (fun aX => [blk aB [nV c_.params, nV c_.regs, v1] 44, blk aC [sV aH aI s_.ins.length aK, .slice aF s_.outs.length aA] 76, ow [.slice aF s_.outs.length aA] s_.outs, ow [.slice aL aD.length aE] aX.1]) [3, 2, 4, 1] rfl ?_)
   repeat clear hm
   intro cB bQ aX w hm cC bR
   refine gS (gS (gR (gM rfl (gF fo_44_2 rfl (gL hm 0 isAgg42 rfl (gM rfl (gg λcD ay aY=>?_)))))))
   obtain ⟨cE,cF,cG,he⟩:=idx_form' h1 aY
   subst he
   obtain ⟨cH,cI,cJ,az,ai,cK,cL⟩:=rk_Block_ h1 aY
   refine gI st_42 ay (idx_lt aY) rfl (gF fo_49_0 rfl (gY (yl isAgg45 ((az.mono hm.lez).cell (j:=0) rfl) rfl) ?_))
   obtain ⟨cM,cN,rfl,cO⟩:=ro_slice ai
   refine gY (yV st_45 rfl) (gB rfl (gE (gsd 34 rfl (λbS=>?_) λbS=>?_)))
   ·refine gct rfl (gSk (gS (gBk (gR (gM rfl (gF fo_44_2 rfl (gL hm 0 isAgg42 rfl (gM rfl (gI st_42 ay (idx_lt aY) rfl (gF fo_49_0 rfl (gY (yl isAgg45 ((az.mono hm.lez).cell (j := 0) rfl) rfl) (gM rfl (gg fun cP bT aj => ?_)))))))))))))
    obtain ⟨cQ,cR,cS,he⟩:=idx_form' ai aj
    obtain ⟨rfl,_,rfl⟩:=sl3 he
    obtain ⟨cT,bU,bA⟩:=rk_Phi_ ai aj
    refine gI st_45 bT (idx_lt aj) rfl (gF fo_105_1 rfl (gY (yl isAgg47 ((bU.mono hm.lez).cell (j:=1) rfl) rfl) (gM rfl (gg λbV bW ak=>?_))))
    obtain ⟨cU,cV,cW,he⟩:=idx_form bA ak
    subst he
    refine gI st_47 bW (idx_lt ak) rfl (gY (yl isAgg3 ((flat_cells (cs:=[nV bV]) (hm.now bA) ak rfl).cell (j:=0) rfl) rfl) (gg λcX bX aZ=>?_))
    obtain ⟨cY,cZ,c4,he⟩:=idx_form (hm.ow_rep 3 rfl) aZ
    obtain ⟨rfl,_,rfl⟩:=sl3 he
    have hL2_1:=rep_slice_len (hm.ow_rep 3 rfl)
    refine gI st_73 bX (idx_lt2 aZ hL2_1) rfl (gf0 rfl (λa hf=>e_setElem (x1:=true) (j:=0) (vs:=[(.bool (true))]) 3 hf hm rfl aZ rfl sizeOf4 rfl rfl rfl (one_cons rfl one_nil) rfl rfl) ?_)
    rintro _ w hm
    have c5:=List.getElem?_set_self (a:=true) (idx_lt aZ)
    exact gE (gR (gM rfl (gB rfl (gA rfl (gE (gze hm [0,1,2,3] rfl))))))
   exact gcf rfl (gXt (gHh (gLp bR bQ (gz hm [0,1,2,3] rfl))))
  repeat clear hm
  intro aG w hm
  refine gS (gR (gA rfl (gE (gS (gS (gR (gA rfl (gE (gBk (gb λ_ bB=>?_))))))))))
  replace bB:=fitI_some.1 bB
  refine gNf hm (λaJ aM=>[(2,(nV b_)),(4,(pV aB)),(5,(pV aC)),(9,(.slice aL aD.length aE)),(12,(.bool (aM.2))),(13,(nV aJ))]) (λaJ aM=>[blk aB [nV c_.params,nV c_.regs,v1] 44,blk aC [sV aH aI s_.ins.length aK,.slice aF s_.outs.length aA] 76,ow [.slice aF s_.outs.length aA] aM.1,ow [.slice aL aD.length aE] aG]) [0,1,2,3] rfl ?_ ?_
  ·repeat clear hm
   intro _ _ aJ aM w hm c6 c7 c8 _
   refine gS (gS (gR (gM rfl (gF fo_44_1 rfl (gL hm 0 isAgg3 rfl (gB rfl (gE (go _ 55 rfl (decide_eq_true (by omega)) (gct rfl (gSk (gS (gJ hm (λaR=>[(2,(nV b_)),(4,(pV aB)),(5,(pV aC)),(9,(.slice aL aD.length aE)),(12,(.bool (aR.2))),(13,(nV aJ))]) (λaR=>[blk aB [nV c_.params,nV c_.regs,v1] 44,blk aC [sV aH aI s_.ins.length aK,.slice aF s_.outs.length aA] 76,ow [.slice aF s_.outs.length aA] aR.1,ow [.slice aL aD.length aE] aG]) (λaR=>?_) ?_))))))))))))
   ·refine gBk (gS (gR (gM rfl (gM rfl (gg fun bY bZ al => ?_)))))
    obtain ⟨aO,aP,c9,he⟩:=idx_form (hm.ow_rep 3 rfl) al
    obtain ⟨rfl,_,rfl⟩:=sl3 he
    have hL2_2:=rep_slice_len (hm.ow_rep 3 rfl)
    refine gI st_73 bZ (idx_lt2 al hL2_2) rfl (gY (yl isAgg4 ((flat_cells (cs:=[(.bool (bY))]) (hm.ow_rep 3 rfl) al rfl).cell (j:=0) rfl) rfl) (gE (gJ hm (λaS=>[(2,(nV b_)),(4,(pV aB)),(5,(pV aC)),(9,(sV aO aP aD.length aE)),(12,(.bool (aS.2))),(13,(nV aJ))]) (λaS=>[blk aB [nV c_.params,nV c_.regs,v1] 44,blk aC [sV aH aI s_.ins.length aK,.slice aF s_.outs.length aA] 76,ow [.slice aF s_.outs.length aA] aS.1,ow [sV aO aP aD.length aE] aG]) (λaS=>?_) ?_)))
    ·refine gs 61 rfl (fun b6 => ?_) fun b6 => ?_
     ·refine gct rfl (gS (gJ hm (fun aa => [(2, (nV b_)), (4, (pV aB)), (5, (pV aC)), (9, (sV aO aP aD.length aE)), (12, (.bool (aa))), (13, (nV aJ))]) (fun aa => [blk aB [nV c_.params, nV c_.regs, v1] 44, blk aC [sV aH aI s_.ins.length aK, .slice aF s_.outs.length aA] 76, ow [.slice aF s_.outs.length aA] aM.1, ow [sV aO aP aD.length aE] aG]) (fun aa => ?_) ?_))
      ·refine gR (gM rfl (gM rfl (gs 63 rfl (fun b7 => ?_) fun b7 => ?_)))
       ·exact gO rfl (gO rfl (gO rfl (gO rfl (gO rfl (gO rfl (gO rfl (gO rfl (gO rfl (gKt rfl (gA rfl (gE (gz hm [0,1,2,3] rfl))))))))))))
       refine gF fo_76_1 rfl (gL hm 1 isAgg74 rfl (gM rfl (gg λaQ b8 aT=>?_)))
       obtain ⟨am,an,ca,he⟩:=idx_form' (hm.ow_rep 2 rfl) aT
       obtain ⟨rfl,_,rfl⟩:=sl3 he
       obtain ⟨_,_,bC,b9⟩:=ro_get' (hm.ow_rep 2 rfl) aT
       have ao:=b9
       obtain ⟨bD,rfl,-⟩:=id ao
       replace ao:GT.rep (hp _) [bD] aQ:=ao
       replace bC:CellsAt (hp _) am (an+(b_).toNat*1) [bD]:=bC
       have hL4_1:=rep_slice_len (hm.ow_rep 2 rfl)
       refine gI st_74 b8 (idx_lt2 aT hL4_1) rfl ?_
       obtain ⟨_,ba,hm⟩:=hm.openE 2 rfl aT
       have bc:=hm.ow_rep 0 rfl
       have ab:=bc
       obtain ⟨ap,rfl,-⟩:=id ab
       replace ab:GT.rep (hp _) [ap] aQ:=ab
       clear ba ab
       replace hm:Mem w0 hz _ [ow [ap] (aQ:List Bool),blk aB [nV c_.params,nV c_.regs,v1] 44,blk aC [sV aH aI s_.ins.length aK,sV am an s_.outs.length aA] 76,holeE am an s_.outs.length aA (aM.1:List (List Bool)) (b_).toNat [ap],ow [sV aO aP aD.length aE] aG]:=hm
       replace hm:=hm.pk (L':=[_,_,_,_,_]) [0,1,2,3,4] rfl rfl
       refine gY (yl isAgg73 ((hm.holeE_at 3 rfl).cell (j:=0) rfl) rfl) (gM rfl (gg λbd be aq=>?_))
       obtain ⟨bf,bg,bh,he⟩:=idx_form (hm.ow_rep 0 rfl) aq
       subst he
       refine gI st_73 be (idx_lt aq) rfl (gY (yl isAgg4 ((flat_cells (cs:=[(.bool (bd))]) (hm.ow_rep 0 rfl) aq rfl).cell (j:=0) rfl) rfl) (gN rfl (gKf rfl (gA rfl (gE ?_)))))
       replace hm:=hm.imp (c':=ow [sV bf bg aQ.length bh] (aQ:List Bool)) 0 rfl (λF h0=>h0)
       replace hm:=(hm.shutE (y:=(aQ:List Bool)) 3 0 (by decide) rfl rfl).pk (L':=[_,_,_,_]) [1,2,3,4] rfl rfl
       rw [set_same aT] at hm
       exact gz hm [0,1,2,3] rfl
      repeat clear hm
      intro aa w hm
      refine gR (gF fo_76_1 rfl (gL hm 1 isAgg74 rfl (gM rfl (gg λaN bi aV=>?_))))
      obtain ⟨ar,au,cb,he⟩:=idx_form' (hm.ow_rep 2 rfl) aV
      obtain ⟨rfl,_,rfl⟩:=sl3 he
      obtain ⟨_,_,bE,bj⟩:=ro_get' (hm.ow_rep 2 rfl) aV
      have av:=bj
      obtain ⟨bF,rfl,-⟩:=id av
      replace av:GT.rep (hp _) [bF] aN:=av
      replace bE:CellsAt (hp _) ar (au+(b_).toNat*1) [bF]:=bE
      have hL3_1:=rep_slice_len (hm.ow_rep 2 rfl)
      refine gI st_74 bi (idx_lt2 aV hL3_1) rfl ?_
      obtain ⟨_,bk,hm⟩:=hm.openE 2 rfl aV
      have bm:=hm.ow_rep 0 rfl
      have ac:=bm
      obtain ⟨aw,rfl,-⟩:=id ac
      replace ac:GT.rep (hp _) [aw] aN:=ac
      clear bk ac
      replace hm:Mem w0 hz _ [ow [aw] (aN:List Bool),blk aB [nV c_.params,nV c_.regs,v1] 44,blk aC [sV aH aI s_.ins.length aK,sV ar au s_.outs.length aA] 76,holeE ar au s_.outs.length aA (aM.1:List (List Bool)) (b_).toNat [aw],ow [sV aO aP aD.length aE] aG]:=hm
      replace hm:=hm.pk (L':=[_,_,_,_,_]) [0,1,2,3,4] rfl rfl
      refine gY (yl isAgg73 ((hm.holeE_at 3 rfl).cell (j:=0) rfl) rfl) (gM rfl (gg λcd bp ae=>?_))
      obtain ⟨bq,br,bs,he⟩:=idx_form (hm.ow_rep 0 rfl) ae
      subst he
      refine gI st_73 bp (idx_lt ae) rfl (gf0 rfl (λa hf=>e_setElem (x1:=true) (j:=0) (vs:=[(.bool (true))]) 0 hf hm rfl ae rfl sizeOf4 rfl rfl rfl (one_cons rfl one_nil) rfl rfl) ?_)
      rintro _ w hm
      have ce:=List.getElem?_set_self (a:=true) (idx_lt ae)
      refine gE ?_
      replace hm:=hm.imp (c':=ow [sV bq br aN.length bs] ((aN.set (aJ).toNat true):List Bool)) 0 rfl (λF h0=>h0)
      replace hm:=(hm.shutE (y:=((aN.set (aJ).toNat true):List Bool)) 3 0 (by decide) rfl rfl).pk (L':=[_,_,_,_]) [1,2,3,4] rfl rfl
      have cf:=List.getElem?_set_self (a:=((aN.set (aJ).toNat true):List Bool)) (idx_lt aV)
      exact gz hm [0,1,2,3] rfl
     exact gcf rfl (gSk (gz hm [0,1,2,3] rfl))
    repeat clear hm
    intro aS w hm
    exact gz hm [0,1,2,3] rfl
   repeat clear hm
   intro aR w hm
   exact gR (gM rfl (gP (by omega) (by omega) rfl (gA rfl (gE (gze hm [0,1,2,3] rfl)))))
  repeat clear hm
  intro cg ci w hm cj ck
  exact gS (gS (gR (gM rfl (gF fo_44_1 rfl (gL hm 0 isAgg3 rfl (gB rfl (gE (go _ 55 rfl (decide_eq_false (by omega)) (gcf rfl (gXt (gHh (gS (gR (gM rfl (gA rfl (gE (gRt (gr1 results81 rfl ⟨rfl,hm.pk [2] rfl rfl⟩))))))))))))))))))
theorem spec_MadeBy_ok (w0 : World) (x_ : Ins_) (v1 : Value) (h1 : GT.rep (hp w0) [v1] x_.args) :
    ConM Tryz.prog 142 [(.agg #[nV x_.op,nV x_.to,v1,nV x_.n_])] w0 (spec_MadeBy x_) λr v w'=>v=(nV r)∧Below w0.heap.size w0 w':=by
  unfold spec_MadeBy
  refine gcon func142 rfl λr=>?_
  have hm:=Mem.start w0
  refine gS (gR (gBx hm rfl λaB w hm=>gA rfl (gE (gS (gS (gR (gF fo_51_0 rfl (gL hm 0 isAgg3 rfl (gC hm rfl call80 (spec_l7Makes_ok _ x_.op) λaC aD w hm=>gE (gs 5 rfl (λaA=>?_) λaA=>?_))))))))))
  ·exact gct rfl (gS (gR (gF fo_51_1 rfl (gL hm 0 isAgg3 rfl (gA rfl (gE (gRt (gr1 results142 rfl ⟨rfl,hm.below⟩))))))))
  exact gcf rfl (gSk (gS (gR (gA rfl (gE (gRt (gr1 results142 rfl ⟨rfl,hm.below⟩)))))))
theorem spec_l12Behind_ok (w0 : World) (c_ : Code_) (v1 : Value) (h1 : GT.rep (hp w0) [v1] c_.blocks) (s_ : l12Sets) (v2 : Value) (h2 : GT.rep (hp w0) [v2] s_.ins) (v3 : Value) (h3 : GT.rep (hp w0) [v3] s_.outs) (b_ : Int) (i_ : Int) :
    ConM Tryz.prog 82 [(.agg #[nV c_.params,nV c_.regs,v1]),(.agg #[v2,v3]),nV b_,nV i_] w0 (spec_l12Behind c_ s_ b_ i_) λr v w'=>∃ (x1:Value),v=x1∧Mem w0 (hp w0) w' [ow [x1] r]:=by
  unfold spec_l12Behind
  refine gcon func82 rfl λr=>?_
  have hm:=Mem.start w0
  refine gS (gR (gBx hm rfl λbK w hm=>gBx hm rfl λbL w hm=>gA rfl (gE (gS (gR (gf rfl (λa hf=>e_build0 (α:=Bool) et_73 hm rfl) ?_))))))
  rintro bM w hm
  refine gF fo_76_1 rfl (gL hm 1 isAgg74 rfl (gM rfl (gg λah ai aT=>?_)))
  obtain ⟨aj,ak,bN,he⟩:=idx_form' h3 aT
  subst he
  obtain ⟨_,_,aV,al⟩:=ro_get' h3 aT
  have aI:=al
  obtain ⟨ab,rfl,-⟩:=id aI
  replace aI:GT.rep (hp w0) [ab] ah:=aI
  replace aV:CellsAt (hp w0) aj (ak+(b_).toNat*1) [ab]:=aV
  refine gI st_74 ai (idx_lt aT) rfl (gY (yl isAgg73 ((aV.mono hm.lez).cell (j:=0) rfl) rfl) (gb λbO am=>?_))
  obtain ⟨an,ao⟩:=appM_some.1 am
  refine gf rfl (λa hf=>e_append 0 et_73 hf hm rfl (hm.now aI) rfl rfl rfl an) ?_
  rintro ac w hm
  rw [ao] at hm
  refine gA rfl (gE (gS (gR (gF fo_44_2 rfl (gL hm 2 isAgg42 rfl (gM rfl (gg λaB ap aW=>?_)))))))
  obtain ⟨bP,bQ,bR,he⟩:=idx_form' h1 aW
  subst he
  obtain ⟨aJ,aq,aK,ar,au,aL,av⟩:=rk_Block_ h1 aW
  refine gI st_42 ap (idx_lt aW) rfl (gY (yn (ar.mono hm.lez) isAgg49 sizeOf49 rfl) (gAl hm zeroValue49 rfl λaE w hm=>gSN hm 0 sizeOf49 (one_cons (rep_one au) (one_cons (rep_one aL) (one_cons rfl (one_cons rfl (one_cons (rep_one av) one_nil))))) rfl λw hm=>gE (gS (gS (gR (gF fo_49_2 rfl (gL hm 0 isAgg3 rfl (gB rfl (gE (gJ hm (λaA=>[(3,(nV i_)),(9,ac),(10,(pV aE))]) (λaA=>[ow [ac] aA,blk aE [aJ,aq,nV aB.jump,nV aB.on,aK] 49]) (λaA=>?_) ?_))))))))))
  ·refine gsd 28 rfl (fun aw => ?_) fun aw => ?_
   ·refine gct rfl (gR (gM rfl (gF fo_49_3 rfl (gL hm 0 isAgg3 rfl (gg fun bS ax aM => ?_)))))
    obtain ⟨bT,bU,bV,he⟩:=idx_form (hm.ow_rep 1 rfl) aM
    subst he
    refine gI st_73 ax (idx_lt aM) rfl (gf0 rfl (λa hf=>e_setElem (x1:=true) (j:=0) (vs:=[(.bool (true))]) 1 hf hm rfl aM rfl sizeOf4 rfl rfl rfl (one_cons rfl one_nil) rfl rfl) ?_)
    rintro _ w hm
    have bW:=List.getElem?_set_self (a:=true) (idx_lt aM)
    exact gE (gz hm [1,0] rfl)
   exact gcf rfl (gSk (gz hm [1,0] rfl))
  repeat clear hm
  intro aA w hm
  refine gS (gS (gR (gF fo_49_1 rfl (gL hm 1 isAgg46 rfl ?_))))
  obtain ⟨ay,aX,rfl,bX⟩:=ro_slice aL
  refine gY (yV st_46 rfl) (gY (yS (by omega) (by omega) rfl) (gA rfl (gE ?_)))
  obtain ⟨aC,aD,rfl,bY⟩:=ro_slice (hm.ow_rep 0 rfl)
  refine gJ hm (λaN=>[(9,(.slice aC aA.length aD))]) (λaN=>[ow [.slice aC aA.length aD] aN]) (λaN=>?_) ?_
  ·refine gBk (gMf hm (fun aF => [(3, (nV i_)), (9, (.slice aC aA.length aD)), (10, (pV aE)), (11, (nV aF.2))]) (fun aF => [ow [.slice aC aA.length aD] aF.1, blk aE [aJ, .slice ay aB.ins.length aX, nV aB.jump, nV aB.on, aK] 49]) [0, 1] rfl ?_)
   repeat clear hm
   intro bZ az aF w hm b6 bA
   refine gS (gS (gR (gM rfl (gM rfl (gB rfl (gE (gsd 39 rfl (λbB=>?_) λbB=>?_)))))))
   ·refine gct rfl (gSk (gS (gBk (gS (gR (gF fo_49_1 rfl (gL hm 1 isAgg46 rfl (gM rfl (gg fun bC aO aG => ?_)))))))))
    obtain ⟨ae,af,b7,he⟩:=idx_form' aL aG
    obtain ⟨rfl,_,rfl⟩:=sl3 he
    obtain ⟨bD,aP,aH⟩:=rk_Ins_ aL aG
    refine gI st_46 aO (idx_lt aG) rfl (gY (yn (aP.mono hm.lez) isAgg51 sizeOf51 rfl) (gC hm rfl call142 (spec_MadeBy_ok _ bC bD (hm.now aH)) λb8 b9 w hm=>gA rfl (gE (gS (gS (gR (gM rfl (gB rfl (gE (gJ hm (λaQ=>[(3,(nV i_)),(9,(.slice aC aA.length aD)),(10,(pV aE)),(11,(nV aF.2))]) (λaQ=>[ow [.slice aC aA.length aD] aQ,blk aE [aJ,sV ae af aB.ins.length aX,nV aB.jump,nV aB.on,aK] 49]) (λaQ=>?_) ?_))))))))))
    ·refine gsd 49 rfl (fun bE => ?_) fun bE => ?_
     ·refine gct rfl (gR (gM rfl (gM rfl (gg fun ba bF aR => ?_))))
      obtain ⟨bc,bd,be,he⟩:=idx_form (hm.ow_rep 0 rfl) aR
      obtain ⟨rfl,_,rfl⟩:=sl3 he
      have hL3_1:=rep_slice_len (hm.ow_rep 0 rfl)
      refine gI st_73 bF (idx_lt2 aR hL3_1) rfl (gf0 rfl (λa hf=>e_setElem (x1:=false) (j:=0) (vs:=[(.bool (false))]) 0 hf hm rfl aR rfl sizeOf4 rfl rfl rfl (one_cons rfl one_nil) rfl rfl) ?_)
      rintro _ w hm
      have bf:=List.getElem?_set_self (a:=false) (idx_lt aR)
      exact gE (gz hm [0,1] rfl)
     exact gcf rfl (gSk (gz hm [0,1] rfl))
    repeat clear hm
    intro aQ w hm
    refine gS (gR (gA rfl (gE (gBk (gNf hm (λaY aZ=>[(3,(nV i_)),(9,(.slice aC aA.length aD)),(10,(pV aE)),(11,(nV aF.2)),(13,(nV aY))]) (λaY aZ=>[ow [.slice aC aA.length aD] aZ,blk aE [aJ,sV ae af aB.ins.length aX,nV aB.jump,nV aB.on,aK] 49]) [0,1] rfl ?_ ?_)))))
    ·repeat clear hm
     intro _ _ aY aZ w hm bg bh bi _
     refine gS (gS (gR (gM rfl (gF fo_49_1 rfl (gL hm 1 isAgg46 rfl (gM rfl (gI st_46 aO (idx_lt aG) rfl (gF fo_51_2 rfl (gY (yl isAgg47 ((aP.mono hm.lez).cell (j:=2) rfl) rfl) ?_)))))))))
     obtain ⟨bj,bk,rfl,bm⟩:=ro_slice aH
     refine gY (yV st_47 rfl) (gB rfl (gE (go _ 61 rfl (decide_eq_true (by omega)) (gct rfl (gSk (gS (gBk (gR (gM rfl (gF fo_49_1 rfl (gL hm 1 isAgg46 rfl (gM rfl (gI st_46 aO (idx_lt aG) rfl (gF fo_51_2 rfl (gY (yl isAgg47 ((aP.mono hm.lez).cell (j:=2) rfl) rfl) (gM rfl (gg λbG bH aa=>?_)))))))))))))))))
     obtain ⟨bp,bq,br,he⟩:=idx_form aH aa
     obtain ⟨rfl,_,rfl⟩:=sl3 he
     refine gI st_47 bH (idx_lt aa) rfl (gY (yl isAgg3 ((flat_cells (cs:=[nV bG]) (hm.now aH) aa rfl).cell (j:=0) rfl) rfl) (gg λbs bJ aS=>?_))
     obtain ⟨bt,bu,bv,he⟩:=idx_form (hm.ow_rep 0 rfl) aS
     obtain ⟨rfl,_,rfl⟩:=sl3 he
     have hL3_2:=rep_slice_len (hm.ow_rep 0 rfl)
     refine gI st_73 bJ (idx_lt2 aS hL3_2) rfl (gf0 rfl (λa hf=>e_setElem (x1:=true) (j:=0) (vs:=[(.bool (true))]) 0 hf hm rfl aS rfl sizeOf4 rfl rfl rfl (one_cons rfl one_nil) rfl rfl) ?_)
     rintro _ w hm
     have bx:=List.getElem?_set_self (a:=true) (idx_lt aS)
     exact gE (gR (gM rfl (gP (by omega) (by omega) rfl (gA rfl (gE (gze hm [0,1] rfl))))))
    repeat clear hm
    intro bz cA w hm cB cC
    refine gS (gS (gR (gM rfl (gF fo_49_1 rfl (gL hm 1 isAgg46 rfl (gM rfl (gI st_46 aO (idx_lt aG) rfl (gF fo_51_2 rfl (gY (yl isAgg47 ((aP.mono hm.lez).cell (j:=2) rfl) rfl) ?_)))))))))
    obtain ⟨cD,cE,rfl,cF⟩:=ro_slice aH
    exact gY (yV st_47 rfl) (gB rfl (gE (go _ 61 rfl (decide_eq_false (by omega)) (gcf rfl (gXt (gHh (gR (gM rfl (gB rfl (gA rfl (gE (gze hm [0,1] rfl))))))))))))
   exact gcf rfl (gXt (gHh (gLp bA az (gz hm [0] rfl))))
  repeat clear hm
  intro aN w hm
  exact gS (gR (gM rfl (gA rfl (gE (gRt (gr1 results82 rfl ⟨.slice aC aA.length aD,rfl,hm.pk [0] rfl rfl⟩))))))
theorem spec_l12Live_ok (w0 : World) (c_ : Code_) (v1 : Value) (h1 : GT.rep (hp w0) [v1] c_.blocks) :
    ConM Tryz.prog 47 [(.agg #[nV c_.params,nV c_.regs,v1])] w0 (spec_l12Live c_) λr v w'=>∃ (x1:Value) (x2:Value),v=(.agg #[x1,x2])∧Mem w0 (hp w0) w' [ow [x1] r.ins,ow [x2] r.outs]:=by
  unfold spec_l12Live
  refine gcon func47 rfl λr=>?_
  have hm:=Mem.start w0
  refine gS (gR (gBx hm rfl λaI w hm=>gAl hm zeroValue76 rfl λaF w hm=>gE (gS (gR (gY (yG rfl (y_build (vs:=[]) (cs:=#[.slice none 0 0,.slice none 0 0]) rfl rfl (by kernel_rfl))) (gAl hm zeroValue76 rfl λaG w hm=>gSN hm 0 sizeOf76 (one_cons rfl (one_cons rfl one_nil)) rfl λw hm=>gE (gS (gR (gF fo_44_2 rfl (gL hm 2 isAgg42 rfl ?_))))))))))
  obtain ⟨aK,aJ,rfl,cQ⟩:=ro_slice h1
  refine gY (yV st_42 rfl) (gA rfl (gE (gS (gS (gR (gA rfl (gE (gBk ?_))))))))
  replace hm:=hm.nilow (α:=List Bool)
  replace hm:=hm.nilow (α:=List Bool)
  refine gNg (λbE aR a w=>∃ (aX aS:Value),St 126 [(1,(pV aI)),(2,(pV aF)),(3,(pV aG)),(4,(nV ((c_.blocks.length:Int)))),(5,(nV bE))] w0 (hp w0) [blk aI [nV c_.params,nV c_.regs,.slice aK c_.blocks.length aJ] 44,blk aF [.slice none 0 0,.slice none 0 0] 76,blk aG [aX,aS] 76,ow [aX] aR.1,ow [aS] aR.2] a w) (λa hf=>⟨.slice none 0 0,.slice none 0 0,hf.sb rfl,hm.pk [4,3,2,1,0] rfl rfl⟩) ?_ ?_
  ·repeat clear hm
   rintro _ _ bE aR a w ⟨aX,aS,hf,hm⟩ cR cS cT _
   refine gv hf (gS (gS (gR (gM rfl (gM rfl (gB rfl (gE (go _ 18 rfl (decide_eq_true (by omega)) (gct rfl (gSk (gS (gBk (gS (gW (.p 0 (.p 2 (.q 1 (.e 3 (.e 4 (.e 5 (.e 6 (.p 7 (.e 8 .fin .nil)) .nil) .nil) .nil) .nil)))) [3,4,5] [0,2,7] hm [0,1,2,3,4] [blk aI [nV c_.params,nV c_.regs,.slice aK c_.blocks.length aJ] 44,blk aF [.slice none 0 0,.slice none 0 0] 76,blk aG [aX,aS] 76,ow [aX] aR.1,ow [aS] aR.2] rfl mxo (by kernel_rfl) (λ_ _ _ h=>h.2) λw hm hS=>tP rfl (λw=>yF fo_76_0 rfl) (tP rfl (λw=>yF fo_44_1 rfl) (tQ rfl hS (λw hm=>yL hm 2 isAgg74 rfl) (tO (tY rfl (yL hm 0 isAgg3 rfl) (tAs hS (tO (gb λaT bR=>?_)))))))))))))))))))))
   obtain ⟨⟨bS,bT⟩,bF⟩:=makeM_some.1 bR
   refine tf rfl rfl (λa hf=>e_make (x0:=(false:Bool)) et_73 (λ_=>(Flat.own_iff.2 rfl)) hf hm rfl rfl rfl bS (Int.le_refl _) bT) ?_
   rintro cU w hm
   rw [bF] at hm
   have h1_1l:(aT.length:Int)=c_.regs:=by rw [← bF];simp only [List.length_replicate];omega
   refine tAk hm [1,2,3,4,5] rfl λhS=>tO ?_
   obtain ⟨an,ao,rfl,cV⟩:=ro_slice (hm.ow_rep 0 rfl)
   refine tf rfl rfl (λa hf=>e_build (vs:=#[(0,(.slice an aT.length ao))]) (cs:=[.slice an aT.length ao]) et_74 hf hm rfl rfl (by kernel_rfl) rfl rfl) ?_
   rintro _ w ⟨cW,rfl,hm⟩
   replace hm:=hm.els_nil (α:=List Bool)
   replace hm:=hm.imp (c':=ow [.slice an aT.length ao] (aT:List Bool)) 2 rfl (λF h0=>h0)
   replace hm:=(hm.els_cons 0 2 (by decide) rfl rfl).pk (L':=[_,_,_,_,_,_,_]) [0,1,3,4,5,6,7] rfl rfl
   replace hm:=(hm.lit_els 1 0 (by decide) rfl rfl rfl rfl).pk (L':=[_,_,_,_,_,_]) [1,2,3,4,5,6] rfl rfl
   refine tAk hm [1,2,3,4,5] rfl λhS=>tO (gb λbU bV=>?_)
   obtain ⟨bW,bX⟩:=appM_some.1 bV
   replace hm:=(hm.both 4 0 (by decide) rfl rfl).pk (L':=[_,_,_,_,_]) [1,2,3,4,5] rfl rfl
   refine tf rfl rfl (λa hf=>e_appendD (xs:=aR.1) (ys:=([aT]:List (List Bool))) 3 et_74 hf hm rfl rfl rfl rfl bW) ?_
   rintro ap w hm
   rw [bX] at hm
   refine tAn rfl (tP rfl (λw=>yF fo_76_0 rfl) (tO (tf0 rfl rfl (λa hf=>e_store1 2 hf hm rfl sizeOf74 rfl rfl rfl (rep_one (hm.ow_rep 3 rfl)) rfl) ?_)))
   rintro _ w hm
   refine tAn rfl (tE (gW (.p 0 (.p 2 (.q 1 (.e 3 (.e 4 (.e 5 (.e 6 (.p 7 (.e 8 .fin .nil)) .nil) .nil) .nil) .nil)))) [3,4,5] [0,2,7] hm [0,1,2,3,4] [blk aI [nV c_.params,nV c_.regs,.slice aK c_.blocks.length aJ] 44,blk aF [.slice none 0 0,.slice none 0 0] 76,blk aG [ap,aS] 76,ow [ap] bU,ow [aS] aR.2] rfl mxo (by kernel_rfl) (λ_ _ _ h=>h.2) λw hm hS=>tP rfl (λw=>yF fo_76_1 rfl) (tP rfl (λw=>yF fo_44_1 rfl) (tQ rfl hS (λw hm=>yL hm 2 isAgg74 rfl) (tO (tY rfl (yL hm 0 isAgg3 rfl) (tAs hS (tO (gb λaV bY=>?_)))))))))
   obtain ⟨⟨bZ,b6⟩,bG⟩:=makeM_some.1 bY
   refine tf rfl rfl (λa hf=>e_make (x0:=(false:Bool)) et_73 (λ_=>(Flat.own_iff.2 rfl)) hf hm rfl rfl rfl bZ (Int.le_refl _) b6) ?_
   rintro cX w hm
   rw [bG] at hm
   have h1_3l:(aV.length:Int)=c_.regs:=by rw [← bG];simp only [List.length_replicate];omega
   refine tAk hm [1,2,3,4,5] rfl λhS=>tO ?_
   obtain ⟨aq,ar,rfl,cY⟩:=ro_slice (hm.ow_rep 0 rfl)
   refine tf rfl rfl (λa hf=>e_build (vs:=#[(0,(.slice aq aV.length ar))]) (cs:=[.slice aq aV.length ar]) et_74 hf hm rfl rfl (by kernel_rfl) rfl rfl) ?_
   rintro _ w ⟨cZ,rfl,hm⟩
   replace hm:=hm.els_nil (α:=List Bool)
   replace hm:=hm.imp (c':=ow [.slice aq aV.length ar] (aV:List Bool)) 2 rfl (λF h0=>h0)
   replace hm:=(hm.els_cons 0 2 (by decide) rfl rfl).pk (L':=[_,_,_,_,_,_,_]) [0,1,3,4,5,6,7] rfl rfl
   replace hm:=(hm.lit_els 1 0 (by decide) rfl rfl rfl rfl).pk (L':=[_,_,_,_,_,_]) [1,2,3,4,5,6] rfl rfl
   refine tAk hm [1,2,3,4,5] rfl λhS=>tO (gb λc4 b7=>?_)
   obtain ⟨b8,b9⟩:=appM_some.1 b7
   replace hm:=(hm.both 5 0 (by decide) rfl rfl).pk (L':=[_,_,_,_,_]) [1,2,3,4,5] rfl rfl
   refine tf rfl rfl (λa hf=>e_appendD (xs:=aR.2) (ys:=([aV]:List (List Bool))) 4 et_74 hf hm rfl rfl rfl rfl b8) ?_
   rintro ba w hm
   rw [b9] at hm
   refine tAn rfl (tP rfl (λw=>yF fo_76_1 rfl) (tO (tf0 rfl rfl (λa hf=>e_store1 2 hf hm rfl sizeOf74 rfl rfl rfl (rep_one (hm.ow_rep 4 rfl)) rfl) ?_)))
   rintro _ w hm
   exact tAn rfl (tE (gR (gM rfl (gP (by omega) (by omega) rfl (gA rfl (gE (gZe λa hf=>⟨ap,ba,hf.sb rfl,hm.pk [0,1,2,3,4] rfl rfl⟩)))))))
  repeat clear hm
  rintro c5 aA a w ⟨c6,c7,hf,hm⟩ c8 c9
  refine gv hf (gS (gS (gR (gM rfl (gM rfl (gB rfl (gE (go _ 18 rfl (decide_eq_false (by omega)) (gcf rfl (gXt (gHh (gS (gS (gR (gA rfl (gE ?_))))))))))))))))
  obtain ⟨aB,aC,rfl,ca⟩:=ro_slice (hm.ow_rep 3 rfl)
  obtain ⟨aD,aE,rfl,cb⟩:=ro_slice (hm.ow_rep 4 rfl)
  refine gJ hm (λaY=>[(2,(pV aF)),(3,(pV aG))]) (λaY=>[blk aF [.slice none 0 0,.slice none 0 0] 76,blk aG [.slice aB aA.1.length aC,.slice aD aA.2.length aE] 76,ow [.slice aB aA.1.length aC] aY.1,ow [.slice aD aA.2.length aE] aY.2]) (λaY=>?_) ?_
  ·refine gBk (gMf hm (fun aZ => [(1, (pV aI)), (2, (pV aF)), (3, (pV aG)), (4, (nV ((c_.blocks.length : Int)))), (6, (.bool (aZ.2.2)))]) (fun aZ => [blk aI [nV c_.params, nV c_.regs, .slice aK c_.blocks.length aJ] 44, blk aF [.slice none 0 0, .slice none 0 0] 76, blk aG [.slice aB aA.1.length aC, .slice aD aA.2.length aE] 76, ow [.slice aB aA.1.length aC] aZ.1, ow [.slice aD aA.2.length aE] aZ.2.1]) [0, 1, 2, 3, 4] rfl ?_)
   repeat clear hm
   intro cd bc aZ w hm ce bd
   refine gS (gS (gR (gM rfl (gE (gs 37 rfl (λbe=>?_) λbe=>?_)))))
   ·refine gct rfl (gSk (gBk (gS (gR (gA rfl (gE (gS (gR (gM rfl (gY (yS (by omega) (by omega) rfl) (gA rfl (gE (gJ hm (fun aW => [(1, (pV aI)), (2, (pV aF)), (3, (pV aG)), (4, (nV ((c_.blocks.length : Int)))), (6, (.bool (aW.2.2)))]) (fun aW => [blk aI [nV c_.params, nV c_.regs, .slice aK c_.blocks.length aJ] 44, blk aF [.slice none 0 0, .slice none 0 0] 76, blk aG [.slice aB aA.1.length aC, .slice aD aA.2.length aE] 76, ow [.slice aB aA.1.length aC] aW.1, ow [.slice aD aA.2.length aE] aW.2.1]) (fun aW => ?_) ?_)))))))))))))
    ·refine gBk (gMf hm (fun aH => [(1, (pV aI)), (2, (pV aF)), (3, (pV aG)), (4, (nV ((c_.blocks.length : Int)))), (6, (.bool (aH.2.2.1))), (7, (nV aH.2.2.2))]) (fun aH => [blk aI [nV c_.params, nV c_.regs, .slice aK c_.blocks.length aJ] 44, blk aF [.slice none 0 0, .slice none 0 0] 76, blk aG [.slice aB aA.1.length aC, .slice aD aA.2.length aE] 76, ow [.slice aB aA.1.length aC] aH.1, ow [.slice aD aA.2.length aE] aH.2.1]) [0, 1, 2, 3, 4] rfl ?_)
     repeat clear hm
     intro cf bf aH w hm cg bg
     refine gS (gS (gR (gM rfl (gB rfl (gE (gsd 41 rfl (λbh=>?_) λbh=>?_))))))
     ·refine gct rfl (gSk (gS (gBk (gS (gS (gR (gA rfl (gE (gJ hm (fun aL => [(1, (pV aI)), (2, (pV aF)), (3, (pV aG)), (4, (nV ((c_.blocks.length : Int)))), (6, (.bool (aL.2))), (7, (nV aH.2.2.2))]) (fun aL => [blk aI [nV c_.params, nV c_.regs, .slice aK c_.blocks.length aJ] 44, blk aF [.slice none 0 0, .slice none 0 0] 76, blk aG [.slice aB aA.1.length aC, .slice aD aA.2.length aE] 76, ow [.slice aB aA.1.length aC] aH.1, ow [.slice aD aA.2.length aE] aL.1]) (fun aL => ?_) ?_)))))))))
      ·refine gBk (gMf hm (fun aQ => [(1, (pV aI)), (2, (pV aF)), (3, (pV aG)), (4, (nV ((c_.blocks.length : Int)))), (6, (.bool (aQ.2.1))), (7, (nV aH.2.2.2)), (8, (nV aQ.2.2))]) (fun aQ => [blk aI [nV c_.params, nV c_.regs, .slice aK c_.blocks.length aJ] 44, blk aF [.slice none 0 0, .slice none 0 0] 76, blk aG [.slice aB aA.1.length aC, .slice aD aA.2.length aE] 76, ow [.slice aB aA.1.length aC] aH.1, ow [.slice aD aA.2.length aE] aQ.1]) [0, 1, 2, 3, 4] rfl ?_)
       repeat clear hm
       intro ci bi aQ w hm cj bj
       refine gS (gS (gR (gM rfl (gF fo_44_2 rfl (gL hm 0 isAgg42 rfl (gM rfl (gg λck bH ae=>?_)))))))
       obtain ⟨af,ah,cl,he⟩:=idx_form' h1 ae
       obtain ⟨rfl,_,rfl⟩:=sl3 he
       obtain ⟨cm,cn,co,bJ,cq,cr,au⟩:=rk_Block_ h1 ae
       refine gI st_42 bH (idx_lt ae) rfl (gF fo_49_4 rfl (gY (yl isAgg47 ((bJ.mono hm.lez).cell (j:=4) rfl) rfl) ?_))
       obtain ⟨ct,cu,rfl,cv⟩:=ro_slice au
       refine gY (yV st_47 rfl) (gB rfl (gE (gsd 52 rfl (λbk=>?_) λbk=>?_)))
       ·refine gct rfl (gSk (gS (gBk (gJ hm (fun aa => [(1, (pV aI)), (2, (pV aF)), (3, (pV aG)), (4, (nV ((c_.blocks.length : Int)))), (6, (.bool (aa.2))), (7, (nV aH.2.2.2)), (8, (nV aQ.2.2))]) (fun aa => [blk aI [nV c_.params, nV c_.regs, sV af ah c_.blocks.length aJ] 44, blk aF [.slice none 0 0, .slice none 0 0] 76, blk aG [.slice aB aA.1.length aC, .slice aD aA.2.length aE] 76, ow [.slice aB aA.1.length aC] aH.1, ow [.slice aD aA.2.length aE] aa.1]) (fun aa => ?_) ?_))))
        ·refine gW (.p 2 (.p 3 (.p 5 (.p 9 (.q 0 (.q 1 (.e 4 (.p 6 (.p 7 (.e 8 (.p 10 (.e 11 (.e 12 (.p 13 (.p 14 (.p 15 (.p 16 .fin)))) .nil) .nil)) .nil))) .nil))))))) [0, 1, 4, 8, 11] [2, 3, 5, 6, 7, 9, 10, 13, 14, 15, 16] hm [0, 1, 2, 3, 4] [blk aI [nV c_.params, nV c_.regs, sV af ah c_.blocks.length aJ] 44, blk aF [.slice none 0 0, .slice none 0 0] 76, blk aG [.slice aB aA.1.length aC, .slice aD aA.2.length aE] 76, ow [.slice aB aA.1.length aC] aH.1, ow [.slice aD aA.2.length aE] aQ.1] rfl mxo (by kernel_rfl) (fun _ _ _ h => h.2) fun w hm hS => tP rfl (fun w => yM rfl) (tP rfl (fun w => yF fo_44_2 rfl) (tP rfl (fun w => yM rfl) (tP rfl (fun w => yM rfl) (tQ rfl hS (fun w hm => yn (hm.blk_at 0 rfl) isAgg44 sizeOf44 rfl) (tQ rfl hS (fun w hm => yn (hm.blk_at 2 rfl) isAgg76 sizeOf76 rfl) (tO (tY rfl (yL hm 0 isAgg42 rfl) (tAs hS (tP rfl (fun w => yI st_42 bH (idx_lt ae) rfl) (tP rfl (fun w => yF fo_49_4 rfl) (tO (tY rfl (yl isAgg47 ((bJ.mono hm.lez).cell (j := 4) rfl) rfl) (tAs hS (gg fun bK bm av => ?_))))))))))))))
         obtain ⟨cw,cx,cy,he⟩:=idx_form au av
         obtain ⟨rfl,_,rfl⟩:=sl3 he
         refine tP rfl (λw=>yI st_47 bm (idx_lt av) rfl) (tO (tY rfl (yl isAgg3 ((flat_cells (cs:=[nV bK]) (hm.now au) av rfl).cell (j:=0) rfl) rfl) (tAs hS (tO (gb λcz bp=>?_)))))
         obtain ⟨bq,hle,hm1,hsub,br⟩:=hm.take2 (L1:=[ow [.slice aD aA.2.length aE] aQ.1]) (L2:=[blk aI [nV c_.params,nV c_.regs,sV af ah c_.blocks.length aJ] 44,blk aF [.slice none 0 0,.slice none 0 0] 76,blk aG [.slice aB aA.1.length aC,.slice aD aA.2.length aE] 76,ow [.slice aB aA.1.length aC] aH.1]) [4] [0,1,2,3] (by decide) rfl rfl
         refine tf rfl rfl (λa hf=>e_call hf rfl call81 rfl (spec_l12Flow_ok _ bq c_ (sV af ah c_.blocks.length aJ) (GT.mono hle h1) (⟨aH.1,aQ.1⟩:l12Sets) (.slice aB aA.1.length aC) (fz_ow (hsub 3 _ rfl)) (.slice aD aA.2.length aE) aH.2.2.2 bK hm1  _ bp)) ?_
         rintro dA w ⟨rfl,hB⟩
         replace hm:=br _ _ hB;clear hB
         refine tAn rfl (tP rfl (λw=>yM rfl) (gs 68 rfl (λbs=>?_) λbs=>?_))
         ·exact tPo rfl rfl (tP rfl (λw=>yKt rfl) (tP rfl (λw=>yA rfl) (tE (gz hm [1,2,3,4,0] rfl))))
         exact tP rfl (λw=>yM rfl) (tP rfl (λw=>yKf rfl) (tP rfl (λw=>yA rfl) (tE (gz hm [1,2,3,4,0] rfl))))
        repeat clear hm
        intro aa w hm
        exact gR (gM rfl (gB rfl (gA rfl (gE (gze hm [0,1,2,3,4] rfl)))))
       exact gcf rfl (gXt (gHh (gLp bj bi (gz hm [0,1,2,3,4] rfl))))
      repeat clear hm
      intro aL w hm
      refine gS (gR (gY (yn (hm.blk_at 0 rfl) isAgg44 sizeOf44 rfl) (gY (yn (hm.blk_at 2 rfl) isAgg76 sizeOf76 rfl) (gM rfl (gCg rfl call82 (spec_l12Behind_ok _ c_ (.slice aK c_.blocks.length aJ) (hm.now h1) (⟨aH.1,aL.1⟩:l12Sets) (.slice aB aA.1.length aC) (hm.ow_rep 3 rfl) (.slice aD aA.2.length aE) (hm.ow_rep 4 rfl) aH.2.2.2 (-1)) ?_)))))
      rintro aM dB dC w ⟨_,rfl,hB⟩
      replace hm:=hm.give hB;clear hB
      refine gA rfl (gE (gS (gS (gR (gA rfl (gE ?_))))))
      obtain ⟨aN,aO,rfl,dD⟩:=ro_slice (hm.ow_rep 0 rfl)
      refine gJ hm (λaP=>[(1,(pV aI)),(2,(pV aF)),(3,(pV aG)),(4,(nV ((c_.blocks.length:Int)))),(6,(.bool (aL.2))),(7,(nV aH.2.2.2)),(9,(.slice aN aM.length aO))]) (λaP=>[blk aI [nV c_.params,nV c_.regs,.slice aK c_.blocks.length aJ] 44,blk aF [.slice none 0 0,.slice none 0 0] 76,blk aG [.slice aB aA.1.length aC,.slice aD aA.2.length aE] 76,ow [.slice aB aA.1.length aC] aH.1,ow [.slice aD aA.2.length aE] aL.1,ow [.slice aN aM.length aO] aP]) (λaP=>?_) ?_
      ·refine gBk (gMf hm (fun ai => [(1, (pV aI)), (2, (pV aF)), (3, (pV aG)), (4, (nV ((c_.blocks.length : Int)))), (6, (.bool (aL.2))), (7, (nV aH.2.2.2)), (9, (.slice aN aM.length aO)), (10, (nV ai.2))]) (fun ai => [blk aI [nV c_.params, nV c_.regs, .slice aK c_.blocks.length aJ] 44, blk aF [.slice none 0 0, .slice none 0 0] 76, blk aG [.slice aB aA.1.length aC, .slice aD aA.2.length aE] 76, ow [.slice aB aA.1.length aC] aH.1, ow [.slice aD aA.2.length aE] aL.1, ow [.slice aN aM.length aO] ai.1]) [1, 2, 3, 4, 5, 0] rfl ?_)
       repeat clear hm
       intro dE bt ai w hm dF bu
       refine gS (gS (gR (gM rfl (gF fo_44_2 rfl (gL hm 0 isAgg42 rfl (gM rfl (gg λdG bL aj=>?_)))))))
       obtain ⟨dH,dI,dJ,he⟩:=idx_form' h1 aj
       obtain ⟨rfl,_,rfl⟩:=sl3 he
       obtain ⟨dK,dL,dM,bM,aw,dN,dO⟩:=rk_Block_ h1 aj
       refine gI st_42 bL (idx_lt aj) rfl (gF fo_49_0 rfl (gY (yl isAgg45 ((bM.mono hm.lez).cell (j:=0) rfl) rfl) ?_))
       obtain ⟨dP,dQ,rfl,dR⟩:=ro_slice aw
       refine gY (yV st_45 rfl) (gB rfl (gE (gsd 83 rfl (λbv=>?_) λbv=>?_)))
       ·refine gct rfl (gSk (gS (gBk (gR (gM rfl (gF fo_44_2 rfl (gL hm 0 isAgg42 rfl (gM rfl (gI st_42 bL (idx_lt aj) rfl (gF fo_49_0 rfl (gY (yl isAgg45 ((bM.mono hm.lez).cell (j := 0) rfl) rfl) (gM rfl (gg fun dS bx ax => ?_)))))))))))))
        obtain ⟨dT,dU,dV,he⟩:=idx_form' aw ax
        obtain ⟨rfl,_,rfl⟩:=sl3 he
        obtain ⟨dW,bz,dX⟩:=rk_Phi_ aw ax
        refine gI st_45 bx (idx_lt ax) rfl (gF fo_105_0 rfl (gY (yl isAgg3 ((bz.mono hm.lez).cell (j:=0) rfl) rfl) (gg λdY cA ak=>?_)))
        obtain ⟨dZ,d2,d4,he⟩:=idx_form (hm.ow_rep 5 rfl) ak
        obtain ⟨rfl,_,rfl⟩:=sl3 he
        have hL6_1:=rep_slice_len (hm.ow_rep 5 rfl)
        refine gI st_73 cA (idx_lt2 ak hL6_1) rfl (gf0 rfl (λa hf=>e_setElem (x1:=false) (j:=0) (vs:=[(.bool (false))]) 5 hf hm rfl ak rfl sizeOf4 rfl rfl rfl (one_cons rfl one_nil) rfl rfl) ?_)
        rintro _ w hm
        have d5:=List.getElem?_set_self (a:=false) (idx_lt ak)
        exact gE (gR (gM rfl (gB rfl (gA rfl (gE (gze hm [0,1,2,3,4,5] rfl))))))
       exact gcf rfl (gXt (gHh (gLp bu bt (gz hm [0,1,2,3,4,5] rfl))))
      repeat clear hm
      intro aP w hm
      refine gS (gS (gR (gA rfl (gE (gBk (gb λ_ bN=>?_))))))
      replace bN:=fitI_some.1 bN
      refine gNf hm (λal ay=>[(1,(pV aI)),(2,(pV aF)),(3,(pV aG)),(4,(nV ((c_.blocks.length:Int)))),(6,(.bool (ay))),(7,(nV aH.2.2.2)),(9,(.slice aN aM.length aO)),(11,(nV al))]) (λal ay=>[blk aI [nV c_.params,nV c_.regs,.slice aK c_.blocks.length aJ] 44,blk aF [.slice none 0 0,.slice none 0 0] 76,blk aG [.slice aB aA.1.length aC,.slice aD aA.2.length aE] 76,ow [.slice aB aA.1.length aC] aH.1,ow [.slice aD aA.2.length aE] aL.1,ow [.slice aN aM.length aO] aP]) [0,1,2,3,4,5] rfl ?_ ?_
      ·repeat clear hm
       intro _ _ al ay w hm d6 d7 d8 _
       refine gS (gS (gR (gM rfl (gF fo_44_1 rfl (gL hm 0 isAgg3 rfl (gB rfl (gE (go _ 101 rfl (decide_eq_true (by omega)) (gct rfl (gSk (gS (gBk (gJ hm (λam=>[(1,(pV aI)),(2,(pV aF)),(3,(pV aG)),(4,(nV ((c_.blocks.length:Int)))),(6,(.bool (am))),(7,(nV aH.2.2.2)),(9,(.slice aN aM.length aO)),(11,(nV al))]) (λam=>[blk aI [nV c_.params,nV c_.regs,.slice aK c_.blocks.length aJ] 44,blk aF [.slice none 0 0,.slice none 0 0] 76,blk aG [.slice aB aA.1.length aC,.slice aD aA.2.length aE] 76,ow [.slice aB aA.1.length aC] aH.1,ow [.slice aD aA.2.length aE] aL.1,ow [.slice aN aM.length aO] aP]) (λam=>?_) ?_)))))))))))))
       ·refine gW (.p 0 (.p 1 (.p 2 (.p 3 (.p 4 (.p 6 (.p 8 (.p 11 (.q 5 (.e 7 (.p 9 (.e 10 (.p 12 (.e 13 (.p 14 (.p 15 (.p 16 .fin))) .nil)) .nil)) .nil)))))))))) [7, 10, 13] [0, 1, 2, 3, 4, 6, 8, 9, 11, 12, 14, 15, 16] hm [0, 1, 2, 3, 4, 5] [blk aI [nV c_.params, nV c_.regs, .slice aK c_.blocks.length aJ] 44, blk aF [.slice none 0 0, .slice none 0 0] 76, blk aG [.slice aB aA.1.length aC, .slice aD aA.2.length aE] 76, ow [.slice aB aA.1.length aC] aH.1, ow [.slice aD aA.2.length aE] aL.1, ow [.slice aN aM.length aO] aP] rfl mxo (by kernel_rfl) (fun _ _ _ h => h.2) fun w hm hS => tP rfl (fun w => yM rfl) (tP rfl (fun w => yM rfl) (gs 105 rfl (fun cB => ?_) fun cB => ?_))
        ·exact tPo rfl rfl (tPo rfl rfl (tPo rfl rfl (tPo rfl rfl (tPo rfl rfl (tPo rfl rfl (tQo rfl hS rfl (tO (tEo rfl rfl (tAs hS (tPo rfl rfl (tO (tEo rfl rfl (tAs hS (tPo rfl rfl (tO (tEo rfl rfl (tAs hS (tPo rfl rfl (tP rfl (λw=>yKt rfl) (tP rfl (λw=>yA rfl) (tE (gz hm [0,1,2,3,4,5] rfl))))))))))))))))))))))
        refine tP rfl (λw=>yM rfl) (tP rfl (λw=>yM rfl) (gg λcC cD az=>?_))
        obtain ⟨d9,da,db,he⟩:=idx_form (hm.ow_rep 5 rfl) az
        obtain ⟨rfl,_,rfl⟩:=sl3 he
        have hL6_2:=rep_slice_len (hm.ow_rep 5 rfl)
        refine tP rfl (λw=>yI st_73 cD (idx_lt2 az hL6_2) rfl) (tP rfl (λw=>yF fo_76_0 rfl) (tP rfl (λw=>yM rfl) (tP rfl (λw=>yM rfl) (tQ rfl hS (λw hm=>yl isAgg4 ((flat_cells (cs:=[(.bool (cC))]) (hm.ow_rep 5 rfl) az rfl).cell (j:=0) rfl) rfl) (tO (tY rfl (yL hm 2 isAgg74 rfl) (tAs hS (gg λcE cF bA=>?_))))))))
        obtain ⟨cG,cH,dc,he⟩:=idx_form' (hm.ow_rep 3 rfl) bA
        obtain ⟨rfl,_,rfl⟩:=sl3 he
        obtain ⟨_,_,bB,cI⟩:=ro_get' (hm.ow_rep 3 rfl) bA
        have ab:=cI
        obtain ⟨bO,rfl,-⟩:=id ab
        replace ab:GT.rep (hp _) [bO] cE:=ab
        replace bB:CellsAt (hp _) cG (cH+(aH.2.2.2).toNat*1) [bO]:=bB
        have hL6_3:=rep_slice_len (hm.ow_rep 3 rfl)
        refine tP rfl (λw=>yI st_74 cF (idx_lt2 bA hL6_3) rfl) (tO (tY rfl (yl isAgg73 (bB.cell (j:=0) rfl) rfl) (tAs hS (gg λcJ cK bC=>?_))))
        obtain ⟨dd,de,df,he⟩:=idx_form ab bC
        subst he
        exact tP rfl (λw=>yI st_73 cK (idx_lt bC) rfl) (tO (tY rfl (yl isAgg4 ((flat_cells (cs:=[(.bool (cJ))]) ab bC rfl).cell (j:=0) rfl) rfl) (tAs hS (tP rfl (λw=>yG rfl (y_neqb underlying4 rfl rfl rfl)) (tP rfl (λw=>yKf rfl) (tP rfl (λw=>yA rfl) (tE (gz hm [0,1,2,3,4,5] rfl))))))))
       repeat clear hm
       intro am w hm
       exact gR (gM rfl (gP (by omega) (by omega) rfl (gA rfl (gE (gze hm [0,1,2,3,4,5] rfl)))))
      repeat clear hm
      intro dg dh w hm di dk
      refine gS (gS (gR (gM rfl (gF fo_44_1 rfl (gL hm 0 isAgg3 rfl (gB rfl (gE (go _ 101 rfl (decide_eq_false (by omega)) (gcf rfl (gXt (gHh (gR (gF fo_76_0 rfl (gL hm 2 isAgg74 rfl (gM rfl (gM rfl (gg λcL cM ac=>?_)))))))))))))))))
      obtain ⟨cN,cO,dl,he⟩:=idx_form' (hm.ow_rep 3 rfl) ac
      obtain ⟨rfl,_,rfl⟩:=sl3 he
      obtain ⟨_,_,bP,cP⟩:=ro_get' (hm.ow_rep 3 rfl) ac
      have bD:=cP
      obtain ⟨bQ,rfl,-⟩:=id bD
      replace bD:GT.rep (hp _) [bQ] cL:=bD
      replace bP:CellsAt (hp _) cN (cO+(aH.2.2.2).toNat*1) [bQ]:=bP
      have hL4_1:=rep_slice_len (hm.ow_rep 3 rfl)
      refine gI st_74 cM (idx_lt2 ac hL4_1) rfl ?_
      replace hm:=hm.imp (c':=ow [.slice aN aM.length aO] (aP:List Bool)) 5 rfl (λF h0=>h0)
      replace hm:=(hm.both 3 5 (by decide) rfl rfl).pk (L':=[_,_,_,_,_]) [0,1,2,3,4] rfl rfl
      refine gf0 rfl (λa hf=>e_putElem (x1:=(aP:List Bool)) (vs:=[.slice aN aM.length aO]) 3 hf hm rfl ac rfl sizeOf73 rfl rfl rfl rfl) ?_
      rintro _ w hm
      have dm:=List.getElem?_set_self (a:=(aP:List Bool)) (idx_lt ac)
      exact gE (gR (gM rfl (gB rfl (gA rfl (gE (gze hm [0,1,2,3,4] rfl))))))
     exact gcf rfl (gXt (gHh (gLp bg bf (gz hm [0,1,2,3,4] rfl))))
    repeat clear hm
    intro aW w hm
    exact gze hm [0,1,2,3,4] rfl
   exact gcf rfl (gXt (gHh (gLp bd bc (gz hm [1,2,3,4] rfl))))
  repeat clear hm
  intro aY w hm
  exact gS (gR (gY (yn (hm.blk_at 1 rfl) isAgg76 sizeOf76 rfl) (gSN hm 0 sizeOf76 (one_cons rfl (one_cons rfl one_nil)) rfl λw hm=>gE (gRt (grc 0 results47 hm rfl isAgg76 sizeOf76 ⟨.slice aB aA.1.length aC,.slice aD aA.2.length aE,rfl,hm.pk [2,3] rfl rfl⟩)))))
end Go.Proofs.YthikiocjbepfnaaGreat
