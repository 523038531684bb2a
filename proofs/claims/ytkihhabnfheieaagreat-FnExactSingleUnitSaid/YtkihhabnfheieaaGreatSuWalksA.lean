/- A part of the proof of FnExactSingleUnitSaid. -/
import Derived.Test.YtkihhabnfheieaaGreatSuModels
import Derived.Test.YtkihhabnfheieaaGreatChecked
import Derived.Test.YtkihhabnfheieaaGreatSuLays
import Derived.Test.YtkihhabnfheieaaGreatWkAd
namespace Go.Proofs.YtkihhabnfheieaaGreat
open Go Go.Wk Go.RowKit
set_option maxRecDepth 4000
set_option maxHeartbeats 4000000
open Tryz
theorem mxo:Tryz.prog.follows .mixedOrders=true:=by kernel_rfl
theorem bt0:kJ Tryz.prog 24 0 0:=by have h:=kJ.mk (k:=0) underlying24 rfl sizeOf22;exact h
theorem mu:kJ Tryz.prog 28 0 0:=by have h:=kJ.mk (k:=0) underlying28 rfl sizeOf26;exact h
theorem nD:kJ Tryz.prog 41 0 0:=by have h:=kJ.mk (k:=0) underlying41 rfl sizeOf3;exact h
theorem mF:kJ Tryz.prog 41 1 1:=by have h:=kJ.mk (k:=1) underlying41 rfl sizeOf3;exact h
theorem kM:kJ Tryz.prog 41 2 2:=by have h:=kJ.mk (k:=2) underlying41 rfl sizeOf39;exact h
theorem cp1:kJ Tryz.prog 49 0 0:=by have h:=kJ.mk (k:=0) underlying49 rfl sizeOf3;exact h
theorem co5:kJ Tryz.prog 49 1 1:=by have h:=kJ.mk (k:=1) underlying49 rfl sizeOf3;exact h
theorem br9:kJ Tryz.prog 49 2 2:=by have h:=kJ.mk (k:=2) underlying49 rfl sizeOf47;exact h
theorem az5:kJ Tryz.prog 61 0 0:=by have h:=kJ.mk (k:=0) underlying61 rfl sizeOf41;exact h
theorem zJ:kJ Tryz.prog 61 1 3:=by have h:=kJ.mk (k:=1) underlying61 rfl sizeOf58;exact h
theorem ah9:kJ Tryz.prog 61 2 4:=by have h:=kJ.mk (k:=2) underlying61 rfl sizeOf59;exact h
theorem nN:kJ Tryz.prog 65 0 0:=by have h:=kJ.mk (k:=0) underlying65 rfl sizeOf3;exact h
theorem oa:kJ Tryz.prog 65 1 1:=by have h:=kJ.mk (k:=1) underlying65 rfl sizeOf3;exact h
theorem ml:kJ Tryz.prog 65 2 2:=by have h:=kJ.mk (k:=2) underlying65 rfl sizeOf54;exact h
theorem pj:kJ Tryz.prog 65 3 3:=by have h:=kJ.mk (k:=3) underlying65 rfl sizeOf3;exact h
theorem ko:kJ Tryz.prog 68 0 0:=by have h:=kJ.mk (k:=0) underlying68 rfl sizeOf66;exact h
theorem lC:kJ Tryz.prog 68 1 1:=by have h:=kJ.mk (k:=1) underlying68 rfl sizeOf53;exact h
theorem oR:kJ Tryz.prog 68 2 2:=by have h:=kJ.mk (k:=2) underlying68 rfl sizeOf3;exact h
theorem oI:kJ Tryz.prog 68 3 3:=by have h:=kJ.mk (k:=3) underlying68 rfl sizeOf3;exact h
theorem lb:kJ Tryz.prog 68 4 4:=by have h:=kJ.mk (k:=4) underlying68 rfl sizeOf54;exact h
theorem xu:kJ Tryz.prog 76 0 0:=by have h:=kJ.mk (k:=0) underlying76 rfl sizeOf3;exact h
theorem cl4:kJ Tryz.prog 76 1 1:=by have h:=kJ.mk (k:=1) underlying76 rfl sizeOf3;exact h
theorem oH:kJ Tryz.prog 80 0 0:=by have h:=kJ.mk (k:=0) underlying80 rfl sizeOf3;exact h
theorem mT:kJ Tryz.prog 80 1 1:=by have h:=kJ.mk (k:=1) underlying80 rfl sizeOf54;exact h
theorem cb4:kJ Tryz.prog 101 0 0:=by have h:=kJ.mk (k:=0) underlying101 rfl sizeOf41;exact h
theorem sr:kJ Tryz.prog 101 1 3:=by have h:=kJ.mk (k:=1) underlying101 rfl sizeOf99;exact h
theorem r9:kJ Tryz.prog 101 2 4:=by have h:=kJ.mk (k:=2) underlying101 rfl sizeOf97;exact h
theorem bg9:kJ Tryz.prog 129 0 0:=by have h:=kJ.mk (k:=0) underlying129 rfl sizeOf126;exact h
theorem bj5:kJ Tryz.prog 129 1 1:=by have h:=kJ.mk (k:=1) underlying129 rfl sizeOf127;exact h
theorem cg5:kJ Tryz.prog 129 2 2:=by have h:=kJ.mk (k:=2) underlying129 rfl sizeOf3;exact h
theorem ck9:kJ Tryz.prog 129 3 3:=by have h:=kJ.mk (k:=3) underlying129 rfl sizeOf3;exact h
theorem bi6:kJ Tryz.prog 129 4 4:=by have h:=kJ.mk (k:=4) underlying129 rfl sizeOf54;exact h
theorem zU:kJ Tryz.prog 141 0 0:=by have h:=kJ.mk (k:=0) underlying141 rfl sizeOf41;exact h
theorem zn:kJ Tryz.prog 141 1 3:=by have h:=kJ.mk (k:=1) underlying141 rfl sizeOf41;exact h
theorem cf4:kJ Tryz.prog 141 2 6:=by have h:=kJ.mk (k:=2) underlying141 rfl sizeOf54;exact h
theorem zF:kJ Tryz.prog 141 3 7:=by have h:=kJ.mk (k:=3) underlying141 rfl sizeOf3;exact h
theorem vr:kJ Tryz.prog 190 0 0:=by have h:=kJ.mk (k:=0) underlying190 rfl sizeOf99;exact h
theorem xB:kJ Tryz.prog 190 1 1:=by have h:=kJ.mk (k:=1) underlying190 rfl sizeOf99;exact h
theorem cg2:kJ Tryz.prog 225 0 0:=by have h:=kJ.mk (k:=0) underlying225 rfl sizeOf3;exact h
theorem bi7:kJ Tryz.prog 225 1 1:=by have h:=kJ.mk (k:=1) underlying225 rfl sizeOf54;exact h
theorem cc4:kJ Tryz.prog 227 0 0:=by have h:=kJ.mk (k:=0) underlying227 rfl sizeOf3;exact h
theorem ca7:kJ Tryz.prog 227 1 1:=by have h:=kJ.mk (k:=1) underlying227 rfl sizeOf3;exact h
theorem be0:kJ Tryz.prog 227 2 2:=by have h:=kJ.mk (k:=2) underlying227 rfl sizeOf54;exact h
theorem cj4:kJ Tryz.prog 227 3 3:=by have h:=kJ.mk (k:=3) underlying227 rfl sizeOf3;exact h
theorem ae6:mO Tryz.prog 22 49 3:=⟨underlying22,sizeOf49⟩
theorem nU:mO Tryz.prog 26 41 3:=⟨underlying26,sizeOf41⟩
theorem kZ:mO Tryz.prog 39 68 5:=⟨underlying39,sizeOf68⟩
theorem ae2:mO Tryz.prog 47 129 5:=⟨underlying47,sizeOf129⟩
theorem lh:mO Tryz.prog 53 65 4:=⟨underlying53,sizeOf65⟩
theorem kI:mO Tryz.prog 54 3 1:=⟨underlying54,sizeOf3⟩
theorem bg3:mO Tryz.prog 58 57 1:=⟨underlying58,sizeOf57⟩
theorem bs3:mO Tryz.prog 59 54 1:=⟨underlying59,sizeOf54⟩
theorem lY:mO Tryz.prog 66 80 2:=⟨underlying66,sizeOf80⟩
theorem ti:mO Tryz.prog 71 74 1:=⟨underlying71,sizeOf74⟩
theorem ci9:mO Tryz.prog 73 66 1:=⟨underlying73,sizeOf66⟩
theorem xD:mO Tryz.prog 74 76 2:=⟨underlying74,sizeOf76⟩
theorem mK:mO Tryz.prog 97 4 1:=⟨underlying97,sizeOf4⟩
theorem pR:mO Tryz.prog 99 97 1:=⟨underlying99,sizeOf97⟩
theorem bl8:mO Tryz.prog 108 110 1:=⟨underlying108,sizeOf110⟩
theorem xV:mO Tryz.prog 126 225 2:=⟨underlying126,sizeOf225⟩
theorem xf:mO Tryz.prog 127 227 4:=⟨underlying127,sizeOf227⟩
theorem aa1:mO Tryz.prog 157 159 1:=⟨underlying157,sizeOf159⟩
theorem bc6:mO Tryz.prog 159 110 1:=⟨underlying159,sizeOf110⟩
theorem ac8:mO Tryz.prog 194 59 1:=⟨underlying194,sizeOf59⟩
theorem bh8:oK Tryz.prog 26 41 3 (.agg #[(.int .i64 (0)),(.int .i64 (0)),.slice none 0 0]):=⟨underlying26,⟨_,(by kernel_rfl:Tryz.prog.info? 41=some t41),rfl,by decide,rfl⟩,rfl,by decide⟩
theorem zu:oK Tryz.prog 39 68 5 (.agg #[.slice none 0 0,.slice none 0 0,(.int .i64 (0)),(.int .i64 (0)),.slice none 0 0]):=⟨underlying39,⟨_,(by kernel_rfl:Tryz.prog.info? 68=some t68),rfl,by decide,rfl⟩,rfl,by decide⟩
theorem pq:oK Tryz.prog 53 65 4 (.agg #[(.int .i64 (0)),(.int .i64 (0)),.slice none 0 0,(.int .i64 (0))]):=⟨underlying53,⟨_,(by kernel_rfl:Tryz.prog.info? 65=some t65),rfl,by decide,rfl⟩,rfl,by decide⟩
theorem kg:oK Tryz.prog 54 3 1 (.int .i64 (0)):=⟨underlying54,⟨_,(by kernel_rfl:Tryz.prog.info? 3=some t3),rfl,by decide,rfl⟩,rfl,by decide⟩
theorem dc0:oK Tryz.prog 58 57 1 (.map none):=⟨underlying58,⟨_,(by kernel_rfl:Tryz.prog.info? 57=some t57),rfl,by decide,rfl⟩,rfl,by decide⟩
theorem aw0:oK Tryz.prog 59 54 1 (.slice none 0 0):=⟨underlying59,⟨_,(by kernel_rfl:Tryz.prog.info? 54=some t54),rfl,by decide,rfl⟩,rfl,by decide⟩
theorem pF:oK Tryz.prog 66 80 2 (.agg #[(.int .i64 (0)),.slice none 0 0]):=⟨underlying66,⟨_,(by kernel_rfl:Tryz.prog.info? 80=some t80),rfl,by decide,rfl⟩,rfl,by decide⟩
theorem db0:oK Tryz.prog 71 74 1 (.slice none 0 0):=⟨underlying71,⟨_,(by kernel_rfl:Tryz.prog.info? 74=some t74),rfl,by decide,rfl⟩,rfl,by decide⟩
theorem db7:oK Tryz.prog 73 66 1 (.slice none 0 0):=⟨underlying73,⟨_,(by kernel_rfl:Tryz.prog.info? 66=some t66),rfl,by decide,rfl⟩,rfl,by decide⟩
theorem aw3:oK Tryz.prog 74 76 2 (.agg #[(.int .i64 (0)),(.int .i64 (0))]):=⟨underlying74,⟨_,(by kernel_rfl:Tryz.prog.info? 76=some t76),rfl,by decide,rfl⟩,rfl,by decide⟩
theorem uh:oK Tryz.prog 97 4 1 (.bool (false)):=⟨underlying97,⟨_,(by kernel_rfl:Tryz.prog.info? 4=some t4),rfl,by decide,rfl⟩,rfl,by decide⟩
theorem zX:oK Tryz.prog 99 97 1 (.slice none 0 0):=⟨underlying99,⟨_,(by kernel_rfl:Tryz.prog.info? 97=some t97),rfl,by decide,rfl⟩,rfl,by decide⟩
theorem cx1:oK Tryz.prog 108 110 1 (.map none):=⟨underlying108,⟨_,(by kernel_rfl:Tryz.prog.info? 110=some t110),rfl,by decide,rfl⟩,rfl,by decide⟩
theorem ci6:oK Tryz.prog 157 159 1 (.slice none 0 0):=⟨underlying157,⟨_,(by kernel_rfl:Tryz.prog.info? 159=some t159),rfl,by decide,rfl⟩,rfl,by decide⟩
theorem az0:oK Tryz.prog 159 110 1 (.map none):=⟨underlying159,⟨_,(by kernel_rfl:Tryz.prog.info? 110=some t110),rfl,by decide,rfl⟩,rfl,by decide⟩
theorem ct4:oK Tryz.prog 194 59 1 (.slice none 0 0):=⟨underlying194,⟨_,(by kernel_rfl:Tryz.prog.info? 59=some t59),rfl,by decide,rfl⟩,rfl,by decide⟩
theorem tx (e:World) (K:List Int) (L:Value) (M:rp e L K) (left:Int) :
    k6 Tryz.prog 160 [L,J left] e (qJ K left) λr v w'=>v=(J r)/\Below e.heap.size e w':=by
 unfold qJ
 refine kQ func160 U λr H=>?_
 refine S<|gA U<|S<|Y U<|Y U ?_
 obtain ⟨_,_,rfl,_⟩:=ju M
 refine gY (yV kI U)<|gB U<|gA U<|gS<|S<|Y U<|gB U<|gsd 10 U (λN=>?_) λN=>?_
 exact gct U<|S<|gA U<|gw U U U ⟨U,H.below⟩
 exact gcf U<|gSk<|S<|Y U<|gA U<|gw U U U ⟨U,H.below⟩
theorem at1 (K:World) (H:kA) (L:Value) (M:rp K L H.A) (left:Int) :
    k6 Tryz.prog 206 [.agg #[J H.to,L],J left] K (sH H left) λr v w'=>v=(J r)/\Below K.heap.size K w':=by
 unfold sH
 refine kQ func206 U λr e=>?_
 refine S<|gBx e U λ_ w e=>gA U<|S<|gF bi7 U<|gL e 0 isAgg54 U<|Y U<|gC e U call160 (tx _ H.A L (e.now M) left) λ_ _ w e=>gA U<|gS<|S<|Y U<|gB U<|gsd 10 U (λN=>?_) λN=>?_
 exact gct U<|S<|gA U<|gw U U U ⟨U,e.below⟩
 exact gcf U<|gSk<|S<|Y U<|gA U<|gw U U U ⟨U,e.below⟩
theorem aq8 (K:World) (O:List kA) (W:Value) (M:rp K W O) (left:Int) :
    k6 Tryz.prog 158 [W,J left] K (ur O left) λr v w'=>v=(J r)/\Below K.heap.size K w':=by
 unfold ur
 refine kQ func158 U λr e=>?_
 refine S<|gA U<|S<|Y U<|Y U ?_
 obtain ⟨aD,aE,rfl,_⟩:=ju M
 refine gY (yV xV U)<|gB U<|gA U<|gS<|S<|Y U<|gB U<|gsd 11 U (λaF=>?_) λaF=>?_
 exact gct U<|S<|gA U<|gw U U U ⟨U,e.below⟩
 refine gcf U<|gSk<|gS<|S<|gA U<|gBk<|gNg (λaC L a w=>0<=L/\St 27 [(0,sl aD O aE),(1,J L),(5,J aC)] K (hp K) [] a w) (λa H=>⟨(by first | omega | (dsimp only;omega)),H.sb U,e.d [] U⟩) ?_ ?_
 rintro _ aG aC L a w ⟨_,H,e⟩ _ _ _ aH
 refine gv H<|gS<|S<|Y U<|Y U<|gY (yV xV U)<|gB U<|lT 15 U U<|S<|Y U<|Y U<|gg λaI aJ N=>?_
 obtain ⟨_,_,rfl⟩:=jA M N
 obtain ⟨aK,aL,aM⟩:=mP M N
 refine gI xV aJ (jx N) U<|gY (yn (aL.mono e.lez) isAgg225 sizeOf225 U)<|Y U<|gC e U call206 (at1 _ aI aK (e.now aM) L) λ_ _ w e=>gA U<|S<|Y U<|gB U<|gsd 25 U (λaN=>?_) λaN=>?_
 exact gct U<|S<|gA U<|gRt<|gLr aH aG<|gr1 results158 U ⟨U,e.below⟩
 exact gcf U<|gSk<|gR<|Y U<|gp U<|gA U<|gE<|gZe λa H=>⟨(by first | omega | (dsimp only;omega)),H.sb U,e.d [] U⟩
 rintro _ _ a w ⟨_,H,e⟩ _ _
 exact gv H<|gS<|S<|Y U<|Y U<|gY (yV xV U)<|gB U<|lF 15 U U<|gHh<|S<|Y U<|gA U<|gw U U U ⟨U,e.below⟩
theorem at9 (K:World) (H:kD) (L:Value) (M:rp K L H.A) (left:Int) :
    k6 Tryz.prog 207 [.agg #[J H.op,J H.to,L,J H.N],J left] K (sF H left) λr v w'=>v=(J r)/\Below K.heap.size K w':=by
 unfold sF
 refine kQ func207 U λr e=>?_
 refine S<|gBx e U λ_ w e=>gA U<|S<|gF be0 U<|gL e 0 isAgg54 U<|Y U<|gC e U call160 (tx _ H.A L (e.now M) left) λ_ _ w e=>gA U<|gS<|S<|Y U<|gB U<|gsd 10 U (λN=>?_) λN=>?_
 exact gct U<|S<|gA U<|gw U U U ⟨U,e.below⟩
 exact gcf U<|gSk<|S<|Y U<|gA U<|gw U U U ⟨U,e.below⟩
theorem al4 (K:World) (O:List kD) (W:Value) (M:rp K W O) (left:Int) :
    k6 Tryz.prog 159 [W,J left] K (ue O left) λr v w'=>v=(J r)/\Below K.heap.size K w':=by
 unfold ue
 refine kQ func159 U λr e=>?_
 refine S<|gA U<|S<|Y U<|Y U ?_
 obtain ⟨aD,aE,rfl,_⟩:=ju M
 refine gY (yV xf U)<|gB U<|gA U<|gS<|S<|Y U<|gB U<|gsd 11 U (λaF=>?_) λaF=>?_
 exact gct U<|S<|gA U<|gw U U U ⟨U,e.below⟩
 refine gcf U<|gSk<|gS<|S<|gA U<|gBk<|gNg (λaC L a w=>0<=L/\St 27 [(0,sl aD O aE),(1,J L),(5,J aC)] K (hp K) [] a w) (λa H=>⟨(by first | omega | (dsimp only;omega)),H.sb U,e.d [] U⟩) ?_ ?_
 rintro _ aG aC L a w ⟨_,H,e⟩ _ _ _ aH
 refine gv H<|gS<|S<|Y U<|Y U<|gY (yV xf U)<|gB U<|lT 15 U U<|S<|Y U<|Y U<|gg λaI aJ N=>?_
 obtain ⟨_,_,rfl⟩:=jA M N
 obtain ⟨aK,aL,aM⟩:=nO M N
 refine gI xf aJ (jx N) U<|gY (yn (aL.mono e.lez) isAgg227 sizeOf227 U)<|Y U<|gC e U call207 (at9 _ aI aK (e.now aM) L) λ_ _ w e=>gA U<|S<|Y U<|gB U<|gsd 25 U (λaN=>?_) λaN=>?_
 exact gct U<|S<|gA U<|gRt<|gLr aH aG<|gr1 results159 U ⟨U,e.below⟩
 exact gcf U<|gSk<|gR<|Y U<|gp U<|gA U<|gE<|gZe λa H=>⟨(by first | omega | (dsimp only;omega)),H.sb U,e.d [] U⟩
 rintro _ _ a w ⟨_,H,e⟩ _ _
 exact gv H<|gS<|S<|Y U<|Y U<|gY (yV xf U)<|gB U<|lF 15 U U<|gHh<|S<|Y U<|gA U<|gw U U U ⟨U,e.below⟩
theorem ah4 (K:World) (H:jq) (M:Value) (h1:rp K M H.a) (N:Value) (O:rp K N H.i) (L:Value) (h3:rp K L H.n) (left:Int) :
    k6 Tryz.prog 94 [.agg #[M,N,J H.j,J H.on,L],J left] K (qY H left) λr v w'=>v=(J r)/\Below K.heap.size K w':=by
 unfold qY
 refine kQ func94 U λr e=>?_
 refine S<|gBx e U λ_ w e=>gA U<|S<|gF bg9 U<|gL e 0 isAgg126 U<|Y U<|gC e U call158 (aq8 _ H.a M (e.now h1) left) λaA _ w e=>gA U<|gS<|S<|Y U<|gB U<|gsd 10 U (λaB=>?_) λaB=>?_
 exact gct U<|S<|gA U<|gw U U U ⟨U,e.below⟩
 refine gcf U<|gSk<|S<|gF bj5 U<|gL e 0 isAgg127 U<|Y U<|gC e U call159 (al4 _ H.i N (e.now O) aA) λaC _ w e=>gA U<|gS<|S<|Y U<|gB U<|gsd 16 U (λaD=>?_) λaD=>?_
 exact gct U<|S<|gA U<|gw U U U ⟨U,e.below⟩
 refine gcf U<|gSk<|S<|gF bi6 U<|gL e 0 isAgg54 U<|Y U<|gC e U call160 (tx _ H.n L (e.now h3) aC) λ_ _ w e=>gA U<|gS<|S<|Y U<|gB U<|gsd 22 U (λW=>?_) λW=>?_
 exact gct U<|S<|gA U<|gw U U U ⟨U,e.below⟩
 exact gcf U<|gSk<|S<|Y U<|gA U<|gw U U U ⟨U,e.below⟩
theorem ac7 (K:World) (O:List jq) (W:Value) (M:rp K W O) (left:Int) :
    k6 Tryz.prog 42 [W,J left] K (sX O left) λr v w'=>v=(J r)/\Below K.heap.size K w':=by
 unfold sX
 refine kQ func42 U λr e=>?_
 refine S<|gA U<|S<|Y U<|Y U ?_
 obtain ⟨aD,aE,rfl,_⟩:=ju M
 refine gY (yV ae2 U)<|gB U<|gA U<|gS<|S<|Y U<|gB U<|gsd 11 U (λaF=>?_) λaF=>?_
 exact gct U<|S<|gA U<|gw U U U ⟨U,e.below⟩
 refine gcf U<|gSk<|gS<|S<|gA U<|gBk<|gNg (λaC L a w=>0<=L/\St 27 [(0,sl aD O aE),(1,J L),(5,J aC)] K (hp K) [] a w) (λa H=>⟨(by first | omega | (dsimp only;omega)),H.sb U,e.d [] U⟩) ?_ ?_
 rintro _ aG aC L a w ⟨_,H,e⟩ _ _ _ aH
 refine gv H<|gS<|S<|Y U<|Y U<|gY (yV ae2 U)<|gB U<|lT 15 U U<|S<|Y U<|Y U<|gg λaI aJ N=>?_
 obtain ⟨_,_,rfl⟩:=jA M N
 obtain ⟨aK,aL,aM,aN,aO,aP,aQ⟩:=k4 M N
 refine gI ae2 aJ (jx N) U<|gY (yn (aN.mono e.lez) isAgg129 sizeOf129 U)<|Y U<|gC e U call94 (ah4 _ aI aK (e.now aO) aL (e.now aP) aM (e.now aQ) L) λ_ _ w e=>gA U<|S<|Y U<|gB U<|gsd 25 U (λaR=>?_) λaR=>?_
 exact gct U<|S<|gA U<|gRt<|gLr aH aG<|gr1 results42 U ⟨U,e.below⟩
 exact gcf U<|gSk<|gR<|Y U<|gp U<|gA U<|gE<|gZe λa H=>⟨(by first | omega | (dsimp only;omega)),H.sb U,e.d [] U⟩
 rintro _ _ a w ⟨_,H,e⟩ _ _
 exact gv H<|gS<|S<|Y U<|Y U<|gY (yV ae2 U)<|gB U<|lF 15 U U<|gHh<|S<|Y U<|gA U<|gw U U U ⟨U,e.below⟩
theorem al3 (K:World) (H:jv) (L:Value) (M:rp K L H.b) (left:Int) :
    k6 Tryz.prog 21 [.agg #[J H.P,J H.r,L],J left] K (rI H left) λr v w'=>v=(J r)/\Below K.heap.size K w':=by
 unfold rI
 refine kQ func21 U λr e=>?_
 refine S<|gBx e U λ_ w e=>gA U<|S<|gF br9 U<|gL e 0 isAgg47 U<|Y U<|gC e U call42 (ac7 _ H.b L (e.now M) left) λ_ _ w e=>gA U<|gS<|S<|Y U<|gB U<|gsd 10 U (λN=>?_) λN=>?_
 exact gct U<|S<|gA U<|gw U U U ⟨U,e.below⟩
 exact gcf U<|gSk<|S<|Y U<|gA U<|gw U U U ⟨U,e.below⟩
theorem af9 (K:World) (O:List jv) (W:Value) (M:rp K W O) (left:Int) :
    k6 Tryz.prog 11 [W,J left] K (tN O left) λr v w'=>v=(J r)/\Below K.heap.size K w':=by
 unfold tN
 refine kQ func11 U λr e=>?_
 refine S<|gA U<|S<|Y U<|Y U ?_
 obtain ⟨aD,aE,rfl,_⟩:=ju M
 refine gY (yV ae6 U)<|gB U<|gA U<|gS<|S<|Y U<|gB U<|gsd 11 U (λaF=>?_) λaF=>?_
 exact gct U<|S<|gA U<|gw U U U ⟨U,e.below⟩
 refine gcf U<|gSk<|gS<|S<|gA U<|gBk<|gNg (λaC L a w=>0<=L/\St 27 [(0,sl aD O aE),(1,J L),(5,J aC)] K (hp K) [] a w) (λa H=>⟨(by first | omega | (dsimp only;omega)),H.sb U,e.d [] U⟩) ?_ ?_
 rintro _ aG aC L a w ⟨_,H,e⟩ _ _ _ aH
 refine gv H<|gS<|S<|Y U<|Y U<|gY (yV ae6 U)<|gB U<|lT 15 U U<|S<|Y U<|Y U<|gg λaI aJ N=>?_
 obtain ⟨_,_,rfl⟩:=jA M N
 obtain ⟨aK,aL,aM⟩:=nQ M N
 refine gI ae6 aJ (jx N) U<|gY (yn (aL.mono e.lez) isAgg49 sizeOf49 U)<|Y U<|gC e U call21 (al3 _ aI aK (e.now aM) L) λ_ _ w e=>gA U<|S<|Y U<|gB U<|gsd 25 U (λaN=>?_) λaN=>?_
 exact gct U<|S<|gA U<|gRt<|gLr aH aG<|gr1 results11 U ⟨U,e.below⟩
 exact gcf U<|gSk<|gR<|Y U<|gp U<|gA U<|gE<|gZe λa H=>⟨(by first | omega | (dsimp only;omega)),H.sb U,e.d [] U⟩
 rintro _ _ a w ⟨_,H,e⟩ _ _
 exact gv H<|gS<|S<|Y U<|Y U<|gY (yV ae6 U)<|gB U<|lF 15 U U<|gHh<|S<|Y U<|gA U<|gw U U U ⟨U,e.below⟩
theorem ap2 (H:World) (K:kU) (L:Value) (M:rp H L K.C) (left:Int) :
    k6 Tryz.prog 4 [.agg #[L],J left] H (sf K left) λr v w'=>v=(J r)/\Below H.heap.size H w':=by
 unfold sf
 refine kQ func4 U λr e=>?_
 refine S<|gBx e U λ_ w e=>gA U<|S<|gF bt0 U<|gL e 0 isAgg22 U<|Y U<|gC e U call11 (af9 _ K.C L (e.now M) left) λ_ _ w e=>gA U<|gS<|S<|Y U<|gB U<|gsd 10 U (λN=>?_) λN=>?_
 exact gct U<|S<|gA U<|gw U U U ⟨U,e.below⟩
 exact gcf U<|gSk<|S<|Y U<|gA U<|gw U U U ⟨U,e.below⟩
theorem u5 (M:World) (L:List Int) (v1:Value) (N:rp M v1 L) :
    k6 Tryz.prog 180 [v1] M (rJ L) λr v w'=>∃ (x1:Value),v=x1/\Mem M (hp M) w' [ow [x1] r]:=by
 unfold rJ
 refine kQ func180 U λr e=>?_
 refine S<|gA U<|S<|Y U ?_
 obtain ⟨aJ,aK,rfl,_⟩:=ju N
 refine gY (yV kI U)<|gb λaA aL=>?_
 obtain ⟨⟨aM,aN⟩,aI⟩:=lU.1 aL
 refine gf U (λa W=>ni (x0:=(0:Int)) kg (λ_=>(Flat.own_iff.2 U)) W e U U U aM (Int.le_refl _) aN) ?_
 rintro _ w e
 rw [aI] at e
 have a0:(aA.length:Int)=(L.length:Int):=by rw [<- aI];simp only [List.length_replicate];omega
 refine gA U<|gS<|S<|gA U ?_
 obtain ⟨aD,aE,rfl,_⟩:=ju<|e.ow_rep 0 U
 let K:=sl aD aA aE
 refine gBk<|gNf e (λaF aG=>[(0,sl aJ L aK),(3,K),(4,J aF)]) (λaF aG=>[ow [K] aG]) [0] U ?_ ?_
 intro _ _ aF aG w e _ _ _ _
 refine gS<|S<|Y U<|Y U<|gY (yV kI U)<|gB U<|lT 11 U U<|gR<|Y U<|Y U<|Y U<|Y U<|gg λO aO aH=>?_
 obtain ⟨_,_,rfl⟩:=jA N aH
 refine gI kI aO (jx aH) U<|gY (yl isAgg3 ((kC (cs:=[J O]) (e.now N) aH U).cell (j:=0) U) U)<|gg λ_ aP aC=>?_
 obtain ⟨_,_,rfl⟩:=jA (e.ow_rep 0 U) aC
 have H:=kB<|e.ow_rep 0 U
 refine gI kI aP (kL aC H) U<|gf0 U (λa W=>lI (x1:=O) (j:=0) (vs:=[J O]) 0 W e U aC U sizeOf3 U U U (Z U kE) U U) ?_
 rintro _ w e
 exact gR<|Y U<|gp U<|gA U<|gE<|gze e [0] U
 intro _ _ w e _ _
 exact gS<|S<|Y U<|Y U<|gY (yV kI U)<|gB U<|lF 11 U U<|gHh<|S<|Y U<|gA U<|gq U U ⟨K,U,e.d [0] U⟩
theorem at6 (K:World) (H:kA) (L:Value) (M:rp K L H.A) :
    k6 Tryz.prog 220 [.agg #[J H.to,L]] K (sJ H) λr v w'=>∃ (x1:Value),v=(.agg #[J r.to,x1])/\Mem K (hp K) w' [ow [x1] r.A]:=by
 unfold sJ
 refine kQ func220 U λr e=>?_
 refine S<|gBx e U λ_ w e=>gAl e zeroValue80 U λ_ w e=>S<|gAl e zeroValue80 U λ_ w e=>S<|gF cg2 U<|gL e 2 isAgg3 U<|gF oH U<|gS1 e 0 sizeOf3 U U λw e=>S<|gF bi7 U<|gL e 2 isAgg54 U<|gCg U call180 (u5 _ H.A L<|e.now M) ?_
 rintro _ _ O w ⟨_,rfl,N⟩
 replace e:=e.give N
 exact gF mT U<|gS1 e 1 sizeOf54 (kF<|e.ow_rep 0 U) U λw e=>S<|gY (yn (e.blk_at 1 U) isAgg80 sizeOf80 U)<|gSN e 2 sizeOf80 (Z U<|Z (kF<|e.ow_rep 0 U) kE) U λw e=>gRt<|grc 2 results220 e U isAgg80 sizeOf80 ⟨O,U,e.d [0] U⟩
theorem aq3 (K:World) (W:List kA) (v1:Value) (h1:rp K v1 W) :
    k6 Tryz.prog 178 [v1] K (ug W) λr v w'=>∃ (x1:Value),v=x1/\Mem K (hp K) w' [ow [x1] r]:=by
 unfold ug
 refine kQ func178 U λr e=>?_
 refine S<|gA U<|S<|Y U ?_
 obtain ⟨aK,aL,rfl,_⟩:=ju h1
 refine gY (yV xV U)<|gb λL aM=>?_
 obtain ⟨⟨aN,aO⟩,aI⟩:=lU.1 aM
 refine gf U (λa hf=>ni (x0:=((⟨0,[]⟩:kA):kA)) pF (λ_=>⟨[J 0],[nS],U,λ_=>False,λ_=>False,λ_ h=>h.elim,λ_ h=>h.elim,λ_ h=>h.elim,(Flat.own_iff.2 U),ke.2<|.inl ⟨U,U⟩⟩) hf e U U U aN (Int.le_refl _) aO) ?_
 rintro _ w e
 rw [aI] at e
 have a0:(L.length:Int)=(W.length:Int):=by rw [<- aI];simp only [List.length_replicate];omega
 refine gA U<|gS<|S<|gA U ?_
 obtain ⟨aF,O,rfl,_⟩:=ju<|e.ow_rep 0 U
 refine gBk<|gNf e (λaG N=>[(0,sl aK W aL),(3,sl aF L O),(4,J aG)]) (λaG N=>[ow [sl aF L O] N]) [0] U ?_ ?_
 intro _ _ aG N w e _ _ _ _
 refine gS<|S<|Y U<|Y U<|gY (yV xV U)<|gB U<|lT 11 U U<|gR<|Y U<|Y U<|Y U<|Y U<|gg λaP aQ aH=>?_
 obtain ⟨_,_,rfl⟩:=jA h1 aH
 obtain ⟨aR,aS,aT⟩:=mP h1 aH
 refine gI xV aQ (jx aH) U<|gY (yn (aS.mono e.lez) isAgg225 sizeOf225 U)<|gCg U call220 (at6 _ aP aR<|e.now aT) ?_
 rintro M _ _ w ⟨aJ,rfl,hB⟩
 replace e:=e.give hB
 refine gg λ_ aV aC=>?_
 obtain ⟨aW,aX,rfl⟩:=jA (e.ow_rep 1 U) aC
 obtain ⟨_,_,_⟩:=mP (e.ow_rep 1 U) aC
 have H:=kB<|e.ow_rep 1 U
 refine gI lY aV (kL aC H) U ?_
 replace e:Mem K (hp K) _ [ow [J M.to,aJ] (M:kA),ow [sw aW aX L O] N]:=n8 M.to e 0 U
 replace e:=(e.both 1 0 (dt U) U U).d [1] U
 refine gf0 U (λa hf=>sO (x1:=(M:kA)) (vs:=[J M.to,aJ]) 0 hf e U aC U sizeOf80 U U U U) ?_
 rintro _ w e
 exact gR<|Y U<|gp U<|gA U<|gE<|gze e [0] U
 intro _ _ w e _ _
 exact gS<|S<|Y U<|Y U<|gY (yV xV U)<|gB U<|lF 11 U U<|gHh<|S<|Y U<|gA U<|gq U U ⟨sl aF L O,U,e.d [0] U⟩
theorem au4 (K:World) (H:kD) (L:Value) (M:rp K L H.A) :
    k6 Tryz.prog 221 [.agg #[J H.op,J H.to,L,J H.N]] K (sB H) λr v w'=>∃ (x1:Value),v=(.agg #[J r.op,J r.to,x1,J r.N])/\Mem K (hp K) w' [ow [x1] r.A]:=by
 unfold sB
 refine kQ func221 U λr e=>?_
 refine S<|gBx e U λ_ w e=>gAl e zeroValue65 U λ_ w e=>S<|gAl e zeroValue65 U λ_ w e=>S<|gF cc4 U<|gL e 2 isAgg3 U<|gF nN U<|gS1 e 0 sizeOf3 U U λw e=>S<|gF ca7 U<|gL e 2 isAgg3 U<|gF oa U<|gS1 e 0 sizeOf3 U U λw e=>S<|gF be0 U<|gL e 2 isAgg54 U<|gCg U call180 (u5 _ H.A L<|e.now M) ?_
 rintro _ _ O w ⟨_,rfl,N⟩
 replace e:=e.give N
 exact gF ml U<|gS1 e 1 sizeOf54 (kF<|e.ow_rep 0 U) U λw e=>S<|gF cj4 U<|gL e 3 isAgg3 U<|gF pj U<|gS1 e 1 sizeOf3 U U λw e=>S<|gY (yn (e.blk_at 1 U) isAgg65 sizeOf65 U)<|gSN e 2 sizeOf65 (Z U<|Z U<|Z (kF<|e.ow_rep 0 U)<|Z U kE) U λw e=>gRt<|grc 2 results221 e U isAgg65 sizeOf65 ⟨O,U,e.d [0] U⟩
theorem am2 (L:World) (W:List kD) (v1:Value) (h1:rp L v1 W) :
    k6 Tryz.prog 179 [v1] L (uf W) λr v w'=>∃ (x1:Value),v=x1/\Mem L (hp L) w' [ow [x1] r]:=by
 unfold uf
 refine kQ func179 U λr e=>?_
 refine S<|gA U<|S<|Y U ?_
 obtain ⟨aK,aL,rfl,_⟩:=ju h1
 refine gY (yV xf U)<|gb λM aM=>?_
 obtain ⟨⟨aN,aO⟩,aI⟩:=lU.1 aM
 refine gf U (λa hf=>ni (x0:=((⟨0,0,[],0⟩:kD):kD)) pq (λ_=>⟨[J 0],[J 0,nS,J 0],U,λ_=>False,λ_=>False,λ_ h=>h.elim,λ_ h=>h.elim,λ_ h=>h.elim,(Flat.own_iff.2 U),⟨[J 0],[nS,J 0],U,λ_=>False,λ_=>False,λ_ h=>h.elim,λ_ h=>h.elim,λ_ h=>h.elim,(Flat.own_iff.2 U),⟨[nS],[J 0],U,λ_=>False,λ_=>False,λ_ h=>h.elim,λ_ h=>h.elim,λ_ h=>h.elim,ke.2<|.inl ⟨U,U⟩,(Flat.own_iff.2 U)⟩⟩⟩) hf e U U U aN (Int.le_refl _) aO) ?_
 rintro _ w e
 rw [aI] at e
 have a0:(M.length:Int)=(W.length:Int):=by rw [<- aI];simp only [List.length_replicate];omega
 refine gA U<|gS<|S<|gA U ?_
 obtain ⟨aF,O,rfl,_⟩:=ju<|e.ow_rep 0 U
 refine gBk<|gNf e (λaG N=>[(0,sl aK W aL),(3,sl aF M O),(4,J aG)]) (λaG N=>[ow [sl aF M O] N]) [0] U ?_ ?_
 intro _ _ aG N w e _ _ _ _
 refine gS<|S<|Y U<|Y U<|gY (yV xf U)<|gB U<|lT 11 U U<|gR<|Y U<|Y U<|Y U<|Y U<|gg λaP aQ aH=>?_
 obtain ⟨_,_,rfl⟩:=jA h1 aH
 obtain ⟨aR,aS,aT⟩:=nO h1 aH
 refine gI xf aQ (jx aH) U<|gY (yn (aS.mono e.lez) isAgg227 sizeOf227 U)<|gCg U call221 (au4 _ aP aR<|e.now aT) ?_
 rintro H _ _ w ⟨aJ,rfl,hB⟩
 replace e:=e.give hB
 refine gg λ_ aV aC=>?_
 obtain ⟨aW,aX,rfl⟩:=jA (e.ow_rep 1 U) aC
 obtain ⟨_,_,_⟩:=nO (e.ow_rep 1 U) aC
 have K:=kB<|e.ow_rep 1 U
 refine gI lh aV (kL aC K) U ?_
 replace e:Mem L (hp L) _ [ow [J H.op,J H.to,aJ,J H.N] (H:kD),ow [sw aW aX M O] N]:=tX H.op H.to H.N e 0 U
 replace e:=(e.both 1 0 (dt U) U U).d [1] U
 refine gf0 U (λa hf=>sO (x1:=(H:kD)) (vs:=[J H.op,J H.to,aJ,J H.N]) 0 hf e U aC U sizeOf65 U U U U) ?_
 rintro _ w e
 exact gR<|Y U<|gp U<|gA U<|gE<|gze e [0] U
 intro _ _ w e _ _
 exact gS<|S<|Y U<|Y U<|gY (yV xf U)<|gB U<|lF 11 U U<|gHh<|S<|Y U<|gA U<|gq U U ⟨sl aF M O,U,e.d [0] U⟩
theorem ag1 (K:World) (H:jq) (N:Value) (h1:rp K N H.a) (O:Value) (h2:rp K O H.i) (M:Value) (h3:rp K M H.n) :
    k6 Tryz.prog 124 [.agg #[N,O,J H.j,J H.on,M]] K (q8 H) λr v w'=>∃ (x1:Value) (x2:Value) (W:Value),v=(.agg #[x1,x2,J r.j,J r.on,W])/\Mem K (hp K) w' [ow [x1] r.a,ow [x2] r.i,ow [W] r.n]:=by
 unfold q8
 refine kQ func124 U λr e=>?_
 refine S<|gBx e U λ_ w e=>gAl e zeroValue68 U λ_ w e=>S<|gAl e zeroValue68 U λ_ w e=>S<|gF bg9 U<|gL e 2 isAgg126 U<|gCg U call178 (aq3 _ H.a N<|e.now h1) ?_
 rintro _ _ aA w ⟨_,rfl,L⟩
 replace e:=e.give L
 refine gF ko U<|gS1 e 1 sizeOf66 (kF<|e.ow_rep 0 U) U λw e=>S<|gF bj5 U<|gL e 3 isAgg127 U<|gCg U call179 (am2 _ H.i O<|e.now h2) ?_
 rintro _ _ aB w ⟨_,rfl,L⟩
 replace e:=e.give L
 refine gF lC U<|gS1 e 2 sizeOf53 (kF<|e.ow_rep 0 U) U λw e=>S<|gF cg5 U<|gL e 4 isAgg3 U<|gF oR U<|gS1 e 2 sizeOf3 U U λw e=>S<|gF ck9 U<|gL e 4 isAgg3 U<|gF oI U<|gS1 e 2 sizeOf3 U U λw e=>S<|gF bi6 U<|gL e 4 isAgg54 U<|gCg U call180 (u5 _ H.n M<|e.now h3) ?_
 rintro _ _ aC w ⟨_,rfl,L⟩
 replace e:=e.give L
 exact gF lb U<|gS1 e 3 sizeOf54 (kF<|e.ow_rep 0 U) U λw e=>S<|gY (yn (e.blk_at 3 U) isAgg68 sizeOf68 U)<|gSN e 4 sizeOf68 (Z (kF<|e.ow_rep 2 U)<|Z (kF<|e.ow_rep 1 U)<|Z U<|Z U<|Z (kF<|e.ow_rep 0 U) kE) U λw e=>gRt<|grc 4 results124 e U isAgg68 sizeOf68 ⟨aA,aB,aC,U,e.d [2,1,0] U⟩
theorem ac3 (O:World) (N:List jq) (v1:Value) (W:rp O v1 N) :
    k6 Tryz.prog 58 [v1] O (sU N) λr v w'=>∃ (x1:Value),v=x1/\Mem O (hp O) w' [ow [x1] r]:=by
 unfold sU
 refine kQ func58 U λr e=>?_
 refine S<|gA U<|S<|Y U ?_
 obtain ⟨aJ,aK,rfl,_⟩:=ju W
 refine gY (yV ae2 U)<|gb λaC aL=>?_
 obtain ⟨⟨aM,aN⟩,aI⟩:=lU.1 aL
 refine gf U (λa hf=>ni (x0:=((⟨[],[],0,0,[]⟩:jq):jq)) zu (λ_=>⟨[nS],[nS,J 0,J 0,nS],U,λ_=>False,λ_=>False,λ_ h=>h.elim,λ_ h=>h.elim,λ_ h=>h.elim,ke.2<|.inl ⟨U,U⟩,⟨[nS],[J 0,J 0,nS],U,λ_=>False,λ_=>False,λ_ h=>h.elim,λ_ h=>h.elim,λ_ h=>h.elim,ke.2<|.inl ⟨U,U⟩,⟨[J 0],[J 0,nS],U,λ_=>False,λ_=>False,λ_ h=>h.elim,λ_ h=>h.elim,λ_ h=>h.elim,(Flat.own_iff.2 U),⟨[J 0],[nS],U,λ_=>False,λ_=>False,λ_ h=>h.elim,λ_ h=>h.elim,λ_ h=>h.elim,(Flat.own_iff.2 U),ke.2<|.inl ⟨U,U⟩⟩⟩⟩⟩) hf e U U U aM (Int.le_refl _) aN) ?_
 rintro _ w e
 rw [aI] at e
 have a0:(aC.length:Int)=(N.length:Int):=by rw [<- aI];simp only [List.length_replicate];omega
 refine gA U<|gS<|S<|gA U ?_
 obtain ⟨aD,aE,rfl,_⟩:=ju<|e.ow_rep 0 U
 let K:=sl aD aC aE
 refine gBk<|gNf e (λaF aG=>[(0,sl aJ N aK),(3,K),(4,J aF)]) (λaF aG=>[ow [K] aG]) [0] U ?_ ?_
 intro _ _ aF aG w e _ _ _ _
 refine gS<|S<|Y U<|Y U<|gY (yV ae2 U)<|gB U<|lT 11 U U<|gR<|Y U<|Y U<|Y U<|Y U<|gg λaO aP aH=>?_
 obtain ⟨_,_,rfl⟩:=jA W aH
 obtain ⟨aQ,aR,aS,aT,aV,aW,aX⟩:=k4 W aH
 refine gI ae2 aP (jx aH) U<|gY (yn (aT.mono e.lez) isAgg129 sizeOf129 U)<|gCg U call124 (ag1 _ aO aQ (e.now aV) aR (e.now aW) aS<|e.now aX) ?_
 rintro L _ _ w ⟨aY,aZ,aa,rfl,hB⟩
 replace e:=e.give hB
 refine gg λ_ ab M=>?_
 obtain ⟨_,_,rfl⟩:=jA (e.ow_rep 3 U) M
 obtain ⟨_,_,_,_,_,_,_⟩:=k4 (e.ow_rep 3 U) M
 have H:=kB<|e.ow_rep 3 U
 refine gI kZ ab (kL M H) U ?_
 replace e:=(k9 L.j L.on e 0 1 2 U).d [0,3] U
 replace e:=(e.both 1 0 (dt U) U U).d [1] U
 refine gf0 U (λa hf=>sO (x1:=(L:jq)) (vs:=[aY,aZ,J L.j,J L.on,aa]) 0 hf e U M U sizeOf68 U U U U) ?_
 rintro _ w e
 exact gR<|Y U<|gp U<|gA U<|gE<|gze e [0] U
 intro _ _ w e _ _
 exact gS<|S<|Y U<|Y U<|gY (yV ae2 U)<|gB U<|lF 11 U U<|gHh<|S<|Y U<|gA U<|gq U U ⟨K,U,e.d [0] U⟩
theorem al2 (K:World) (H:jv) (L:Value) (M:rp K L H.b) :
    k6 Tryz.prog 24 [.agg #[J H.P,J H.r,L]] K (rK H) λr v w'=>∃ (x1:Value),v=(.agg #[J r.P,J r.r,x1])/\Mem K (hp K) w' [ow [x1] r.b]:=by
 unfold rK
 refine kQ func24 U λr e=>?_
 refine S<|gBx e U λ_ w e=>gAl e zeroValue41 U λ_ w e=>S<|gAl e zeroValue41 U λ_ w e=>S<|gF cp1 U<|gL e 2 isAgg3 U<|gF nD U<|gS1 e 0 sizeOf3 U U λw e=>S<|gF co5 U<|gL e 2 isAgg3 U<|gF mF U<|gS1 e 0 sizeOf3 U U λw e=>S<|gF br9 U<|gL e 2 isAgg47 U<|gCg U call58 (ac3 _ H.b L<|e.now M) ?_
 rintro _ _ O w ⟨_,rfl,N⟩
 replace e:=e.give N
 exact gF kM U<|gS1 e 1 sizeOf39 (kF<|e.ow_rep 0 U) U λw e=>S<|gY (yn (e.blk_at 1 U) isAgg41 sizeOf41 U)<|gSN e 2 sizeOf41 (Z U<|Z U<|Z (kF<|e.ow_rep 0 U) kE) U λw e=>gRt<|grc 2 results24 e U isAgg41 sizeOf41 ⟨O,U,e.d [0] U⟩
theorem af4 (L:World) (W:List jv) (v1:Value) (h1:rp L v1 W) :
    k6 Tryz.prog 13 [v1] L (tS W) λr v w'=>∃ (x1:Value),v=x1/\Mem L (hp L) w' [ow [x1] r]:=by
 unfold tS
 refine kQ func13 U λr e=>?_
 refine S<|gA U<|S<|Y U ?_
 obtain ⟨aK,aL,rfl,_⟩:=ju h1
 refine gY (yV ae6 U)<|gb λM aM=>?_
 obtain ⟨⟨aN,aO⟩,aI⟩:=lU.1 aM
 refine gf U (λa hf=>ni (x0:=((⟨0,0,[]⟩:jv):jv)) bh8 (λ_=>⟨[J 0],[J 0,nS],U,λ_=>False,λ_=>False,λ_ h=>h.elim,λ_ h=>h.elim,λ_ h=>h.elim,(Flat.own_iff.2 U),⟨[J 0],[nS],U,λ_=>False,λ_=>False,λ_ h=>h.elim,λ_ h=>h.elim,λ_ h=>h.elim,(Flat.own_iff.2 U),ke.2<|.inl ⟨U,U⟩⟩⟩) hf e U U U aN (Int.le_refl _) aO) ?_
 rintro _ w e
 rw [aI] at e
 have a0:(M.length:Int)=(W.length:Int):=by rw [<- aI];simp only [List.length_replicate];omega
 refine gA U<|gS<|S<|gA U ?_
 obtain ⟨aF,O,rfl,_⟩:=ju<|e.ow_rep 0 U
 refine gBk<|gNf e (λaG N=>[(0,sl aK W aL),(3,sl aF M O),(4,J aG)]) (λaG N=>[ow [sl aF M O] N]) [0] U ?_ ?_
 intro _ _ aG N w e _ _ _ _
 refine gS<|S<|Y U<|Y U<|gY (yV ae6 U)<|gB U<|lT 11 U U<|gR<|Y U<|Y U<|Y U<|Y U<|gg λaP aQ aH=>?_
 obtain ⟨_,_,rfl⟩:=jA h1 aH
 obtain ⟨aR,aS,aT⟩:=nQ h1 aH
 refine gI ae6 aQ (jx aH) U<|gY (yn (aS.mono e.lez) isAgg49 sizeOf49 U)<|gCg U call24 (al2 _ aP aR<|e.now aT) ?_
 rintro H _ _ w ⟨aJ,rfl,hB⟩
 replace e:=e.give hB
 refine gg λ_ aV aC=>?_
 obtain ⟨aW,aX,rfl⟩:=jA (e.ow_rep 1 U) aC
 obtain ⟨_,_,_⟩:=nQ (e.ow_rep 1 U) aC
 have K:=kB<|e.ow_rep 1 U
 refine gI nU aV (kL aC K) U ?_
 replace e:Mem L (hp L) _ [ow [J H.P,J H.r,aJ] (H:jv),ow [sw aW aX M O] N]:=ak0 H.P H.r e 0 U
 replace e:=(e.both 1 0 (dt U) U U).d [1] U
 refine gf0 U (λa hf=>sO (x1:=(H:jv)) (vs:=[J H.P,J H.r,aJ]) 0 hf e U aC U sizeOf41 U U U U) ?_
 rintro _ w e
 exact gR<|Y U<|gp U<|gA U<|gE<|gze e [0] U
 intro _ _ w e _ _
 exact gS<|S<|Y U<|Y U<|gY (yV ae6 U)<|gB U<|lF 11 U U<|gHh<|S<|Y U<|gA U<|gq U U ⟨sl aF M O,U,e.d [0] U⟩
theorem rX (H:World) (K:kU) (L:Value) (M:rp H L K.C) :
    k6 Tryz.prog 6 [.agg #[L]] H (pB K) λr v w'=>∃ (x1:Value),v=(.agg #[x1])/\Mem H (hp H) w' [ow [x1] r.C]:=by
 unfold pB
 refine kQ func6 U λr e=>?_
 refine S<|gBx e U λ_ w e=>gAl e zeroValue28 U λ_ w e=>S<|gAl e zeroValue28 U λ_ w e=>S<|gF bt0 U<|gL e 2 isAgg22 U<|gCg U call13 (af4 _ K.C L<|e.now M) ?_
 rintro _ _ O w ⟨_,rfl,N⟩
 replace e:=e.give N
 exact gF mu U<|gS1 e 1 sizeOf26 (kF<|e.ow_rep 0 U) U λw e=>S<|gY (yn (e.blk_at 1 U) isAgg28 sizeOf28 U)<|gSN e 2 sizeOf28 (Z (kF<|e.ow_rep 0 U) kE) U λw e=>gRt<|grc 2 results6 e U isAgg28 sizeOf28 ⟨O,U,e.d [0] U⟩
theorem lr (M:World) (N:Int) (K:Int) (e:Int) :
    k6 Tryz.prog 43 [J N,J K,J e] M (l3 N K e) λr v w'=>v=(.bool (r))/\Below M.heap.size M w':=by
 unfold l3
 refine kQ func43 U λr H=>?_
 refine S<|gA U<|gS<|gJ H (λL=>[(6,.bool L)]) (λL=>[]) (λL=>?_) ?_
 refine gR<|Y U<|Y U<|gB U<|Y U<|gsd 10 U (λO=>?_) λO=>?_
 exact Y U<|Y U<|gB U<|gKt U<|gA U<|gE<|gz H [] U
 exact gO U<|gO U<|gO U<|gKf U<|gA U<|gE<|gz H [] U
 intro L w H
 exact gy U U ⟨U,H.below⟩
theorem wu (L:World) (H:jv) (N:Value) (h1:rp L N H.b) (K:List Int) (W:Value) (M:rp L W K) :
    k6 Tryz.prog 97 [.agg #[J H.P,J H.r,N],W] L (rG H K) λr v w'=>v=(.bool (r))/\Below L.heap.size L w':=by
 unfold rG
 refine kQ func97 U λr e=>?_
 refine S<|gBx e U λaA w e=>gA U<|gS<|S<|gA U<|gBk<|gNf e (λO aD=>[(1,W),(2,pV aA),(5,J O)]) (λO aD=>[blk aA [J H.P,J H.r,N] 41]) [0] U ?_ ?_
 intro _ aF O aD w e _ _ _ aG
 refine gS<|S<|Y U<|Y U ?_
 obtain ⟨_,_,rfl,_⟩:=ju M
 refine gY (yV kI U)<|gB U<|lT 9 U U<|gS<|gW (.p 0<|.p 1<|.p 2<|.p 4<|.q 3<|.e 5 (.p 6<|.e 7 (.p 8 .fin) .nil) .nil) [5] [0,1,2,4,6,8] e [0] [blk aA [J H.P,J H.r,N] 41] U mxo (by kernel_rfl) (λ_ _ _ h=>h.2) λw e hS=>uM U U<|uM U U<|gg λaE aH aC=>?_
 obtain ⟨_,_,rfl⟩:=jA M aC
 refine tP U (λw=>yI kI aH (jx aC) U)<|uF mF U U<|tQ U hS (λw e=>yl isAgg3 ((kC (cs:=[J aE]) (e.now M) aC U).cell (j:=0) U) U)<|tO<|tY U (yL e 0 isAgg3 U)<|tAs hS<|uB U U<|tO<|gb λ_ aI=>tf U U (λa hf=>ki hf U call43 U<|lr _ aE 0 (w64<|H.r - 1) _ aI) ?_
 rintro _ w ⟨rfl,hB⟩
 replace e:=e.below' hB
 refine tAn U<|tP U (λw=>yN U)<|tE<|gsn 20 U (λaJ=>?_) λaJ=>?_
 exact gct U<|S<|gA U<|gRt<|gLr aG aF<|gr1 results97 U ⟨U,e.below⟩
 exact gcf U<|gSk<|gR<|Y U<|gp U<|gA U<|gE<|gze e [0] U
 intro _ _ w e _ _
 refine gS<|S<|Y U<|Y U ?_
 obtain ⟨_,_,rfl,_⟩:=ju M
 exact gY (yV kI U)<|gB U<|lF 9 U U<|gHh<|S<|gA U<|gq U U ⟨U,e.below⟩
theorem qy (L:World) (K:Int) :
    k6 Tryz.prog 114 [J K] L (n7 K) λr v w'=>v=(.bool (r))/\Below L.heap.size L w':=by
 unfold n7
 refine kQ func114 U λr e=>?_
 refine S<|gA U<|gS<|gJ e (λH=>[(2,.bool H)]) (λH=>[]) (λH=>?_) ?_
 refine gR<|Y U<|gC e U call43 (lr _ K 1 14) λ_ _ w e=>Y U<|gs 5 U (λN=>?_) λN=>?_
 refine Y U<|gB U<|gKt U<|Y U<|gsd 9 U (λM=>?_) λM=>?_
 exact Y U<|gB U<|gKt U<|gA U<|gE<|gz e [] U
 exact gO U<|gO U<|gKf U<|gA U<|gE<|gz e [] U
 exact gO U<|gO U<|gKf U<|Y U<|gO U<|gO U<|gKf U<|gA U<|gE<|gz e [] U
 intro H w e
 exact gy U U ⟨U,e.below⟩
theorem ar2 (M:World) (H:Int) :
    k6 Tryz.prog 161 [J H] M (sg H) λr v w'=>v=(J r)/\Below M.heap.size M w':=by
 unfold sg
 refine kQ func161 U λr e=>?_
 refine S<|gA U<|gS<|gBk<|S<|Y U<|gB U<|gA U<|gsd 3 U (λW=>?_) λW=>?_
 exact gct U<|S<|gA U<|gw U U U ⟨U,e.below⟩
 refine gcf U<|gS<|gJ e (λL=>[(0,J H),(6,.bool L)]) (λL=>[]) (λL=>?_) ?_
 refine gR<|Y U<|gB U<|Y U<|gsd 9 U (λaD=>?_) λaD=>?_
 exact gO U<|gO U<|gKt U<|Y U<|gO U<|gO U<|gKt U<|Y U<|gO U<|gO U<|gKt U<|gA U<|gE<|gz e [] U
 refine Y U<|gB U<|gKf U<|Y U<|gsd 13 U (λaE=>?_) λaE=>?_
 exact gO U<|gO U<|gKt U<|Y U<|gO U<|gO U<|gKt U<|gA U<|gE<|gz e [] U
 refine Y U<|gB U<|gKf U<|Y U<|gsd 17 U (λO=>?_) λO=>?_
 exact gO U<|gO U<|gKt U<|gA U<|gE<|gz e [] U
 exact Y U<|gB U<|gKf U<|gA U<|gE<|gz e [] U
 intro L w e
 refine gs 6 U (λN=>?_) λN=>?_
 exact gct U<|S<|gA U<|gw U U U ⟨U,e.below⟩
 refine gcf U<|gS<|gJ e (λK=>[(21,.bool K)]) (λK=>[]) (λK=>?_) ?_
 refine gR<|Y U<|gC e U call43 (lr _ H 3 9) λ_ _ w e=>Y U<|gs 24 U (λaH=>?_) λaH=>?_
 exact gO U<|gO U<|gKt U<|gA U<|gE<|gz e [] U
 exact Y U<|gB U<|gKf U<|gA U<|gE<|gz e [] U
 intro K w e
 refine gs 21 U (λaI=>?_) λaI=>?_
 exact gct U<|S<|gA U<|gw U U U ⟨U,e.below⟩
 exact gcf U<|gSk<|S<|gA U<|gw U U U ⟨U,e.below⟩
theorem au5 (W:World) (u:kU) (v1:Value) (h1:rp W v1 u.C) (k_:Int) (K:kD) (v2:Value) (h2:rp W v2 K.A) :
    k6 Tryz.prog 95 [.agg #[v1],J k_,.agg #[J K.op,J K.to,v2,J K.N]] W (tp u k_ K) λr v w'=>v=(.bool (r))/\Below W.heap.size W w':=by
 unfold tp
 refine kQ func95 U λr e=>?_
 refine S<|gBx e U λaA w e=>gBx e U λaB w e=>gA U<|S<|gF mu U<|gL e 1 isAgg26 U<|Y U<|gg λaC aP aH=>?_
 obtain ⟨aI,aJ,aK,he⟩:=jy h1 aH
 subst he
 obtain ⟨aL,aQ,aM⟩:=nQ h1 aH
 let O:=blk aB [J K.op,J K.to,v2,J K.N] 65
 let N:=blk aA [sw aI aJ u.C aK] 28
 refine gI nU aP (jx aH) U<|gY (yn (aQ.mono e.lez) isAgg41 sizeOf41 U)<|gAl e zeroValue41 U λaN w e=>gSN e 0 sizeOf41 (Z U<|Z U<|Z (kF aM) kE) U λw e=>gS<|gS<|gJ e (λaD=>[(1,J k_),(3,pV aA),(5,pV aB),(7,pV aN),(23,.bool aD)]) (λaD=>[N,O,blk aN [J aC.P,J aC.r,aL] 41]) (λaD=>?_) ?_
 refine gR<|gF nN U<|gL e 1 isAgg3 U<|gC e U call43 (lr _ K.op 1 14) λ_ _ w e=>gN U<|Y U<|gsn 17 U (λaR=>?_) λaR=>?_
 exact gO U<|gO U<|gO U<|gO U<|gO U<|gKt U<|gE<|gz e [2,1,0] U
 exact gY (yn (e.blk_at 0 U) isAgg41 sizeOf41 U)<|gF ml U<|gL e 1 isAgg54 U<|gC e U call97 (wu _ aC aL (e.now aM) K.A v2<|e.now h2) λ_ _ w e=>gN U<|gKf U<|gE<|gz e [2,1,0] U
 intro aD w e
 refine gs 23 U (λaS=>?_) λaS=>?_
 exact gct U<|S<|gA U<|gw U U U ⟨U,e.below⟩
 refine gcf U<|gSk<|gS<|gS<|gJ e (λaE=>[(1,J k_),(3,pV aA),(5,pV aB),(44,.bool aE)]) (λaE=>[N,O]) (λaE=>?_) ?_
 refine gW (.p 0<|.p 3<|.p 5<|.q 1<|.q 4<|.q 6<|.p 7<|.e 2 (.e 8 (.p 9<|.p 10<|.p 11<|.e 12 (.e 13 (.p 14<|.p 15<|.p 16<|.e 17 (.p 18<|.p 19<|.p 20 .fin) .nil) .nil) .nil) .nil) .nil) [1,2,4,6] [0,3,5,7,9,10,11,14,15,16,18,19,20] e [0,1,2] [_,_,_] U mxo (by kernel_rfl) (λ_ _ _ h=>h.2) λw e H=>uF nN U U<|uF oa U U<|uF mF U U<|tQ U H (λw e=>yL e 1 isAgg3 U)<|tQ U H (λw e=>yL e 1 isAgg3 U)<|tQ U H (λw e=>yL e 2 isAgg3 U)<|uB U U<|tO<|gb λ_ aT=>tf U U (λa L=>ki L U call114 U<|qy _ K.op _ aT) ?_
 rintro _ w ⟨rfl,M⟩
 replace e:=e.below' M
 refine tAk e [0,1,2] U λH=>tO<|gb λ_ aV=>tf U U (λa L=>ki L U call43 U<|lr _ K.to 0 (w64<|aC.r - 1) _ aV) ?_
 rintro _ w ⟨rfl,M⟩
 replace e:=e.below' M
 refine tAn U<|tP U (λw=>yG U<|ao5 underlying4 U U U)<|uM U U<|gsd 34 U (λaW=>?_) λaW=>?_
 exact tPo U U<|tO<|tEo U U<|tAn U<|tO<|tEo U U<|tAn U<|tPo U U<|tPo U U<|tPo U U<|tO<|tEo U U<|tAn U<|tPo U U<|tPo U U<|uT U U<|tE<|gz e [0,1] U
 refine uF nN U U<|tO<|tY U (yL e 1 isAgg3 U)<|tAn U<|tO<|gb λ_ aX=>tf U U (λa L=>ki L U call114 U<|qy _ K.op _ aX) ?_
 rintro _ w ⟨rfl,M⟩
 replace e:=e.below' M
 refine tAn U<|tP U (λw=>yN U)<|uM U U<|gsn 39 U (λaY=>?_) λaY=>?_
 exact uF oa U U<|tO<|tY U (yL e 1 isAgg3 U)<|tAn U<|uB U U<|uT U U<|uK U U<|tE<|gz e [0,1] U
 exact tPo U U<|tO<|tEo U U<|tAn U<|tPo U U<|uK U U<|uK U U<|tE<|gz e [0,1] U
 intro aE w e
 refine gs 44 U (λaZ=>?_) λaZ=>?_
 exact gct U<|S<|gA U<|gw U U U ⟨U,e.below⟩
 refine gcf U<|gSk<|gS<|S<|gF nN U<|gL e 1 isAgg3 U<|gB U<|gsd 47 U (λaa=>?_) λaa=>?_
 refine gct U<|gS<|gJ e (λaF=>[(6,.bool aF)]) (λaF=>[]) (λaF=>?_) ?_
 refine gW (.p 0<|.p 2<|.p 3<|.e 1 (.e 4 (.p 5<|.p 6<|.p 9<|.p 11<|.q 7<|.p 8<|.q 10<|.e 12 (.p 13<|.p 14<|.e 15 (.p 16<|.p 17<|.p 18 .fin) .nil) .nil) .nil) .nil) [7,10,12,15] [0,2,3,5,6,8,9,11,13,14,16,17,18] e [0,1] [_,_] U mxo (by kernel_rfl) (λ_ _ _ h=>h.2) λw e H=>uF pj U U<|uM U U<|uB U U<|tO<|tY U (yL e 1 isAgg3 U)<|tAn U<|tO<|gb λ_ ab=>tf U U (λa L=>ki L U call43 U<|lr _ K.N 0 (w64<|k_ - 1) _ ab) ?_
 rintro _ w ⟨rfl,M⟩
 replace e:=e.below' M
 refine tAk e [0,1] U λH=>uM U U<|gs 53 U (λac=>?_) λac=>?_
 refine uF ml U U<|uF mu U U<|uF pj U U<|tQ U H (λw e=>yL e 1 isAgg54 U) ?_
 obtain ⟨_,_,rfl,_⟩:=ju h2
 refine tP U (λw=>yV kI U)<|tQ U H (λw e=>yL e 0 isAgg26 U)<|tO<|tY U (yL e 1 isAgg3 U)<|tAs H<|gg λ_ ae aO=>?_
 obtain ⟨_,af,_⟩:=nQ h1 aO
 exact tP U (λw=>yI nU ae (jx aO) U)<|uF nD U U<|tO<|tY U (yl isAgg3 ((af.mono e.lez).cell (j:=0) U) U)<|tAs H<|uB U U<|uT U U<|uA U U<|tE<|gz e [] U
 exact tPo U U<|tPo U U<|tPo U U<|tQo U H U<|tPo U U<|tQo U H U<|tO<|tEo U U<|tAs H<|tPo U U<|tPo U U<|tO<|tEo U U<|tAs H<|tPo U U<|uK U U<|uA U U<|tE<|gz e [] U
 intro aF w e
 exact gRt<|gr1 results95 U ⟨U,e.below⟩
 refine gcf U<|gSk<|gS<|gJ e (λaG=>[(6,.bool aG)]) (λaG=>[]) (λaG=>?_) ?_
 refine gW (.p 0<|.p 3<|.q 1<|.p 2<|.e 4 (.e 5 (.p 6<|.p 7<|.p 8<|.e 9 (.e 10 (.p 11<|.p 12<|.p 13<|.e 14 (.p 15<|.p 16<|.p 17<|.e 18 (.p 19<|.p 20<|.p 21<|.p 22 .fin) .nil) .nil) .nil) .nil) .nil) .nil) [4,5] [0,2,3,6,7,8,11,12,13,15,16,17,19,20,21,22] e [0,1] [_,_] U mxo (by kernel_rfl) (λ_ _ _ h=>h.2) λw e H=>uF ml U U<|uF nN U U<|tQ U H (λw e=>yL e 1 isAgg54 U) ?_
 obtain ⟨_,_,rfl,_⟩:=ju h2
 refine tP U (λw=>yV kI U)<|tO<|tY U (yL e 1 isAgg3 U)<|tAs H<|tO<|gb λ_ ah=>tf U U (λa L=>ki L U call161 U<|ar2 _ K.op _ ah) ?_
 rintro _ w ⟨rfl,M⟩
 replace e:=e.below' M
 refine tAk e [0,1] U λH=>uB U U<|uM U U<|gsd 73 U (λai=>?_) λai=>?_
 refine uF pj U U<|tO<|tY U (yL e 1 isAgg3 U)<|tAn U<|tO<|gb λ_ aj=>tf U U (λa L=>ki L U call43 U<|lr _ K.N 0 255 _ aj) ?_
 rintro _ w ⟨rfl,M⟩
 replace e:=e.below' M
 refine tAn U<|uT U U<|uM U U<|gs 78 U (λak=>?_) λak=>?_
 refine uF pj U U<|tO<|tY U (yL e 1 isAgg3 U)<|tAn U<|uB U U<|uM U U<|gsd 82 U (λal=>?_) λal=>?_
 exact tPo U U<|tO<|tEo U U<|tAn U<|tPo U U<|uT U U<|uT U U<|uA U U<|tE<|gz e [] U
 exact uF nN U U<|tO<|tY U (yL e 1 isAgg3 U)<|tAn U<|uB U U<|uK U U<|uT U U<|uA U U<|tE<|gz e [] U
 exact tPo U U<|tO<|tEo U U<|tAn U<|tPo U U<|tPo U U<|tPo U U<|tO<|tEo U U<|tAn U<|tPo U U<|tPo U U<|uK U U<|uA U U<|tE<|gz e [] U
 exact tPo U U<|tO<|tEo U U<|tAn U<|tO<|tEo U U<|tAn U<|uK U U<|uM U U<|tPo U U<|tO<|tEo U U<|tAn U<|tPo U U<|tPo U U<|tPo U U<|tO<|tEo U U<|tAn U<|tPo U U<|tPo U U<|uK U U<|uA U U<|tE<|gz e [] U
 intro aG w e
 exact gRt<|gr1 results95 U ⟨U,e.below⟩
theorem nj (L:World) (K:jv) (v1:Value) (h1:rp L v1 K.b) (W:Int) :
    k6 Tryz.prog 96 [.agg #[J K.P,J K.r,v1],J W] L (ku K W) λr v w'=>∃ (x1:Value),v=x1/\Mem L (hp L) w' [ow [x1] r]:=by
 unfold ku
 refine kQ func96 U λr e=>?_
 refine S<|gBx e U λN w e=>gA U<|S<|gf U (λa H=>k5 (α:=Int) kg e U) ?_
 rintro _ w e
 refine gA U<|gS<|S<|gA U ?_
 obtain ⟨aS,aT,rfl,_⟩:=ju<|e.ow_rep 0 U
 refine gBk<|gNg (λM aC a w=>∃ (aF:Value),St 43 [(1,J W),(2,pV N),(5,aF),(6,J M)] L (hp L) [blk N [J K.P,J K.r,v1] 41,ow [aF] aC] a w) (λa H=>⟨sl aS ([]:List Int) aT,H.sb U,e.d [1,0] U⟩) ?_ ?_
 rintro _ _ M aC a w ⟨aF,H,e⟩ _ _ _ _
 refine gv H<|gS<|S<|Y U<|gF kM U<|gL e 0 isAgg39 U ?_
 obtain ⟨aM,aN,rfl,_⟩:=ju h1
 refine gY (yV kZ U)<|gB U<|lT 13 U U<|S<|gA U ?_
 obtain ⟨aG,aH,rfl,_⟩:=ju<|e.ow_rep 1 U
 let O:=blk N [J K.P,J K.r,sl aM K.b aN] 41
 refine gJg (λaI a w=>∃ (aD:Value),St 43 [(1,J W),(2,pV N),(5,aD),(6,J M)] L (hp L) [O,ow [aD] aI] a w) (λaI=>?_) ?_
 refine gBk<|gMf e (λaJ=>[(1,J W),(2,pV N),(5,sl aG aC aH),(6,J M),(7,J aJ)]) (λaJ=>[O,os aG aC aH]) [0,1] U ?_
 intro _ aO aJ w e _ aP
 refine gS<|S<|Y U<|gF kM U<|gL e 0 isAgg39 U<|Y U<|gg λ_ aQ aE=>?_
 obtain ⟨_,_,rfl⟩:=jA h1 aE
 obtain ⟨_,_,_,aR,_,_,aK⟩:=k4 h1 aE
 refine gI kZ aQ (jx aE) U<|gF lb U<|gY (yl isAgg54 ((aR.mono e.lez).cell (j:=4) U) U) ?_
 obtain ⟨_,_,rfl,_⟩:=ju aK
 refine gY (yV kI U)<|gB U<|gsd 24 U (λaV=>?_) λaV=>?_
 refine gct U<|gSk<|gS<|gBk<|S<|gF kM U<|gL e 0 isAgg39 U<|Y U<|gI kZ aQ (jx aE) U<|gF lb U<|gY (yl isAgg54 ((aR.mono e.lez).cell (j:=4) U) U)<|Y U<|gg λaW aX aL=>?_
 obtain ⟨_,_,rfl⟩:=jA aK aL
 refine gI kI aX (jx aL) U<|gY (yl isAgg3 ((kC (cs:=[J aW]) (e.now aK) aL U).cell (j:=0) U) U)<|Y U<|gB U<|gsd 37 U (λaY=>?_) λaY=>?_
 refine gct U<|S<|Y U<|Y U<|gf U (λa H=>kj (vs :=#[(0,(J M))]) (cs :=[J M]) kg H e U U (by kernel_rfl) U U) ?_
 rintro _ w ⟨_,rfl,e⟩
 replace e:=e.lit (xs:=([M]:List Int)) 0 U U U U
 refine gb λ_ aZ=>?_
 obtain ⟨aa,ab⟩:=kP.1 aZ
 refine gf U (λa H=>kz 2 kg H e U (e.ow_rep 0 U) U U U aa) ?_
 rintro ac w e
 rw [ab] at e
 exact gA U<|gXt<|gHm U<|gHh<|gLp aP aO<|gZ λa H=>⟨ac,H.sb U,e.d [1,2] U⟩
 exact gcf U<|gSk<|gR<|Y U<|gB U<|gA U<|gE<|gze e [0,1] U
 exact gcf U<|gXt<|gHh<|gLp aP aO<|gZ λa H=>⟨sl aG aC aH,H.sb U,e.d [0,1] U⟩
 rintro aI a w ⟨aD,H,e⟩
 exact gv H<|gR<|Y U<|gp U<|gA U<|gE<|gZe λa H=>⟨aD,H.sb U,e.d [0,1] U⟩
 rintro _ _ a w ⟨ae,H,e⟩ _ _
 refine gv H<|gS<|S<|Y U<|gF kM U<|gL e 0 isAgg39 U ?_
 obtain ⟨_,_,rfl,_⟩:=ju h1
 exact gY (yV kZ U)<|gB U<|lF 13 U U<|gHh<|S<|Y U<|gA U<|gq U U ⟨ae,U,e.d [1] U⟩
theorem ah1 (w0:World) (u:kU) (v1:Value) (h1:rp w0 v1 u.C) (k_:Int) (b_:Int) :
    k6 Tryz.prog 44 [.agg #[v1],J k_,J b_] w0 (qb u k_ b_) λr v w'=>v=(.bool (r))/\Below w0.heap.size w0 w':=by
 unfold qb
 refine kQ func44 U λr e=>?_
 refine S<|gBx e U λaE w e=>gA U<|S<|gF mu U<|gL e 0 isAgg26 U<|Y U<|gg λaB bC af=>?_
 obtain ⟨aI,aJ,aK,he⟩:=jy h1 af
 subst he
 obtain ⟨_,bD,aN⟩:=nQ h1 af
 refine gI nU bC (jx af) U<|gY (yn (bD.mono e.lez) isAgg41 sizeOf41 U)<|gAl e zeroValue41 U λaC w e=>gSN e 0 sizeOf41 (Z U<|Z U<|Z (kF aN) kE) U λw e=>S<|gF kM U<|gL e 0 isAgg39 U<|Y U<|gg λM bE ah=>?_
 obtain ⟨aF,aG,aH,he⟩:=jy aN ah
 subst he
 obtain ⟨aL,aM,aQ,bF,aR,aS,aO⟩:=k4 aN ah
 let a1:=sw aF aG aB.b aH
 let L:=blk aC [J aB.P,J aB.r,a1] 41
 let a4:=sw aI aJ u.C aK
 let W:=blk aE [a4] 28
 let N:=J M.j
 let O:=J M.on
 refine gI kZ bE (jx ah) U<|gY (yn (bF.mono e.lez) isAgg68 sizeOf68 U)<|gAl e zeroValue68 U λaD w e=>gSN e 0 sizeOf68 (Z (kF aR)<|Z (kF aS)<|Z U<|Z U<|Z (kF aO) kE) U λw e=>S<|gA U<|gS<|S<|gF oR U<|gL e 0 isAgg3 U<|cq4 (λaV a w=>0<=M.j/\M.j<=3/\0<=aV/\aV<=2/\St 136 [(1,J k_),(2,J b_),(3,pV aE),(7,pV aC),(8,pV aD),(9,J aV)] w0 (hp w0) [W,L,blk aD [aL,aM,N,O,aQ] 68] a w) (λ_ aq=>?_) ?_
 let a3:=blk aD [aL,aM,N,O,aQ] 68
 refine gBk<|S<|gB U<|gA U<|cq4 (λaW a w=>0<=M.j/\M.j<=3/\0<=aW/\aW<=2/\St 136 [(1,J k_),(2,J b_),(3,pV aE),(7,pV aC),(8,pV aD),(9,J aW)] w0 (hp w0) [W,L,a3] a w) (λ_ ar=>?_) ?_
 refine gsd 26 U (λbG=>?_) λbG=>?_
 refine gct U<|S<|gF oI U<|gL e 0 isAgg3 U<|gB U<|gsd 30 U (λbH=>?_) λbH=>?_
 exact gct U<|S<|gA U<|gRt<|gEr ar<|gEr aq<|gr1 results44 U ⟨U,e.below⟩
 exact gcf U<|gSk<|gZe λa H=>⟨(by first | omega | (dsimp only;omega)),(by first | omega | (dsimp only;omega)),(by first | omega | (dsimp only;omega)),(by first | omega | (dsimp only;omega)),H.sb U,e.d [2,1,0] U⟩
 refine gcf U<|S<|gB U<|gA U<|cq4 (λaX a w=>0<=M.j/\M.j<=3/\0<=aX/\aX<=2/\St 136 [(1,J k_),(2,J b_),(3,pV aE),(7,pV aC),(8,pV aD),(9,J aX)] w0 (hp w0) [W,L,a3] a w) (λ_ bJ=>?_) ?_
 refine gsd 31 U (λbK=>?_) λbK=>?_
 exact gct U<|gR<|gA U<|gE<|gZe λa H=>⟨(by first | omega | (dsimp only;omega)),(by first | omega | (dsimp only;omega)),(by first | omega | (dsimp only;omega)),(by first | omega | (dsimp only;omega)),H.sb U,e.d [2,1,0] U⟩
 refine gcf U<|S<|gB U<|gA U<|gsd 33 U (λbL=>?_) λbL=>?_
 exact gct U<|gR<|gA U<|gE<|gZe λa H=>⟨(by first | omega | (dsimp only;omega)),(by first | omega | (dsimp only;omega)),(by first | omega | (dsimp only;omega)),(by first | omega | (dsimp only;omega)),H.sb U,e.d [2,1,0] U⟩
 exact gcf U<|S<|gA U<|gRt<|gEr bJ<|gEr ar<|gEr aq<|gr1 results44 U ⟨U,e.below⟩
 rintro aX a w ⟨_,_,_,_,H,e⟩
 exact gv H<|gZe λa H=>⟨(by first | omega | (dsimp only;omega)),(by first | omega | (dsimp only;omega)),(by first | omega | (dsimp only;omega)),(by first | omega | (dsimp only;omega)),H.sb U,e.d [0,1,2] U⟩
 rintro aW a w ⟨_,_,_,_,H,e⟩
 exact gv H<|gZe λa H=>⟨(by first | omega | (dsimp only;omega)),(by first | omega | (dsimp only;omega)),(by first | omega | (dsimp only;omega)),(by first | omega | (dsimp only;omega)),H.sb U,e.d [0,1,2] U⟩
 rintro aV a w ⟨_,_,_,_,H,e⟩
 let a2:=blk aD [aL,aM,N,O,aQ] 68
 refine gv H<|gS<|gS<|gJg (λai a w=>0<=M.j/\M.j<=3/\St 136 [(1,J k_),(2,J b_),(3,pV aE),(7,pV aC),(8,pV aD),(53,.bool ai)] w0 (hp w0) [W,L,a2] a w) (λai=>?_) ?_
 refine gR<|gF lb U<|gL e 2 isAgg54 U ?_
 obtain ⟨_,_,rfl,_⟩:=ju aO
 refine gY (yV kI U)<|Y U<|gB U<|Y U<|gsd 40 U (λbM=>?_) λbM=>?_
 exact gO U<|gO U<|gO U<|gO U<|gO U<|gO U<|gO U<|gO U<|gO U<|gO U<|gO U<|gO U<|gKt U<|gE<|gZ λa H=>⟨(by first | omega | (dsimp only;omega)),(by first | omega | (dsimp only;omega)),H.sb U,e.d [0,1,2] U⟩
 refine gF oR U<|gL e 2 isAgg3 U<|gB U<|Y U<|gsd 44 U (λbN=>?_) λbN=>?_
 exact gF oI U<|gL e 2 isAgg3 U<|gF mF U<|gL e 1 isAgg3 U<|gB U<|gC e U call43 (lr _ M.on 0<|w64<|aB.r - 1) λ_ _ w e=>gN U<|gKt U<|gKf U<|gE<|gZ λa H=>⟨(by first | omega | (dsimp only;omega)),(by first | omega | (dsimp only;omega)),H.sb U,e.d [0,1,2] U⟩
 exact gO U<|gO U<|gO U<|gO U<|gO U<|gO U<|gO U<|gKf U<|gKf U<|gE<|gZ λa H=>⟨(by first | omega | (dsimp only;omega)),(by first | omega | (dsimp only;omega)),H.sb U,e.d [0,1,2] U⟩
 rintro ai a w ⟨_,_,H,e⟩
 refine gv H<|gs 53 U (λbO=>?_) λbO=>?_
 exact gct U<|S<|gA U<|gw U U U ⟨U,e.below⟩
 refine gcf U<|gSk<|gS<|S<|gA U<|gBk<|gNf e (λaj au=>[(1,J k_),(2,J b_),(3,pV aE),(7,pV aC),(8,pV aD),(10,J aj)]) (λaj au=>[W,L,a2]) [0,1,2] U ?_ ?_
 intro _ bP aj au w e _ _ _ bQ
 refine gS<|S<|Y U<|gF lb U<|gL e 2 isAgg54 U ?_
 obtain ⟨bR,bS,rfl,_⟩:=ju aO
 refine gY (yV kI U)<|gB U<|lT 58 U U<|gS<|gW (.p 0<|.p 2<|.p 5<|.q 1<|.p 3<|.q 4<|.e 6 (.p 7<|.p 8<|.e 9 (.p 10 .fin) .nil) .nil) [6] [0,2,3,5,7,8,10] e [0,1,2] [W,L,blk aD [aL,aM,N,O,sl bR M.n bS] 68] U mxo (by kernel_rfl) (λ_ _ _ h=>h.2) λw e K=>uF lb U U<|uM U U<|uF kM U U<|tQ U K (λw e=>yL e 2 isAgg54 U)<|gg λaw bT ak=>?_
 obtain ⟨_,_,rfl⟩:=jA aO ak
 refine tP U (λw=>yI kI bT (jx ak) U)<|tQ U K (λw e=>yl isAgg3 ((kC (cs:=[J aw]) (e.now aO) ak U).cell (j:=0) U) U)<|tO<|tY U (yL e 1 isAgg39 U)<|tAs K ?_
 have c7:=o9 aN
 refine tP U (λw=>yV kZ U)<|tP U (λw=>yS (by omega) (by omega) U)<|tO<|gb λ_ bU=>tf U U (λa H=>ki H U call43 U<|lr _ aw 1 (((aB.b.length:Int)) - 1) _ bU) ?_
 rintro _ w ⟨rfl,hB⟩
 replace e:=e.below' hB
 refine tAn U<|tP U (λw=>yN U)<|tE<|gsn 71 U (λbV=>?_) λbV=>?_
 exact gct U<|S<|gA U<|gRt<|gLr bQ bP<|gr1 results44 U ⟨U,e.below⟩
 exact gcf U<|gSk<|gR<|Y U<|gp U<|gA U<|gE<|gze e [0,1,2] U
 intro _ _ w e _ _
 refine gS<|S<|Y U<|gF lb U<|gL e 2 isAgg54 U ?_
 obtain ⟨aY,aZ,rfl,_⟩:=ju aO
 let a0:=sl aY M.n aZ
 refine gY (yV kI U)<|gB U<|lF 58 U U<|gHh<|gS<|S<|gA U<|gBk<|gNf e (λal ax=>[(1,J k_),(2,J b_),(3,pV aE),(7,pV aC),(8,pV aD),(11,J al)]) (λal ax=>[W,L,blk aD [aL,aM,N,O,a0] 68]) [0,1,2] U ?_ ?_
 intro _ bW al ax w e _ _ _ bX
 refine gS<|S<|Y U<|gF lC U<|gL e 2 isAgg53 U ?_
 obtain ⟨bY,bZ,rfl,_⟩:=ju aS
 refine gY (yV lh U)<|gB U<|lT 76 U U<|gS<|gW (.p 1<|.p 2<|.p 4<|.q 0<|.e 3 (.p 5<|.e 6 (.e 7 (.p 8 .fin) .nil) .nil) .nil) [3,6] [1,2,4,5,8] e [0,1,2] [W,L,blk aD [aL,sl bY M.i bZ,N,O,a0] 68] U mxo (by kernel_rfl) (λ_ _ _ h=>h.2) λw e K=>uM U U<|uF lC U U<|uM U U<|tQ U K (λw e=>yn (e.blk_at 0 U) isAgg28 sizeOf28 U)<|tO<|tY U (yL e 2 isAgg53 U)<|tAs K<|gg λb8 b9 am=>?_
 obtain ⟨_,_,rfl⟩:=jA aS am
 obtain ⟨ba,bb,bc⟩:=nO aS am
 refine tP U (λw=>yI lh b9 (jx am) U)<|tO<|tY U (yn (bb.mono e.lez) isAgg65 sizeOf65 U)<|tAs K<|tO<|gb λ_ bd=>tf U U (λa H=>ki H U call95 U<|au5 _ u a4 (e.now h1) k_ b8 ba (e.now bc) _ bd) ?_
 rintro _ w ⟨rfl,hB⟩
 replace e:=e.below' hB
 refine tAn U<|tP U (λw=>yN U)<|tE<|gsn 87 U (λbe=>?_) λbe=>?_
 exact gct U<|S<|gA U<|gRt<|gLr bX bW<|gr1 results44 U ⟨U,e.below⟩
 exact gcf U<|gSk<|gR<|Y U<|gp U<|gA U<|gE<|gze e [0,1,2] U
 intro _ _ w e _ _
 refine gS<|S<|Y U<|gF lC U<|gL e 2 isAgg53 U ?_
 obtain ⟨ay,az,rfl,_⟩:=ju aS
 refine gY (yV lh U)<|gB U<|lF 76 U U<|gHh<|S<|gY (yn (e.blk_at 1 U) isAgg41 sizeOf41 U)<|Y U<|gCg U call96 (nj _ aB a1 (e.now aN) b_) ?_
 rintro aP _ _ w ⟨_,rfl,hB⟩
 replace e:=e.give hB
 refine gA U<|gS<|S<|gA U ?_
 obtain ⟨aa,ab,rfl,_⟩:=ju<|e.ow_rep 0 U
 refine gBk<|gNf e (λac bA=>[(2,J b_),(7,pV aC),(8,pV aD),(12,sl aa aP ab),(13,J ac)]) (λac bA=>[L,blk aD [aL,sl ay M.i az,N,O,a0] 68,os aa aP ab]) [2,3,0] U ?_ ?_
 intro _ bf ac bA w e _ _ _ bg
 refine gS<|S<|Y U<|gF ko U<|gL e 1 isAgg66 U ?_
 obtain ⟨bh,bi,rfl,_⟩:=ju aR
 refine gY (yV lY U)<|gB U<|lT 95 U U<|gS<|gJ e (λae=>[(2,J b_),(7,pV aC),(8,pV aD),(12,sl aa aP ab),(13,J ac),(135,.bool ae)]) (λae=>[L,blk aD [sl bh M.a bi,sl ay M.i az,N,O,a0] 68,os aa aP ab]) (λae=>?_) ?_
 refine gW (.p 0<|.p 1<|.p 2<|.p 3<|.p 5<|.p 10<|.p 11<|.e 4 (.p 6<|.p 7<|.e 8 (.p 9<|.p 12<|.p 13<|.p 14<|.p 16<|.p 18<|.q 15<|.e 17 (.p 19<|.p 20<|.e 21 (.e 22 (.p 23<|.p 24<|.p 25<|.p 26<|.p 28<|.p 32<|.q 27<|.p 29<|.p 30<|.q 31<|.e 33 (.p 34<|.e 35 (.p 36<|.p 37 .fin) .nil) .nil) .nil) .nil) .nil) .nil) .nil) [17,21,33] [0,1,2,3,5,6,7,9,10,11,12,13,14,16,18,19,20,23,24,25,26,28,29,30,32,34,36,37] e [0,1,2] [_,_,_] U mxo (by kernel_rfl) (λ_ _ _ h=>h.2) λw e K=>uM U U<|uB U U<|uM U U<|gsd 100 U (λbj=>?_) λbj=>?_
 refine tPo U U<|tPo U U<|tPo U U<|tPo U U<|tO<|tEo U U<|tAn U<|tPo U U<|tPo U U<|tO<|tEo U U<|tAn U<|tPo U U<|tPo U U<|uT U U<|uM U U<|tPo U U<|tPo U U<|tQo U K U<|tO<|tEo U U<|tAs K<|tPo U U<|tPo U U<|tO<|tEo U U<|tAs K<|tO<|tEo U U<|tAn U<|tPo U U ?_
 exact uT U U<|uM U U<|tPo U U<|tPo U U<|tPo U U<|tQo U K U<|tPo U U<|tPo U U<|tQo U K U<|tO<|tEo U U<|tAs K<|tPo U U<|tO<|tEo U U<|tAn U<|tPo U U<|uT U U<|tE<|gz e [0,1,2] U
 refine uF ko U U<|uM U U<|uM U U<|tP U (λw=>yV kI U)<|tO<|tY U (yL e 1 isAgg66 U)<|tAn U<|gg λan ao aT=>?_
 obtain ⟨_,_,rfl⟩:=jA aR aT
 obtain ⟨_,ap,bB⟩:=mP aR aT
 refine tP U (λw=>yI lY ao (jx aT) U)<|uF mT U U<|tO<|tY U (yl isAgg54 ((ap.mono e.lez).cell (j:=1) U) U)<|tAn U ?_
 obtain ⟨bk,bl,rfl,_⟩:=ju bB
 refine tP U (λw=>yV kI U)<|uB U U<|uK U U<|uM U U<|gsd 112 U (λbm=>?_) λbm=>?_
 refine tPo U U<|tPo U U<|tQo U K U<|tO<|tEo U U<|tAs K<|tPo U U<|tPo U U<|tO<|tEo U U<|tAs K<|tO<|tEo U U<|tAn U<|tPo U U<|uT U U<|uM U U<|tPo U U<|tPo U U<|tPo U U<|tQo U K U<|tPo U U<|tPo U U<|tQo U K U<|tO<|tEo U U<|tAs K<|tPo U U<|tO<|tEo U U<|tAn U ?_
 exact tPo U U<|uT U U<|tE<|gz e [0,1,2] U
 refine uF ko U U<|uM U U<|tQ U K (λw e=>yn (e.blk_at 0 U) isAgg41 sizeOf41 U)<|tO<|tY U (yL e 1 isAgg66 U)<|tAs K<|tP U (λw=>yI lY ao (jx aT) U)<|uF mT U U<|tO<|tY U (yl isAgg54 ((ap.mono e.lez).cell (j:=1) U) U)<|tAs K<|tO<|gb λ_ bo=>tf U U (λa H=>ki H U call97 U<|wu _ aB a1 (e.now aN) an.A (sl bk an.A bl) (e.now bB) _ bo) ?_
 rintro _ w ⟨rfl,hB⟩
 replace e:=e.below' hB
 refine tAk e [0,1,2] U λK=>tP U (λw=>yN U)<|uK U U<|uM U U<|gsn 123 U (λbp=>?_) λbp=>?_
 exact tPo U U<|tPo U U<|tPo U U<|tQo U K U<|tPo U U<|tPo U U<|tQo U K U<|tO<|tEo U U<|tAs K<|tPo U U<|tO<|tEo U U<|tAn U<|tPo U U<|uT U U<|tE<|gz e [0,1,2] U
 refine uF ko U U<|uM U U<|uF mF U U<|tQ U K (λw e=>yL e 1 isAgg66 U)<|tP U (λw=>yI lY ao (jx aT) U)<|uF oH U U<|tQ U K (λw e=>yl isAgg3 ((ap.mono e.lez).cell (j:=0) U) U)<|tO<|tY U (yL e 0 isAgg3 U)<|tAs K<|uB U U<|tO<|gb λ_ bq=>tf U U (λa H=>ki H U call43 U<|lr _ an.to 0 (w64<|aB.r - 1) _ bq) ?_
 rintro _ w ⟨rfl,hB⟩
 replace e:=e.below' hB
 exact tAn U<|tP U (λw=>yN U)<|uK U U<|tE<|gz e [0,1,2] U
 intro ae w e
 refine gs 135 U (λbr=>?_) λbr=>?_
 exact gct U<|S<|gA U<|gRt<|gLr bg bf<|gr1 results44 U ⟨U,e.below⟩
 exact gcf U<|gSk<|gR<|Y U<|gp U<|gA U<|gE<|gze e [0,1,2] U
 intro _ _ w e _ _
 refine gS<|S<|Y U<|gF ko U<|gL e 1 isAgg66 U ?_
 obtain ⟨_,_,rfl,_⟩:=ju aR
 exact gY (yV lY U)<|gB U<|lF 95 U U<|gHh<|S<|gA U<|gw U U U ⟨U,e.below⟩
theorem um (w0:World) (u:kU) (v1:Value) (h1:rp w0 v1 u.C) :
    k6 Tryz.prog 22 [.agg #[v1]] w0 (nc u) λr v w'=>v=(.bool (r))/\Below w0.heap.size w0 w':=by
 unfold nc
 refine kQ func22 U λr e=>?_
 refine S<|gBx e U λW w e=>gA U<|gS<|S<|gF mu U<|gL e 0 isAgg26 U ?_
 obtain ⟨aX,aE,rfl,_⟩:=ju h1
 refine gY (yV nU U)<|gC e U call43 (lr _ (u.C.length:Int) 1 4) λ_ _ w e=>gN U<|gsn 11 U (λaY=>?_) λaY=>?_
 exact gct U<|S<|gA U<|gw U U U ⟨U,e.below⟩
 refine gcf U<|gSk<|S<|gA U<|gS<|S<|gA U<|gBk<|gNf e (λO aJ=>[(1,pV W),(3,J aJ),(4,J O)]) (λO aJ=>[blk W [sl aX u.C aE] 28]) [0] U ?_ ?_
 intro _ aP O aJ w e _ _ _ aQ
 refine gS<|S<|Y U<|gF mu U<|gL e 0 isAgg26 U<|gY (yV nU U)<|gB U<|lT 16 U U<|S<|gF mu U<|gL e 0 isAgg26 U<|Y U<|gg λM aZ aO=>?_
 obtain ⟨aG,aH,rfl⟩:=jA h1 aO
 obtain ⟨aR,aa,aF⟩:=nQ h1 aO
 let a0:=sw aG aH u.C aE
 let H:=blk W [a0] 28
 let L:=J M.P
 let K:=J M.r
 refine gI nU aZ (jx aO) U<|gY (yn (aa.mono e.lez) isAgg41 sizeOf41 U)<|gAl e zeroValue41 U λN w e=>gSN e 0 sizeOf41 (Z U<|Z U<|Z (kF aF) kE) U λw e=>gS<|gS<|gJ e (λaK=>[(1,pV W),(3,J aJ),(4,J O),(5,pV N),(42,.bool aK)]) (λaK=>[H,blk N [L,K,aR] 41]) (λaK=>?_) ?_
 refine gR<|gF nD U<|gL e 0 isAgg3 U<|gC e U call43 (lr _ M.P 0 3) λ_ _ w e=>gN U<|Y U<|gsn 28 U (λab=>?_) λab=>?_
 exact gO U<|gO U<|gO U<|gO U<|gO U<|gO U<|gKt U<|Y U<|gO U<|gO U<|gO U<|gO U<|gO U<|gKt U<|gE<|gz e [1,0] U
 refine gF mF U<|gL e 0 isAgg3 U<|gF nD U<|gL e 0 isAgg3 U<|gC e U call43 (lr _ M.r M.P 300) λ_ _ w e=>gN U<|gKf U<|Y U<|gsn 36 U (λac=>?_) λac=>?_
 exact gO U<|gO U<|gO U<|gO U<|gO U<|gKt U<|gE<|gz e [1,0] U
 refine gF kM U<|gL e 0 isAgg39 U ?_
 obtain ⟨_,_,rfl,_⟩:=ju aF
 exact gY (yV kZ U)<|gC e U call43 (lr _ (M.b.length:Int) 1 160) λ_ _ w e=>gN U<|gKf U<|gE<|gz e [1,0] U
 intro aK w e
 refine gs 42 U (λae=>?_) λae=>?_
 exact gct U<|S<|gA U<|gRt<|gLr aQ aP<|gr1 results22 U ⟨U,e.below⟩
 refine gcf U<|gSk<|S<|gA U<|gBk<|gNf e (λaI aL=>[(1,pV W),(3,J aL),(4,J O),(5,pV N),(6,J aI)]) (λaI aL=>[H,blk N [L,K,aR] 41]) [0,1] U ?_ ?_
 intro _ af aI aL w e _ _ _ ah
 refine gS<|S<|Y U<|gF kM U<|gL e 1 isAgg39 U ?_
 obtain ⟨ai,aS,rfl,_⟩:=ju aF
 refine gY (yV kZ U)<|gB U<|lT 47 U U<|gS<|gW (.p 0<|.p 1<|.p 3<|.p 9<|.p 11<|.q 2<|.p 4<|.p 5<|.q 6<|.p 7<|.p 8<|.e 10 (.p 12<|.p 13<|.e 14 (.p 15<|.p 16<|.p 17 .fin) .nil) .nil) [10,14] [0,1,3,4,5,7,8,9,11,12,13,15,16,17] e [0,1] [H,blk N [L,K,sl ai M.b aS] 41] U mxo (by kernel_rfl) (λ_ _ _ h=>h.2) λw e hS=>uM U U<|uF kM U U<|uM U U<|uF kM U U<|uM U U<|tQ U hS (λw e=>yL e 1 isAgg39 U)<|gg λaT aV aM=>?_
 obtain ⟨aj,ak,rfl⟩:=jA aF aM
 obtain ⟨_,_,_,aW,al,am,_⟩:=k4 aF aM
 refine tP U (λw=>yI kZ aV (jx aM) U)<|uF lC U U<|tQ U hS (λw e=>yl isAgg53 ((aW.mono e.lez).cell (j:=1) U) U) ?_
 obtain ⟨_,_,rfl,_⟩:=ju am
 refine tP U (λw=>yV lh U)<|uB U U<|tO<|tY U (yL e 1 isAgg39 U)<|tAs hS<|tP U (λw=>yI kZ aV (jx aM) U)<|uF ko U U<|tO<|tY U (yl isAgg66 ((aW.mono e.lez).cell (j:=0) U) U)<|tAs hS ?_
 obtain ⟨_,_,rfl,_⟩:=ju al
 refine tP U (λw=>yV lY U)<|uB U U<|uA U U<|tE<|gS<|gJ e (λaN=>[(1,pV W),(3,J<|w64<|(w64<|aL+((aT.i.length:Int)))+((aT.a.length:Int))),(4,J O),(5,pV N),(6,J aI),(75,.bool aN)]) (λaN=>[H,blk N [L,K,sw aj ak M.b aS] 41]) (λaN=>?_) ?_
 refine gR<|Y U<|gB U<|Y U<|gsd 69 U (λan=>?_) λan=>?_
 exact gO U<|gO U<|gO U<|gO U<|gO U<|gKt U<|gE<|gz e [0,1] U
 exact gY (yn (e.blk_at 0 U) isAgg28 sizeOf28 U)<|Y U<|Y U<|gC e U call44 (ah1 _ u a0 (e.now h1) O aI) λ_ _ w e=>gN U<|gKf U<|gE<|gz e [0,1] U
 intro aN w e
 refine gs 75 U (λao=>?_) λao=>?_
 exact gct U<|S<|gA U<|gRt<|gLr ah af<|gLr aQ aP<|gr1 results22 U ⟨U,e.below⟩
 exact gcf U<|gSk<|gR<|Y U<|gp U<|gA U<|gE<|gze e [0,1] U
 intro _ _ w e _ _
 refine gS<|S<|Y U<|gF kM U<|gL e 1 isAgg39 U ?_
 obtain ⟨_,_,rfl,_⟩:=ju aF
 exact gY (yV kZ U)<|gB U<|lF 47 U U<|gHh<|gR<|Y U<|gp U<|gA U<|gE<|gze e [0] U
 intro _ _ w e _ _
 exact gS<|S<|Y U<|gF mu U<|gL e 0 isAgg26 U<|gY (yV nU U)<|gB U<|lF 16 U U<|gHh<|S<|gA U<|gw U U U ⟨U,e.below⟩
theorem ag8 (W:World) (H:jv) (v1:Value) (O:rp W v1 H.b) :
    k6 Tryz.prog 162 [.agg #[J H.P,J H.r,v1]] W (rW H) λr v w'=>v=(.bool (r))/\Below W.heap.size W w':=by
 unfold rW
 refine kQ func162 U λr e=>?_
 let K:=J H.P
 refine S<|gBx e U λL w e=>gA U<|gS<|S<|gA U<|gBk<|gNf e (λM aH=>[(1,pV L),(3,J M)]) (λM aH=>[blk L [K,J H.r,v1] 41]) [0] U ?_ ?_
 intro _ aP M aH w e _ _ _ aQ
 refine gS<|S<|Y U<|gF kM U<|gL e 0 isAgg39 U ?_
 obtain ⟨aI,aD,rfl,_⟩:=ju O
 let N:=blk L [K,J H.r,sl aI H.b aD] 41
 refine gY (yV kZ U)<|gB U<|lT 9 U U<|S<|gA U<|gJe e (λaJ=>[(1,pV L),(3,J M)]) (λaJ=>[N]) (λ_ aR=>?_) ?_
 refine gBk<|gMf e (λaE=>[(1,pV L),(3,J M),(4,J aE)]) (λaE=>[N]) [0] U ?_
 intro _ aK aE w e _ aL
 refine gS<|S<|Y U<|gF kM U<|gL e 0 isAgg39 U<|Y U<|gg λ_ aM aC=>?_
 obtain ⟨aS,aT,rfl⟩:=jA O aC
 obtain ⟨_,_,_,aN,_,_,aF⟩:=k4 O aC
 refine gI kZ aM (jx aC) U<|gF lb U<|gY (yl isAgg54 ((aN.mono e.lez).cell (j:=4) U) U) ?_
 obtain ⟨_,_,rfl,_⟩:=ju aF
 refine gY (yV kI U)<|gB U<|gsd 20 U (λaV=>?_) λaV=>?_
 refine gct U<|gSk<|gS<|gBk<|gS<|gW (.p 0<|.p 2<|.p 6<|.p 9<|.q 1<|.p 3<|.p 4<|.q 5<|.p 7<|.q 8<|.e 10 (.p 11<|.p 12<|.e 13 (.p 14 .fin) .nil) .nil) [10] [0,2,3,4,6,7,9,11,12,14] e [0] [blk L [K,J H.r,sw aS aT H.b aD] 41] U mxo (by kernel_rfl) (λ_ _ _ h=>h.2) λw e hS=>uF kM U U<|uM U U<|uM U U<|uF kM U U<|tQ U hS (λw e=>yL e 0 isAgg39 U)<|tP U (λw=>yI kZ aM (jx aC) U)<|uF lb U U<|tQ U hS (λw e=>yl isAgg54 ((aN.mono e.lez).cell (j :=4) U) U)<|gg λaO aW aG=>?_
 obtain ⟨_,_,rfl⟩:=jA aF aG
 refine tP U (λw=>yI kI aW (jx aG) U)<|tQ U hS (λw e=>yl isAgg3 ((kC (cs:=[J aO]) (e.now aF) aG U).cell (j:=0) U) U)<|tO<|tY U (yL e 0 isAgg39 U)<|tAs hS<|tP U (λw=>yV kZ U)<|tP U (λw=>yS (by omega) (by omega) U)<|tO<|gb λ_ aX=>tf U U (λa hf=>ki hf U call43 U<|lr _ aO 0 (((H.b.length:Int)) - 1) _ aX) ?_
 rintro _ w ⟨rfl,hB⟩
 replace e:=e.below' hB
 refine tAn U<|tP U (λw=>yN U)<|tE<|gsn 37 U (λaY=>?_) λaY=>?_
 exact gct U<|S<|gA U<|gRt<|gLp aL aK<|gl<|gEr aR<|gLr aQ aP<|gr1 results162 U ⟨U,e.below⟩
 exact gcf U<|gSk<|gR<|Y U<|gB U<|gA U<|gE<|gze e [0] U
 exact gcf U<|gXt<|gHh<|gLp aL aK<|gr<|gze e [0] U
 intro aJ w e
 exact gR<|Y U<|gp U<|gA U<|gE<|gze e [0] U
 intro _ _ w e _ _
 refine gS<|S<|Y U<|gF kM U<|gL e 0 isAgg39 U ?_
 obtain ⟨_,_,rfl,_⟩:=ju O
 exact gY (yV kZ U)<|gB U<|lF 9 U U<|gHh<|S<|gF kM U<|gL e 0 isAgg39 U<|gY (yV kZ U)<|gB U<|gA U<|gq U U ⟨U,e.below⟩
theorem zg (c_:jv):∀ (W:Int) (seen:List Bool) (L:List Int) (r:(List Int) × (List Bool)),lL c_ W seen L=some r->∀ (M:World) (N:kR) (v1:Value) (h1:GT.rep N [v1] c_.b) (v2:Value) (v3:Value) (a0:Mem M N M [ow [v2] seen,ow [v3] L]),Con Tryz.prog 102 [.agg #[J c_.P,J c_.r,v1],J W,v2,v3] M (λv w'=>∃ (x1:Value),v=x1/\Mem M N w' [ow [x1] r.1,ow [v2] r.2]):=by
 refine lL.partial_correctness c_ (motive:=λW seen L r=>∀ (M:World) (N:kR) (v1:Value) (h1:GT.rep N [v1] c_.b) (v2:Value) (v3:Value) (a0:Mem M N M [ow [v2] seen,ow [v3] L]),Con Tryz.prog 102 [.agg #[J c_.P,J c_.r,v1],J W,v2,v3] M (λv w'=>∃ (x1:Value),v=x1/\Mem M N w' [ow [x1] r.1,ow [v2] r.2])) ?_
 intro a5 a8 W seen L r hq M N v1 h1 v2 v3 a0
 have H:∀ (M:World) (N:kR) (_:jv) (v1:Value) (h1:GT.rep N [v1] c_.b) (W:Int) (seen:List Bool) (v2:Value) (L:List Int) (v3:Value) (a0:Mem M N M [ow [v2] seen,ow [v3] L]) (r:(List Int) × (List Bool)) (hq:a5 W seen L=some r),Con Tryz.prog 102 [.agg #[J c_.P,J c_.r,v1],J W,v2,v3] M (λv w'=>∃ (x1:Value),v=x1/\Mem M N w' [ow [x1] r.1,ow [v2] r.2]):=λM N _ v1 h1 W seen v2 L v3 a0 r hq=>a8 W seen L r hq M N v1 h1 v2 v3 a0
 refine bg7 (ρ:=(List Int) × (List Bool)) (R:=λr v w'=>∃ (x1:Value),v=x1/\Mem M N w' [ow [x1] r.1,ow [v2] r.2]) func102 U hq ?_
 have e:=a0
 refine S<|gBx e U λaE w e=>gA U<|S<|Y U<|Y U<|gg λ_ aZ aI=>?_
 obtain ⟨aB,aC,aD,he⟩:=kG (e.ow_rep 1 U) aI
 subst he
 refine gI mK aZ (jx aI) U<|gf0 U (λa K=>lI (x1:=true) (j:=0) (vs:=[.bool true]) 1 K e U aI U sizeOf4 U U U (Z U kE) U U) ?_
 rintro _ w e
 refine gS<|S<|gA U ?_
 obtain ⟨aa,ab,rfl,_⟩:=ju<|e.ow_rep 2 U
 let O:=sw aB aC seen aD
 refine gJg (λaJ a w=>∃ (aS:Value),St 54 [(1,J W),(3,aS)] M N [ow [aS] aJ.1,ow [O] aJ.2] a w) (λaJ=>?_) ?_
 let a1:=J c_.P
 refine gBk<|gMg (λaA a w=>∃ (aF:Value),St 54 [(1,J W),(2,O),(3,aF),(4,pV aE),(9,J aA.2.2)] M N [ow [O] aA.1,ow [aF] aA.2.1,blk aE [a1,J c_.r,v1] 41] a w) (λa K=>⟨sl aa L ab,K.sb U,e.d [1,2,0] U⟩) ?_
 rintro _ ac aA a w ⟨aF,K,e⟩ _ ae
 refine gv K<|gS<|S<|Y U<|gF kM U<|gL e 2 isAgg39 U<|Y U<|gg λ_ aT aG=>?_
 obtain ⟨aK,aL,aM,he⟩:=jy h1 aG
 subst he
 obtain ⟨_,_,_,aV,_,_,aN⟩:=k4 h1 aG
 refine gI kZ aT (jx aG) U<|gF lb U<|gY (yl isAgg54 ((aV.mono e.lez).cell (j:=4) U) U) ?_
 obtain ⟨_,_,rfl,_⟩:=ju aN
 refine gY (yV kI U)<|gB U<|gsd 21 U (λaf=>?_) λaf=>?_
 let a2:=sw aK aL c_.b aM
 let a4:=blk aE [a1,J c_.r,a2] 41
 refine gct U<|gSk<|gS<|gJg (λaO a w=>∃ (aP:Value),St 54 [(1,J W),(2,O),(3,aP),(4,pV aE),(9,J aA.2.2)] M N [ow [O] aO.1,ow [aP] aO.2,a4] a w) (λaO=>?_) ?_
 refine gBk<|S<|Y U<|gF kM U<|gL e 2 isAgg39 U<|Y U<|gI kZ aT (jx aG) U<|gF lb U<|gY (yl isAgg54 ((aV.mono e.lez).cell (j:=4) U) U)<|Y U<|gg λaW aX aH=>?_
 obtain ⟨_,_,rfl⟩:=jA aN aH
 refine gI kI aX (jx aH) U<|gY (yl isAgg3 ((kC (cs:=[J aW]) (e.now aN) aH U).cell (j:=0) U) U)<|gg λah ai aY=>?_
 have a3:=kB<|e.ow_rep 0 U
 refine gI mK ai (kL aY a3) U<|gY (yl isAgg4 ((kC (cs:=[.bool ah]) (e.ow_rep 0 U) aY U).cell (j:=0) U) U)<|gN U<|gJg (λaQ a w=>∃ (aR:Value),St 54 [(1,J W),(2,O),(3,aR),(4,pV aE),(9,J aA.2.2)] M N [ow [O] aQ.1,ow [aR] aQ.2,a4] a w) (λaQ=>?_) ?_
 refine gsn 36 U (λaj=>?_) λaj=>?_
 refine gct U<|gW (.p 1<|.p 3<|.p 7<|.p 10<|.p 11<|.q 0<|.e 2 (.p 4<|.p 5<|.e 6 (.p 8<|.e 9 (.e 12 (.p 13 .fin) .nil) .nil) .nil) .nil) [2,6,9] [1,3,4,5,7,8,10,11,13] e [0,1,2] [ow [O] aA.1,ow [aF] aA.2.1,blk aE [a1,J c_.r,a2] 41] U mxo (by kernel_rfl) (λ_ _ _ h=>h.2) λw e hS=>uF kM U U<|uM U U<|uM U U<|uM U U<|uM U U<|tQ U hS (λw e=>yn (e.blk_at 2 U) isAgg41 sizeOf41 U)<|tO<|tY U (yL e 2 isAgg39 U)<|tAs hS<|tP U (λw=>yI kZ aT (jx aG) U)<|uF lb U U<|tO<|tY U (yl isAgg54 ((aV.mono e.lez).cell (j :=4) U) U)<|tAs hS<|tP U (λw=>yI kI aX (jx aH) U)<|tO<|tY U (yl isAgg3 ((kC (cs :=[J aW]) (e.now aN) aH U).cell (j :=0) U) U)<|tAs hS<|tO<|gb λ_ ak=>?_
 obtain ⟨al,a6,a7,_,am⟩:=e.take2 (L1:=[_,_]) (L2:=[_]) [0,1] [2] (dt U) U U
 refine tf U U (λa K=>ki K U call102 U<|H _ al c_ a2 (GT.mono a6 h1) aW aA.1 O aA.2.1 aF a7  _ ak) ?_
 rintro an w ⟨_,rfl,hB⟩
 replace e:=am _ _ hB;clear hB
 exact tAn U<|uA U U<|tE<|gZ λa K=>⟨an,K.sb U,e.d [1,0,2] U⟩
 exact gcf U<|gSk<|gZ λa K=>⟨aF,K.sb U,e.d [0,1,2] U⟩
 rintro aQ a w ⟨aR,K,e⟩
 exact gv K<|gZ λa K=>⟨aR,K.sb U,e.d [0,1,2] U⟩
 rintro aO a w ⟨aP,K,e⟩
 exact gv K<|gR<|Y U<|gB U<|gA U<|gE<|gZe λa K=>⟨aP,K.sb U,e.d [0,1,2] U⟩
 exact gcf U<|gXt<|gHh<|gLp ae ac<|gZ λa K=>⟨aF,K.sb U,e.d [1,0] U⟩
 rintro aJ a w ⟨aS,K,e⟩
 refine gv K<|S<|Y U<|Y U<|gf U (λa K=>kj (vs:=#[(0,J W)]) (cs:=[J W]) kg K e U U (by kernel_rfl) U U) ?_
 rintro _ w ⟨_,rfl,e⟩
 replace e:=e.lit (xs:=([W]:List Int)) 0 U U U U
 refine gb λ_ ao=>?_
 obtain ⟨ap,aq⟩:=kP.1 ao
 refine gf U (λa K=>kz 1 kg K e U (e.ow_rep 0 U) U U U ap) ?_
 rintro ar w e
 rw [aq] at e
 exact gA U<|gq U U ⟨ar,U,e.d [1,2] U⟩
theorem qZ (K:World) (M:kR) (H:jv) (W:Value) (h1:GT.rep M [W] H.b) (N:Int) (seen:List Bool) (L:Value) (e:List Int) (O:Value) (a0:Mem K M K [ow [L] seen,ow [O] e]) (r:(List Int) × (List Bool)) (hq:lL H N seen e=some r):Con Tryz.prog 102 [.agg #[J H.P,J H.r,W],J N,L,O] K (λv w'=>∃ (x1:Value),v=x1/\Mem K M w' [ow [x1] r.1,ow [L] r.2]):=zg H N seen e r hq K M W h1 L O a0
theorem vp (L:World) (K:jv) (v1:Value) (h1:rp L v1 K.b) :
    k6 Tryz.prog 47 [.agg #[J K.P,J K.r,v1]] L (pb K) λr v w'=>∃ (x1:Value),v=x1/\Mem L (hp L) w' [ow [x1] r]:=by
 unfold pb
 refine kQ func47 U λr e=>?_
 refine S<|gBx e U λ_ w e=>gA U<|gS<|gJg (λaA a w=>∃ (aF:Value),St 29 [(3,aF)] L (hp L) [ow [aF] aA] a w) (λaA=>?_) ?_
 refine gW (.p 1<|.q 0<|.q 2<|.p 3<|.e 4 (.e 5 (.e 6 (.p 7 .fin) .nil) .nil)<|.e 5 (.e 4 (.e 6 (.p 7 .fin) .nil) .nil) .nil) [0,2,4,5] [1,3,7] e [0] [_] U mxo (by kernel_rfl) (λ_ _ _ h=>h.2) λw e O=>uF kM U U<|tQ U O (λw e=>yn (e.blk_at 0 U) isAgg41 sizeOf41 U)<|tQ U O (λw e=>yL e 0 isAgg39 U) ?_
 obtain ⟨aJ,aK,rfl,_⟩:=ju h1
 refine tP U (λw=>yV kZ U)<|gb λaB aL=>gb λ_ aM=>tMo ?_ ?_
 obtain ⟨⟨aR,aS⟩,aN⟩:=lU.1 aL
 refine tf U U (λa H=>ni (x0:=(false:Bool)) uh (λ_=>(Flat.own_iff.2 U)) H e U U U aR (Int.le_refl _) aS) ?_
 rintro aT w e
 rw [aN] at e
 have a1:(aB.length:Int)=(K.b.length:Int):=by rw [<- aN];simp only [List.length_replicate];omega
 refine tAk e [1] U λO=>tO<|tf U U (λa H=>k5 (α:=Int) kg e U) ?_
 rintro aV w e
 refine tAk e [2] U λO=>tO ?_
 obtain ⟨aW,N,M,W,aX⟩:=e.take2 (L1:=[_,_]) (L2:=[_]) [1,0] [2] (dt U) U U
 refine tf U U (λa H=>ki H U call102 U<|qZ _ aW K (sl aJ K.b aK) (GT.mono N h1) 0 aB aT ([]:List Int) aV M  _ aM) ?_
 rintro aY w ⟨_,rfl,hB⟩
 replace e:=aX _ _ hB;clear hB
 exact tAn U<|uA U U<|tE<|gZ λa H=>⟨aY,H.sb U,e.d [0] U⟩
 refine tO<|tf U U (λa H=>k5 (α:=Int) kg e U) ?_
 rintro aZ w e
 refine tAk e [1] U λO=>tO ?_
 obtain ⟨⟨aa,ab⟩,aO⟩:=lU.1 aL
 refine tf U U (λa H=>ni (x0:=(false:Bool)) uh (λ_=>(Flat.own_iff.2 U)) H e U U U aa (Int.le_refl _) ab) ?_
 rintro ac w e
 rw [aO] at e
 have a0:(aB.length:Int)=(K.b.length:Int):=by rw [<- aO];simp only [List.length_replicate];omega
 refine tAk e [2] U λO=>tO ?_
 obtain ⟨ae,N,M,W,af⟩:=e.take2 (L1:=[_,_]) (L2:=[_]) [0,1] [2] (dt U) U U
 refine tf U U (λa H=>ki H U call102 U<|qZ _ ae K (sl aJ K.b aK) (GT.mono N h1) 0 aB ac ([]:List Int) aZ M  _ aM) ?_
 rintro ah w ⟨_,rfl,hB⟩
 replace e:=af _ _ hB;clear hB
 exact tAn U<|uA U U<|tE<|gZ λa H=>⟨ah,H.sb U,e.d [0] U⟩
 rintro aA a w ⟨aF,H,e⟩
 refine gv H<|S<|gf U (λa H=>k5 (α:=Int) kg e U) ?_
 rintro _ w e
 refine gA U<|gS<|S<|Y U ?_
 obtain ⟨aP,aQ,rfl,_⟩:=ju<|e.ow_rep 1 U
 refine gY (yV kI U)<|gY (yS (by omega) (by omega) U)<|gA U ?_
 obtain ⟨ai,aj,rfl,_⟩:=ju<|e.ow_rep 0 U
 refine gJg (λaG a w=>∃ (aC:Value),St 29 [(4,aC)] L (hp L) [ow [aC] aG] a w) (λaG=>?_) ?_
 refine gBk<|gMg (λaH a w=>∃ (aD:Value),St 29 [(3,sl aP aA aQ),(4,aD),(5,J aH.2)] L (hp L) [os aP aA aQ,ow [aD] aH.1] a w) (λa H=>⟨sl ai ([]:List Int) aj,H.sb U,e.d [1,0] U⟩) ?_
 rintro _ ak aH a w ⟨aD,H,e⟩ _ al
 refine gv H<|gS<|S<|Y U<|gB U<|gsd 18 U (λam=>?_) λam=>?_
 refine gct U<|gSk<|gS<|gBk<|gR<|Y U<|Y U<|Y U<|gg λaE an aI=>?_
 obtain ⟨_,_,rfl⟩:=jA (e.ow_rep 0 U) aI
 refine gI kI an (jx aI) U<|gY (yl isAgg3 ((kC (cs:=[J aE]) (e.ow_rep 0 U) aI U).cell (j:=0) U) U)<|gf U (λa H=>kj (vs:=#[(0,J aE)]) (cs:=[J aE]) kg H e U U (by kernel_rfl) U U) ?_
 rintro _ w ⟨_,rfl,e⟩
 replace e:=e.lit (xs:=([aE]:List Int)) 0 U U U U
 refine gb λ_ ao=>?_
 obtain ⟨ap,aq⟩:=kP.1 ao
 refine gf U (λa H=>kz 2 kg H e U (e.ow_rep 0 U) U U U ap) ?_
 rintro ar w e
 rw [aq] at e
 exact gA U<|gR<|Y U<|gB U<|gA U<|gE<|gZe λa H=>⟨ar,H.sb U,e.d [1,2] U⟩
 exact gcf U<|gXt<|gHh<|gLp al ak<|gZ λa H=>⟨aD,H.sb U,e.d [1] U⟩
 rintro aG a w ⟨aC,H,e⟩
 exact gv H<|S<|Y U<|gA U<|gq U U ⟨aC,U,e.d [0] U⟩
theorem q9 (w0:World) (hz:kR) (H:List Int) (v1:Value) (M:Int) (a0:Mem w0 hz w0 [ow [v1] H]) :
    k6 Tryz.prog 168 [v1,J M] w0 (lZ H M) λr v w'=>∃ (x1:Value),v=x1/\Mem w0 hz w' [ow [x1] r]:=by
 unfold lZ
 refine k7 func168 U λr=>?_
 have e:=a0
 refine S<|gA U<|S<|gA U<|gS ?_
 obtain ⟨aA,aB,rfl,_⟩:=ju<|e.ow_rep 0 U
 let K:=sl aA H aB
 let L:=os aA H aB
 refine gJ e (λO=>[(0,K),(1,J M),(5,J O)]) (λO=>[L]) (λO=>?_) ?_
 refine gBk<|gMf e (λaD=>[(0,K),(1,J M),(5,J aD)]) (λaD=>[L]) [0] U ?_
 intro _ aM aD w e _ aN
 refine gS<|gS<|gJ e (λW=>[(0,K),(1,J M),(5,J aD),(18,.bool W)]) (λW=>[L]) (λW=>?_) ?_
 refine gR<|Y U<|Y U<|gY (yV kI U)<|gB U<|Y U<|gsd 11 U (λaO=>?_) λaO=>?_
 refine Y U<|Y U<|gg λaP aQ aG=>?_
 obtain ⟨_,_,rfl⟩:=jA (e.ow_rep 0 U) aG
 exact gI kI aQ (jx aG) U<|gY (yl isAgg3 ((kC (cs:=[J aP]) (e.ow_rep 0 U) aG U).cell (j:=0) U) U)<|Y U<|gB U<|gKt U<|gE<|gz e [0] U
 exact gO U<|gO U<|gO U<|gO U<|gO U<|gO U<|gKf U<|gE<|gz e [0] U
 intro W w e
 refine gs 18 U (λaR=>?_) λaR=>?_
 exact gct U<|gSk<|gBk<|gR<|Y U<|gB U<|gA U<|gE<|gze e [0] U
 exact gcf U<|gXt<|gHh<|gLp aN aM<|gz e [0] U
 intro O w e
 refine gS<|gS<|gJ e (λaF=>[(0,K),(1,J M),(5,J O),(32,.bool aF)]) (λaF=>[L]) (λaF=>?_) ?_
 refine gR<|Y U<|Y U<|gY (yV kI U)<|gB U<|Y U<|gsd 25 U (λaS=>?_) λaS=>?_
 refine Y U<|Y U<|gg λaT aV aH=>?_
 obtain ⟨_,_,rfl⟩:=jA (e.ow_rep 0 U) aH
 exact gI kI aV (jx aH) U<|gY (yl isAgg3 ((kC (cs:=[J aT]) (e.ow_rep 0 U) aH U).cell (j:=0) U) U)<|Y U<|gB U<|gKt U<|gE<|gz e [0] U
 exact gO U<|gO U<|gO U<|gO U<|gO U<|gO U<|gKf U<|gE<|gz e [0] U
 intro aF w e
 refine gs 32 U (λaW=>?_) λaW=>?_
 exact gct U<|S<|Y U<|gA U<|gw U U U ⟨K,U,e.d [0] U⟩
 refine gcf U<|gSk<|S<|gf U (λa N=>k5 (α:=Int) kg e U) ?_
 rintro _ w e
 refine Y U<|Y U<|gb λ_ aX=>?_
 obtain ⟨aI,aY⟩:=oN.1 aX
 have aZ:=(e.ow_rep 1 U)
 obtain ⟨_,aJ⟩:∃ nv,nv=sj (GT.sz Int) K (0:Int).toNat (O:Int).toNat:=⟨_,U⟩
 refine gY (yG U<|ae5 aJ<|bl2 (α:=Int) kI aZ U U U aI _)<|gb λaa ab=>?_
 obtain ⟨ac,ae⟩:=kP.1 ab
 refine gf U (λa N=>kz 0 kg N e U (al9 aJ aY aI<|e.ow_rep 1 U) U U U ac) ?_
 rintro af w e
 rw [ae] at e
 refine gA U<|gS<|gW (.p 0<|.p 1<|.p 4<|.p 5<|.p 6<|.e 2 (.e 3 (.e 7 (.p 8 .fin) .nil) .nil) .nil) [] [0,1,4,5,6,8] e [0,1] [ow [af] aa,L] U mxo (by kernel_rfl) (λ_ _ _ h=>h.2) λw e _=>uM U U<|uM U U<|uM U U<|uM U U<|gb λ_ ah=>?_
 obtain ⟨aK,ai⟩:=oN.1 ah
 have aj:=(e.ow_rep 1 U)
 obtain ⟨_,aL⟩:∃ nv,nv=sj (GT.sz Int) (sl aA H aB) (O:Int).toNat ((H.length:Int):Int).toNat:=⟨_,U⟩
 refine tP U (λw=>yG U<|ae5 aL<|az8 (α:=Int) kI aj U U U aK _)<|tO<|tf U U (λa N=>kj (vs:=#[(0,J M)]) (cs:=[J M]) kg N e U U (by kernel_rfl) U U) ?_
 rintro _ w ⟨_,rfl,e⟩
 replace e:=e.lit (xs:=([M]:List Int)) 0 U U U U
 refine tAn U<|tO<|gb λ_ ak=>?_
 obtain ⟨al,am⟩:=kP.1 ak
 refine tf U U (λa N=>kz 1 kg N e U (e.ow_rep 0 U) U U U al) ?_
 rintro _ w e
 rw [am] at e
 refine tAn U<|tO<|gb λ_ an=>?_
 obtain ⟨ao,ap⟩:=kP.1 an
 refine tf U U (λa N=>kz 1 kg N e U (al9 aL ai aK<|e.ow_rep 2 U) U U U ao) ?_
 rintro aq w e
 rw [ap] at e
 exact tAn U<|uA U U<|tE<|gRt<|gr1 results168 U ⟨aq,U,e.d [1] U⟩
theorem zm (L:World) (K:List Int) (O:Value) (M:rp L O K) :
    k6 Tryz.prog 163 [O] L (qC K) λr v w'=>∃ (x1:Value),v=x1/\Mem L (hp L) w' [ow [x1] r]:=by
 unfold qC
 refine kQ func163 U λr e=>?_
 refine S<|gA U<|S<|gf U (λa H=>k5 (α:=Int) kg e U) ?_
 rintro _ w e
 refine gA U<|gS<|S<|gA U ?_
 obtain ⟨aF,aG,rfl,_⟩:=ju<|e.ow_rep 0 U
 refine gBk<|gNg (λaD W a w=>∃ (N:Value),St 19 [(0,O),(3,N),(4,J aD)] L (hp L) [ow [N] W] a w) (λa H=>⟨sl aF ([]:List Int) aG,H.sb U,e.d [0] U⟩) ?_ ?_
 rintro _ _ aD W a w ⟨N,H,e⟩ _ _ _ _
 refine gv H<|gS<|S<|Y U<|Y U ?_
 obtain ⟨_,_,rfl,_⟩:=ju M
 refine gY (yV kI U)<|gB U<|lT 9 U U<|gR<|Y U<|Y U<|Y U<|gg λaE aH aC=>?_
 obtain ⟨_,_,rfl⟩:=jA M aC
 refine gI kI aH (jx aC) U<|gY (yl isAgg3 ((kC (cs:=[J aE]) (e.now M) aC U).cell (j:=0) U) U) ?_
 obtain ⟨aI,_,a0,_,aJ⟩:=e.take2 (L1:=[_]) (L2:=[]) [0] [] (dt U) U U
 refine gCg U call168 (q9 _ aI W N aE a0 ) ?_
 rintro _ _ aK w ⟨_,rfl,hB⟩
 replace e:=aJ _ _ hB;clear hB
 exact gA U<|gR<|Y U<|gp U<|gA U<|gE<|gZe λa H=>⟨aK,H.sb U,e.d [0] U⟩
 rintro _ _ a w ⟨aL,H,e⟩ _ _
 refine gv H<|gS<|S<|Y U<|Y U ?_
 obtain ⟨_,_,rfl,_⟩:=ju M
 exact gY (yV kI U)<|gB U<|lF 9 U U<|gHh<|S<|Y U<|gA U<|gq U U ⟨aL,U,e.d [0] U⟩
theorem zq (L:World) (H:jv) (K:Value) (N:rp L K H.b) :
    k6 Tryz.prog 98 [.agg #[J H.P,J H.r,K]] L (oF H) λr v w'=>∃ (x1:Value),v=x1/\Mem L (hp L) w' [ow [x1] r]:=by
 unfold oF
 refine kQ func98 U λr e=>?_
 refine S<|gBx e U λ_ w e=>gA U<|gS<|S<|gY (yn (e.blk_at 0 U) isAgg41 sizeOf41 U)<|gC e U call162 (ag8 _ H K<|e.now N) λ_ _ w e=>gN U<|gsn 5 U (λaA=>?_) λaA=>?_
 refine gct U<|S<|gf U (λa _=>k5 (α:=Int) kg e U) ?_
 rintro aB w e
 exact gA U<|gw U U U ⟨aB,U,e.d [0] U⟩
 refine gcf U<|gSk<|S<|gY (yn (e.blk_at 0 U) isAgg41 sizeOf41 U)<|gCg U call47 (vp _ H K<|e.now N) ?_
 rintro aC _ W w ⟨_,rfl,M⟩
 replace e:=e.give M
 refine gCg U call163 (zm _ aC W<|e.ow_rep 0 U) ?_
 rintro _ _ O w ⟨_,rfl,M⟩
 replace e:=e.give M
 exact gA U<|gw U U U ⟨O,U,e.d [0] U⟩
theorem ab3 (w0:World) (W:Int) (K:List Int) (v1:Value) (h1:rp w0 v1 K) :
    k6 Tryz.prog 99 [J W,v1] w0 (qi W K) λr v w'=>∃ (x1:Value),v=x1/\Mem w0 (hp w0) w' [ow [x1] r]:=by
 unfold qi
 refine kQ func99 U λr e=>?_
 refine S<|gA U<|S<|Y U<|gb λaA aM=>?_
 obtain ⟨⟨aN,aO⟩,aK⟩:=lU.1 aM
 refine gf U (λa O=>ni (x0:=(0:Int)) kg (λ_=>(Flat.own_iff.2 U)) O e U U U aN (Int.le_refl _) aO) ?_
 rintro _ w e
 rw [aK] at e
 have a0:(aA.length:Int)=W:=by rw [<- aK];simp only [List.length_replicate];omega
 refine gA U<|gS<|S<|gA U ?_
 obtain ⟨aC,aD,rfl,_⟩:=ju<|e.ow_rep 0 U
 refine gBk<|gb λ_ _=>?_
 let H:=sl aC aA aD
 refine gNf e (λaG aH=>[(0,J W),(1,v1),(5,H),(6,J aG)]) (λaG aH=>[ow [H] aH]) [0] U ?_ ?_
 intro _ _ aG aH w e _ _ _ _
 refine gS<|S<|Y U<|Y U<|gB U<|lT 12 U U<|gR<|Y U<|Y U<|gg λ_ aP aE=>?_
 obtain ⟨_,_,rfl⟩:=jA (e.ow_rep 0 U) aE
 have L:=kB<|e.ow_rep 0 U
 refine gI kI aP (kL aE L) U<|gf0 U (λa O=>lI (x1:=-1) (j:=0) (vs:=[J<|-1]) 0 O e U aE U sizeOf3 U U U (Z U kE) U U) ?_
 rintro _ w e
 exact gR<|Y U<|gp U<|gA U<|gE<|gze e [0] U
 intro _ _ w e _ _
 refine gS<|S<|Y U<|Y U<|gB U<|lF 12 U U<|gHh<|gS<|S<|gA U<|gBk<|gNf e (λN aI=>[(1,v1),(5,H),(7,J N)]) (λN aI=>[ow [H] aI]) [0] U ?_ ?_
 intro _ _ N aI w e _ _ _ _
 refine gS<|S<|Y U<|Y U ?_
 obtain ⟨_,_,rfl,_⟩:=ju h1
 refine gY (yV kI U)<|gB U<|lT 21 U U<|gR<|Y U<|Y U<|Y U<|gg λaQ aR aJ=>?_
 obtain ⟨_,_,rfl⟩:=jA h1 aJ
 refine gI kI aR (jx aJ) U<|gY (yl isAgg3 ((kC (cs:=[J aQ]) (e.now h1) aJ U).cell (j:=0) U) U)<|Y U<|gg λ_ aS aF=>?_
 obtain ⟨_,_,rfl⟩:=jA (e.ow_rep 0 U) aF
 have M:=kB<|e.ow_rep 0 U
 refine gI kI aS (kL aF M) U<|gf0 U (λa O=>lI (x1:=N) (j:=0) (vs:=[J N]) 0 O e U aF U sizeOf3 U U U (Z U kE) U U) ?_
 rintro _ w e
 exact gR<|Y U<|gp U<|gA U<|gE<|gze e [0] U
 intro _ _ w e _ _
 refine gS<|S<|Y U<|Y U ?_
 obtain ⟨_,_,rfl,_⟩:=ju h1
 exact gY (yV kI U)<|gB U<|lF 21 U U<|gHh<|S<|Y U<|gA U<|gq U U ⟨H,U,e.d [0] U⟩
abbrev pg:Go.Wk.Ord:=(.p 10 (.e 12 .fin .nil))
abbrev aj3:Go.Wk.Ord:=(.p 10 (.e 11 (.e 12 .fin .nil) .nil))
abbrev ai3:Go.Wk.Ord:=(.e 9 aj3 (.e 11 (.e 9 pg .nil) .nil))
abbrev ai6:Go.Wk.Ord:=(.e 6 (.e 9 pg .nil) .nil)
abbrev bb2:Go.Wk.Ord:=(.e 1 aj3 (.e 11 (.e 1 pg .nil) .nil))
abbrev aj5:Go.Wk.Ord:=(.e 1 (.e 9 pg .nil) (.e 9 (.e 1 pg .nil) .nil))
abbrev ay7:Go.Wk.Ord:=(.e 0 aj3 (.e 11 (.e 0 pg .nil) .nil))
abbrev ah8:Go.Wk.Ord:=(.e 0 (.e 9 pg .nil) (.e 9 (.e 0 pg .nil) .nil))
abbrev bb6:Go.Wk.Ord:=(.e 0 (.e 1 pg .nil) (.e 1 (.e 0 pg .nil) .nil))
abbrev an2:Go.Wk.Ord:=(.e 6 ai3 (.e 11 ai6 .nil))
abbrev ar1:Go.Wk.Ord:=(.e 1 ai3 (.e 9 bb2 (.e 11 aj5 .nil)))
abbrev aq6:Go.Wk.Ord:=(.e 1 ai6 (.e 6 aj5 .nil))
abbrev ak5:Go.Wk.Ord:=(.e 0 ai3 (.e 9 ay7 (.e 11 ah8 .nil)))
abbrev ar6:Go.Wk.Ord:=(.e 0 ai6 (.e 6 ah8 .nil))
abbrev aq7:Go.Wk.Ord:=(.e 0 aj5 (.e 1 ah8 (.e 9 bb6 .nil)))
theorem od (N:World) (b_:jq) (v1:Value) (h1:rp N v1 b_.a) (v2:Value) (h2:rp N v2 b_.i) (v3:Value) (h3:rp N v3 b_.n) :
    k6 Tryz.prog 100 [.agg #[v1,v2,J b_.j,J b_.on,v3]] N (mz b_) λr v w'=>∃ (x1:Value) (x2:Value) (x3:Value),v=(.agg #[x1,x2,J r.j,J r.on,x3])/\Mem N (hp N) w' [ow [x1] r.a,ow [x2] r.i,ow [x3] r.n]:=by
 unfold mz
 refine kQ func100 U λr e=>?_
 let L:=J b_.j
 let M:=J b_.on
 refine S<|gBx e U λaA w e=>gAl e zeroValue68 U λaB w e=>gS<|gJg (λaE a w=>∃ (aM:Nat) (bi bj bk:Value),St 74 [(1,pV aA),(2,pV aB),(3,pV aM)] N (hp N) [blk aA [v1,v2,L,M,v3] 68,blk aB [nS,nS,J 0,J 0,nS] 68,blk aM [bi,bj,L,M,bk] 68,ow [bi] ([]:List kA),ow [bj] ([]:List kD),ow [bk] aE] a w) (λaE=>?_) ?_
 refine gW (.p 2<|.p 4<|.p 7<|.q 3<|.q 5<|.q 8<|.e 0 (.e 1 an2<|.e 6 ar1<|.e 11 aq6 .nil)<|.e 1 (.e 0 an2<|.e 6 ak5<|.e 11 ar6 .nil)<|.e 6 (.e 0 ar1<|.e 1 ak5<|.e 9 (.e 0 bb2<|.e 1 ay7<|.e 11 bb6 .nil)<|.e 11 aq7 .nil)<|.e 11 (.e 0 aq6<|.e 1 ar6<|.e 6 aq7 .nil) .nil) [0,1,3,5,6,8,9,11] [2,4,7,10] e [0,1] [_,_] U mxo (by kernel_rfl) (λ_ _ _ h=>h.2) λw e K=>uF oR U U<|uF oI U U<|uF lb U U<|tQ U K (λw e=>yL e 1 isAgg3 U)<|tQ U K (λw e=>yL e 1 isAgg3 U)<|tQ U K (λw e=>yL e 1 isAgg54 U)<|gb λaJ aP=>tSh (.e 12 .fin .nil) (λa w=>∃ (bP:Nat) (bQ bR bS:Value),St 74 [(1,(pV aA)),(2,(pV aB)),(3,(pV bP)),(17,(.agg #[bQ,bR,L,M,bS]))] N (hp N) [blk aA [v1,v2,L,M,v3] 68,blk aB [nS,nS,J 0,J 0,nS] 68,blk bP [nS,nS,J 0,J 0,nS] 68,ow [bQ] ([] : List kA),ow [bR] ([] : List kD),ow [bS] aJ] a w) ?_ λe2=>?_
 rintro a w ⟨bP,bQ,bR,bS,H,e⟩
 refine gv H<|tO<|tf0 U U (λa H=>rf 2 H e U sizeOf68 U U U (Z (kF<|e.ow_rep 3 U)<|Z (kF<|e.ow_rep 4 U)<|Z U<|Z U<|Z (kF<|e.ow_rep 5 U) kE) U U) ?_
 rintro _ w e
 exact tAn U<|tE<|gZ λa H=>⟨bP,bQ,bR,bS,H.sb U,e.d [0,1,2,3,4,5] U⟩
 let O:=blk aA [v1,v2,L,M,v3] 68
 let W:=blk aB [nS,nS,J 0,J 0,nS] 68
 refine tSh pg (λa w=>∃ (bT:Nat) (bl bm bo:Value),St 74 [(1,pV aA),(2,pV aB),(3,pV bT),(7,bl),(8,bm),(10,L),(12,M),(16,bo)] N (hp N) [O,W,blk bT [nS,nS,J 0,J 0,nS] 68,ow [bl] ([]:List kA),ow [bm] ([]:List kD),ow [bo] aJ] a w) ?_ λaU=>?_
 rintro a w ⟨bT,bl,bm,bo,H,e⟩
 refine gv H ?_
 obtain ⟨aS,aT,rfl,cP⟩:=ju<|e.ow_rep 3 U
 obtain ⟨aV,aW,rfl,cQ⟩:=ju<|e.ow_rep 4 U
 obtain ⟨aX,aY,rfl,cR⟩:=ju<|e.ow_rep 5 U
 let dL:=sl aS ([]:List kA) aT
 let e0:=sl aV ([]:List kD) aW
 let d2:=sl aX aJ aY
 exact tP U (λw=>yG U<|mV (vs:=[(0,dL),(1,e0),(2,L),(3,M),(4,d2)]) (cs:=#[dL,e0,L,M,d2]) U U (by kernel_rfl))<|mG e2 λa H=>⟨bT,dL,e0,d2,H.sb U,e.d [0,1,2,3,4,5] U⟩
 refine tSh (.e 0 pg .nil) (λa w=>∃ (bU:Nat) (bV bW:Value),St 74 [(1,pV aA),(2,pV aB),(3,pV bU),(8,bV),(10,L),(12,M),(16,bW)] N (hp N) [O,W,blk bU [nS,nS,J 0,J 0,nS] 68,ow [bV] ([]:List kD),ow [bW] aJ] a w) ?_ λa9=>?_
 rintro a w ⟨bU,bV,bW,H,e⟩
 refine tSv H e [1,0] U λK=>tO<|tf U U (λa H=>k5 (α:=kA) pF e U) ?_
 rintro aC w e
 exact tAk e [2,1] U λK=>mG aU λa H=>⟨bU,aC,bV,bW,H.sb U,e.d [1,2,3,0,4,5] U⟩
 refine tSh (.e 1 pg .nil) (λa w=>∃ (bX:Nat) (bY bZ:Value),St 74 [(1,pV aA),(2,pV aB),(3,pV bX),(7,bY),(10,L),(12,M),(16,bZ)] N (hp N) [O,W,blk bX [nS,nS,J 0,J 0,nS] 68,ow [bY] ([]:List kA),ow [bZ] aJ] a w) ?_ λb4=>?_
 rintro a w ⟨bX,bY,bZ,H,e⟩
 refine tSv H e [1,0] U λK=>tO<|tf U U (λa H=>k5 (α:=kD) pq e U) ?_
 rintro aC w e
 exact tAk e [2,1] U λK=>mG aU λa H=>⟨bX,bY,aC,bZ,H.sb U,e.d [1,2,3,4,0,5] U⟩
 refine tSh (.e 9 pg .nil) (λa w=>∃ (b8:Nat) (b9 ba bp:Value),St 74 [(1,pV aA),(2,pV aB),(3,pV b8),(7,b9),(8,ba),(10,L),(12,M),(13,bp),(15,v3)] N (hp N) [O,W,blk b8 [nS,nS,J 0,J 0,nS] 68,ow [b9] ([]:List kA),ow [ba] ([]:List kD),ow [bp] ([]:List Int)] a w) ?_ λa6=>?_
 rintro a w ⟨b8,b9,ba,bp,H,e⟩
 refine tSv H e [1,0] U λK=>tO ?_
 obtain ⟨aG,aH⟩:=kP.1 aP
 refine tf U U (λa H=>kz 5 kg H e U (e.now h3) U U U aG) ?_
 rintro aC w e
 rw [aH] at e
 exact tAk e [1,0] U λK=>mG aU λa H=>⟨b8,b9,ba,aC,H.sb U,e.d [0,1,2,3,4,5] U⟩
 refine tSh aj3 (λa w=>∃ (bq br bt:Value),St 74 [(1,pV aA),(2,pV aB),(7,bq),(8,br),(10,L),(12,M),(16,bt)] N (hp N) [O,W,ow [bq] ([]:List kA),ow [br] ([]:List kD),ow [bt] aJ] a w) ?_ λb0=>?_
 rintro a w ⟨bq,br,bt,H,e⟩
 refine tSv H e [1,0] U λK=>?_
 obtain ⟨aS,aT,rfl,cP⟩:=ju<|e.ow_rep 2 U
 obtain ⟨aV,aW,rfl,cQ⟩:=ju<|e.ow_rep 3 U
 obtain ⟨aX,aY,rfl,cR⟩:=ju<|e.ow_rep 4 U
 let d3:=sl aS ([]:List kA) aT
 let d9:=sl aV ([]:List kD) aW
 let e6:=sl aX aJ aY
 refine tP U (λw=>yG U<|mV (vs:=[(0,d3),(1,d9),(2,L),(3,M),(4,e6)]) (cs:=#[d3,d9,L,M,e6]) U U (by kernel_rfl))<|tO<|tf U U (λa H=>mQ e zeroValue68 U U) ?_
 rintro _ w ⟨aI,rfl,e⟩
 exact tAk e [2,1] U λK=>mG e2 λa H=>⟨aI,d3,d9,e6,H.sb U,e.d [1,2,0,3,4,5] U⟩
 refine tSh bb6 (λa w=>∃ (ao:Nat) (ap:Value),St 74 [(1,pV aA),(2,pV aB),(3,pV ao),(10,L),(12,M),(16,ap)] N (hp N) [O,W,blk ao [nS,nS,J 0,J 0,nS] 68,ow [ap] aJ] a w) ?_ λd4=>?_
 rintro a w ⟨ao,ap,H,e⟩
 refine tSv H e [1,0] U λK=>tMo ?_ ?_
 refine tf U U (λa H=>k5 (α:=kA) pF e U) ?_
 rintro aC w e
 exact tAk e [2,1] U λK=>mG b4 λa H=>⟨ao,aC,ap,H.sb U,e.d [1,2,3,0,4] U⟩
 refine tO<|tf U U (λa H=>k5 (α:=kD) pq e U) ?_
 rintro aF w e
 exact tAk e [2,1] U λK=>mG a9 λa H=>⟨ao,aF,ap,H.sb U,e.d [1,2,3,0,4] U⟩
 refine tSh ah8 (λa w=>∃ (aq:Nat) (ar bb:Value),St 74 [(1,pV aA),(2,pV aB),(3,pV aq),(8,ar),(10,L),(12,M),(13,bb),(15,v3)] N (hp N) [O,W,blk aq [nS,nS,J 0,J 0,nS] 68,ow [ar] ([]:List kD),ow [bb] ([]:List Int)] a w) ?_ λb3=>?_
 rintro a w ⟨aq,ar,bb,H,e⟩
 refine tSv H e [1,0] U λK=>tMo ?_ ?_
 refine tf U U (λa H=>k5 (α:=kA) pF e U) ?_
 rintro aC w e
 exact tAk e [2,1] U λK=>mG a6 λa H=>⟨aq,aC,ar,bb,H.sb U,e.d [1,2,3,0,4,5] U⟩
 refine tO ?_
 obtain ⟨aG,aH⟩:=kP.1 aP
 refine tf U U (λa H=>kz 4 kg H e U (e.now h3) U U U aG) ?_
 rintro aF w e
 rw [aH] at e
 exact tAk e [1,0] U λK=>mG a9 λa H=>⟨aq,ar,aF,H.sb U,e.d [0,1,2,3,4] U⟩
 refine tSh ay7 (λa w=>∃ (au aw:Value),St 74 [(1,pV aA),(2,pV aB),(8,au),(10,L),(12,M),(16,aw)] N (hp N) [O,W,ow [au] ([]:List kD),ow [aw] aJ] a w) ?_ λd6=>?_
 rintro a w ⟨au,aw,H,e⟩
 refine tSv H e [1,0] U λK=>tMo ?_ ?_
 refine tf U U (λa H=>k5 (α:=kA) pF e U) ?_
 rintro aC w e
 exact tAk e [2,1] U λK=>mG b0 λa H=>⟨aC,au,aw,H.sb U,e.d [1,2,0,3,4] U⟩
 refine tO<|tf U U (λa H=>mQ e zeroValue68 U U) ?_
 rintro _ w ⟨aI,rfl,e⟩
 exact tAk e [2,1] U λK=>mG a9 λa H=>⟨aI,au,aw,H.sb U,e.d [1,2,0,3,4] U⟩
 refine tSh aj5 (λa w=>∃ (ax:Nat) (ay bc:Value),St 74 [(1,pV aA),(2,pV aB),(3,pV ax),(7,ay),(10,L),(12,M),(13,bc),(15,v3)] N (hp N) [O,W,blk ax [nS,nS,J 0,J 0,nS] 68,ow [ay] ([]:List kA),ow [bc] ([]:List Int)] a w) ?_ λa8=>?_
 rintro a w ⟨ax,ay,bc,H,e⟩
 refine tSv H e [1,0] U λK=>tMo ?_ ?_
 refine tf U U (λa H=>k5 (α:=kD) pq e U) ?_
 rintro aC w e
 exact tAk e [2,1] U λK=>mG a6 λa H=>⟨ax,ay,aC,bc,H.sb U,e.d [1,2,3,4,0,5] U⟩
 refine tO ?_
 obtain ⟨aG,aH⟩:=kP.1 aP
 refine tf U U (λa H=>kz 4 kg H e U (e.now h3) U U U aG) ?_
 rintro aF w e
 rw [aH] at e
 exact tAk e [1,0] U λK=>mG b4 λa H=>⟨ax,ay,aF,H.sb U,e.d [0,1,2,3,4] U⟩
 refine tSh bb2 (λa w=>∃ (az bA:Value),St 74 [(1,pV aA),(2,pV aB),(7,az),(10,L),(12,M),(16,bA)] N (hp N) [O,W,ow [az] ([]:List kA),ow [bA] aJ] a w) ?_ λb5=>?_
 rintro a w ⟨az,bA,H,e⟩
 refine tSv H e [1,0] U λK=>tMo ?_ ?_
 refine tf U U (λa H=>k5 (α:=kD) pq e U) ?_
 rintro aC w e
 exact tAk e [2,1] U λK=>mG b0 λa H=>⟨az,aC,bA,H.sb U,e.d [1,2,3,0,4] U⟩
 refine tO<|tf U U (λa H=>mQ e zeroValue68 U U) ?_
 rintro _ w ⟨aI,rfl,e⟩
 exact tAk e [2,1] U λK=>mG b4 λa H=>⟨aI,az,bA,H.sb U,e.d [1,2,0,3,4] U⟩
 refine tSh ai6 (λa w=>∃ (bd:Nat) (be bf:Value),St 74 [(1,pV aA),(2,pV aB),(3,pV bd),(7,be),(8,bf),(10,L),(12,M),(15,v3)] N (hp N) [O,W,blk bd [nS,nS,J 0,J 0,nS] 68,ow [be] ([]:List kA),ow [bf] ([]:List kD)] a w) ?_ λa5=>?_
 rintro a w ⟨bd,be,bf,H,e⟩
 refine tSv H e [1,0] U λK=>tO<|tf U U (λa H=>k5 (α:=Int) kg e U) ?_
 rintro aC w e
 exact tAk e [2,1] U λK=>mG a6 λa H=>⟨bd,be,bf,aC,H.sb U,e.d [1,2,3,4,5,0] U⟩
 refine tSh ai3 (λa w=>∃ (bB bC bg:Value),St 74 [(1,pV aA),(2,pV aB),(7,bB),(8,bC),(10,L),(12,M),(13,bg),(15,v3)] N (hp N) [O,W,ow [bB] ([]:List kA),ow [bC] ([]:List kD),ow [bg] ([]:List Int)] a w) ?_ λa7=>?_
 rintro a w ⟨bB,bC,bg,H,e⟩
 refine tSv H e [1,0] U λK=>tMo ?_ ?_
 obtain ⟨aG,aH⟩:=kP.1 aP
 refine tf U U (λa H=>kz 4 kg H e U (e.now h3) U U U aG) ?_
 rintro aC w e
 rw [aH] at e
 exact tAk e [1,0] U λK=>mG b0 λa H=>⟨bB,bC,aC,H.sb U,e.d [0,1,2,3,4] U⟩
 refine tO<|tf U U (λa H=>mQ e zeroValue68 U U) ?_
 rintro _ w ⟨aI,rfl,e⟩
 exact tAk e [2,1] U λK=>mG a6 λa H=>⟨aI,bB,bC,bg,H.sb U,e.d [1,2,0,3,4,5] U⟩
 refine tSh aq7 (λa w=>∃ (ah:Nat) (bD:Value),St 74 [(1,pV aA),(2,pV aB),(3,pV ah),(10,L),(12,M),(13,bD),(15,v3)] N (hp N) [O,W,blk ah [nS,nS,J 0,J 0,nS] 68,ow [bD] ([]:List Int)] a w) ?_ λc1=>?_
 rintro a w ⟨ah,bD,H,e⟩
 refine tSv H e [1,0] U λK=>tMo ?_ ?_
 refine tf U U (λa H=>k5 (α:=kA) pF e U) ?_
 rintro aC w e
 exact tAk e [2,1] U λK=>mG a8 λa H=>⟨ah,aC,bD,H.sb U,e.d [1,2,3,0,4] U⟩
 refine tMo ?_ ?_
 refine tf U U (λa H=>k5 (α:=kD) pq e U) ?_
 rintro aF w e
 exact tAk e [2,1] U λK=>mG b3 λa H=>⟨ah,aF,bD,H.sb U,e.d [1,2,3,0,4] U⟩
 refine tO ?_
 obtain ⟨aG,aH⟩:=kP.1 aP
 refine tf U U (λa H=>kz 3 kg H e U (e.now h3) U U U aG) ?_
 rintro bu w e
 rw [aH] at e
 exact tAk e [1,0] U λK=>mG d4 λa H=>⟨ah,bu,H.sb U,e.d [0,1,2,3] U⟩
 refine tSh ar6 (λa w=>∃ (bE:Nat) (bF:Value),St 74 [(1,pV aA),(2,pV aB),(3,pV bE),(8,bF),(10,L),(12,M),(15,v3)] N (hp N) [O,W,blk bE [nS,nS,J 0,J 0,nS] 68,ow [bF] ([]:List kD)] a w) ?_ λc5=>?_
 rintro a w ⟨bE,bF,H,e⟩
 refine tSv H e [1,0] U λK=>tMo ?_ ?_
 refine tf U U (λa H=>k5 (α:=kA) pF e U) ?_
 rintro aC w e
 exact tAk e [2,1] U λK=>mG a5 λa H=>⟨bE,aC,bF,H.sb U,e.d [1,2,3,0,4] U⟩
 refine tO<|tf U U (λa H=>k5 (α:=Int) kg e U) ?_
 rintro aF w e
 exact tAk e [2,1] U λK=>mG b3 λa H=>⟨bE,bF,aF,H.sb U,e.d [1,2,3,4,0] U⟩
 refine tSh ak5 (λa w=>∃ (ai bG:Value),St 74 [(1,pV aA),(2,pV aB),(8,ai),(10,L),(12,M),(13,bG),(15,v3)] N (hp N) [O,W,ow [ai] ([]:List kD),ow [bG] ([]:List Int)] a w) ?_ λc3=>?_
 rintro a w ⟨ai,bG,H,e⟩
 refine tSv H e [1,0] U λK=>tMo ?_ ?_
 refine tf U U (λa H=>k5 (α:=kA) pF e U) ?_
 rintro aC w e
 exact tAk e [2,1] U λK=>mG a7 λa H=>⟨aC,ai,bG,H.sb U,e.d [1,2,0,3,4] U⟩
 refine tMo ?_ ?_
 obtain ⟨aG,aH⟩:=kP.1 aP
 refine tf U U (λa H=>kz 3 kg H e U (e.now h3) U U U aG) ?_
 rintro aF w e
 rw [aH] at e
 exact tAk e [1,0] U λK=>mG d6 λa H=>⟨ai,aF,H.sb U,e.d [0,1,2,3] U⟩
 refine tO<|tf U U (λa H=>mQ e zeroValue68 U U) ?_
 rintro _ w ⟨aI,rfl,e⟩
 exact tAk e [2,1] U λK=>mG b3 λa H=>⟨aI,ai,bG,H.sb U,e.d [1,2,0,3,4] U⟩
 refine tSh aq6 (λa w=>∃ (bH:Nat) (bJ:Value),St 74 [(1,pV aA),(2,pV aB),(3,pV bH),(7,bJ),(10,L),(12,M),(15,v3)] N (hp N) [O,W,blk bH [nS,nS,J 0,J 0,nS] 68,ow [bJ] ([]:List kA)] a w) ?_ λb7=>?_
 rintro a w ⟨bH,bJ,H,e⟩
 refine tSv H e [1,0] U λK=>tMo ?_ ?_
 refine tf U U (λa H=>k5 (α:=kD) pq e U) ?_
 rintro aC w e
 exact tAk e [2,1] U λK=>mG a5 λa H=>⟨bH,bJ,aC,H.sb U,e.d [1,2,3,4,0] U⟩
 refine tO<|tf U U (λa H=>k5 (α:=Int) kg e U) ?_
 rintro aF w e
 exact tAk e [2,1] U λK=>mG a8 λa H=>⟨bH,bJ,aF,H.sb U,e.d [1,2,3,4,0] U⟩
 refine tSh ar1 (λa w=>∃ (aj bK:Value),St 74 [(1,pV aA),(2,pV aB),(7,aj),(10,L),(12,M),(13,bK),(15,v3)] N (hp N) [O,W,ow [aj] ([]:List kA),ow [bK] ([]:List Int)] a w) ?_ λb6=>?_
 rintro a w ⟨aj,bK,H,e⟩
 refine tSv H e [1,0] U λK=>tMo ?_ ?_
 refine tf U U (λa H=>k5 (α:=kD) pq e U) ?_
 rintro aC w e
 exact tAk e [2,1] U λK=>mG a7 λa H=>⟨aj,aC,bK,H.sb U,e.d [1,2,3,0,4] U⟩
 refine tMo ?_ ?_
 obtain ⟨aG,aH⟩:=kP.1 aP
 refine tf U U (λa H=>kz 3 kg H e U (e.now h3) U U U aG) ?_
 rintro aF w e
 rw [aH] at e
 exact tAk e [1,0] U λK=>mG b5 λa H=>⟨aj,aF,H.sb U,e.d [0,1,2,3] U⟩
 refine tO<|tf U U (λa H=>mQ e zeroValue68 U U) ?_
 rintro _ w ⟨aI,rfl,e⟩
 exact tAk e [2,1] U λK=>mG a8 λa H=>⟨aI,aj,bK,H.sb U,e.d [1,2,0,3,4] U⟩
 refine tSh an2 (λa w=>∃ (bL bM:Value),St 74 [(1,pV aA),(2,pV aB),(7,bL),(8,bM),(10,L),(12,M),(15,v3)] N (hp N) [O,W,ow [bL] ([]:List kA),ow [bM] ([]:List kD)] a w) ?_ λc2=>?_
 rintro a w ⟨bL,bM,H,e⟩
 refine tSv H e [1,0] U λK=>tMo ?_ ?_
 refine tf U U (λa H=>k5 (α:=Int) kg e U) ?_
 rintro aC w e
 exact tAk e [2,1] U λK=>mG a7 λa H=>⟨bL,bM,aC,H.sb U,e.d [1,2,3,4,0] U⟩
 refine tO<|tf U U (λa H=>mQ e zeroValue68 U U) ?_
 rintro _ w ⟨aI,rfl,e⟩
 exact tAk e [2,1] U λK=>mG a5 λa H=>⟨aI,bL,bM,H.sb U,e.d [1,2,0,3,4] U⟩
 refine tMo ?_ ?_
 refine tf U U (λa H=>k5 (α:=kA) pF e U) ?_
 rintro aC w e
 refine tAk e [1,2] U λK=>tMo ?_ ?_
 refine tf U U (λa H=>k5 (α:=kD) pq e U) ?_
 rintro aF w e
 exact tAk e [2,3] U λK=>mG c2 λa H=>⟨aC,aF,H.sb U,e.d [3,2,1,0] U⟩
 refine tMo ?_ ?_
 refine tf U U (λa H=>k5 (α:=Int) kg e U) ?_
 rintro bu w e
 exact tAk e [2,3] U λK=>mG b6 λa H=>⟨aC,bu,H.sb U,e.d [3,2,1,0] U⟩
 refine tO<|tf U U (λa H=>mQ e zeroValue68 U U) ?_
 rintro _ w ⟨aI,rfl,e⟩
 exact tAk e [2,3] U λK=>mG b7 λa H=>⟨aI,aC,H.sb U,e.d [3,2,0,1] U⟩
 refine tMo ?_ ?_
 refine tf U U (λa H=>k5 (α:=kD) pq e U) ?_
 rintro bv w e
 refine tAk e [1,2] U λK=>tMo ?_ ?_
 refine tf U U (λa H=>k5 (α:=kA) pF e U) ?_
 rintro cS w e
 exact tAk e [2,3] U λK=>mG c2 λa H=>⟨cS,bv,H.sb U,e.d [3,2,0,1] U⟩
 refine tMo ?_ ?_
 refine tf U U (λa H=>k5 (α:=Int) kg e U) ?_
 rintro cT w e
 exact tAk e [2,3] U λK=>mG c3 λa H=>⟨bv,cT,H.sb U,e.d [3,2,1,0] U⟩
 refine tO<|tf U U (λa H=>mQ e zeroValue68 U U) ?_
 rintro _ w ⟨cU,rfl,e⟩
 exact tAk e [2,3] U λK=>mG c5 λa H=>⟨cU,bv,H.sb U,e.d [3,2,0,1] U⟩
 refine tMo ?_ ?_
 refine tf U U (λa H=>k5 (α:=Int) kg e U) ?_
 rintro bx w e
 refine tAk e [1,2] U λK=>tMo ?_ ?_
 refine tf U U (λa H=>k5 (α:=kA) pF e U) ?_
 rintro cV w e
 exact tAk e [2,3] U λK=>mG b6 λa H=>⟨cV,bx,H.sb U,e.d [3,2,0,1] U⟩
 refine tMo ?_ ?_
 refine tf U U (λa H=>k5 (α:=kD) pq e U) ?_
 rintro cW w e
 exact tAk e [2,3] U λK=>mG c3 λa H=>⟨cW,bx,H.sb U,e.d [3,2,0,1] U⟩
 refine tMo ?_ ?_
 obtain ⟨aG,aH⟩:=kP.1 aP
 refine tf U U (λa H=>kz 0 kg H e U (e.now h3) U U U aG) ?_
 rintro bz w e
 rw [aH] at e
 refine tAk e [1,2] U λK=>tMo ?_ ?_
 refine tf U U (λa H=>k5 (α:=kA) pF e U) ?_
 rintro cX w e
 exact tAk e [2,3] U λK=>mG b5 λa H=>⟨cX,bz,H.sb U,e.d [3,2,0,1] U⟩
 refine tMo ?_ ?_
 refine tf U U (λa H=>k5 (α:=kD) pq e U) ?_
 rintro cY w e
 exact tAk e [2,3] U λK=>mG d6 λa H=>⟨cY,bz,H.sb U,e.d [3,2,0,1] U⟩
 refine tO<|tf U U (λa H=>mQ e zeroValue68 U U) ?_
 rintro _ w ⟨cZ,rfl,e⟩
 exact tAk e [2,3] U λK=>mG d4 λa H=>⟨cZ,bz,H.sb U,e.d [3,2,0,1] U⟩
 refine tO<|tf U U (λa H=>mQ e zeroValue68 U U) ?_
 rintro _ w ⟨c7,rfl,e⟩
 exact tAk e [2,3] U λK=>mG c1 λa H=>⟨c7,bx,H.sb U,e.d [3,2,0,1] U⟩
 refine tO<|tf U U (λa H=>mQ e zeroValue68 U U) ?_
 rintro _ w ⟨cA,rfl,e⟩
 refine tAk e [1,2] U λK=>tMo ?_ ?_
 refine tf U U (λa H=>k5 (α:=kA) pF e U) ?_
 rintro c8 w e
 exact tAk e [2,3] U λK=>mG b7 λa H=>⟨cA,c8,H.sb U,e.d [3,2,1,0] U⟩
 refine tMo ?_ ?_
 refine tf U U (λa H=>k5 (α:=kD) pq e U) ?_
 rintro c9 w e
 exact tAk e [2,3] U λK=>mG c5 λa H=>⟨cA,c9,H.sb U,e.d [3,2,1,0] U⟩
 refine tO<|tf U U (λa H=>k5 (α:=Int) kg e U) ?_
 rintro ca w e
 exact tAk e [2,3] U λK=>mG c1 λa H=>⟨cA,ca,H.sb U,e.d [3,2,1,0] U⟩
 rintro aE a w ⟨aM,bi,bj,bk,H,e⟩
 refine gv H<|gS<|S<|gA U ?_
 obtain ⟨cb,cc,rfl,_⟩:=ju<|e.ow_rep 3 U
 obtain ⟨aZ,aa,rfl,_⟩:=ju<|e.ow_rep 4 U
 obtain ⟨aK,aL,rfl,_⟩:=ju<|e.ow_rep 5 U
 let e9:=blk aB [nS,nS,J 0,J 0,nS] 68
 let e1:=os aZ ([]:List kD) aa
 let e7:=sl aZ ([]:List kD) aa
 let e5:=os aK aE aL
 let c6:=sl aK aE aL
 refine gBk<|gNg (λcE bN a w=>∃ (ab:Value),St 74 [(1,pV aA),(2,pV aB),(3,pV aM),(4,J cE)] N (hp N) [blk aA [v1,v2,L,M,v3] 68,e9,blk aM [ab,e7,L,M,c6] 68,ow [ab] bN,e1,e5] a w) (λa H=>⟨sl cb ([]:List kA) cc,H.sb U,e.d [0,1,2,3,4,5] U⟩) ?_ ?_
 rintro _ _ cE bN a w ⟨ab,H,e⟩ _ _ _ _
 refine gv H<|gS<|S<|Y U<|gF ko U<|gL e 0 isAgg66 U ?_
 obtain ⟨cd,cF,rfl,_⟩:=ju h1
 let eC:=blk aM [ab,e7,L,M,c6] 68
 refine gY (yV lY U)<|gB U<|lT 22 U U<|gW (.p 0<|.p 2<|.p 4<|.p 9<|.p 11<|.q 1<|.q 3<|.p 5<|.p 6<|.q 7<|.q 10<|.p 12<|.p 13<|.q 14<|.e 8 (.e 15 (.p 16<|.e 17 (.e 18 (.p 19<|.e 20 .fin .nil) .nil) .nil) .nil) .nil) [1,3,7,8,10,14,15,17] [0,2,4,5,6,9,11,12,13,16,19] e [0,1,2,3,4,5] [blk aA [sl cd b_.a cF,v2,L,M,v3] 68,e9,eC,ow [ab] bN,e1,e5] U mxo (by kernel_rfl) (λ_ _ _ h=>h.2) λw e K=>uF ko U U<|uF ko U U<|uM U U<|uF ko U U<|uM U U<|tQ U K (λw e=>yL e 2 isAgg66 U)<|tQ U K (λw e=>yL e 0 isAgg66 U)<|gg λaO cG bh=>?_
 obtain ⟨ce,cf,rfl⟩:=jA h1 bh
 obtain ⟨_,cH,cg⟩:=mP h1 bh
 refine tP U (λw=>yI lY cG (jx bh) U)<|uF oH U U<|tQ U K (λw e=>yl isAgg3 ((cH.mono e.lez).cell (j:=0) U) U)<|tQ U K (λw e=>yL e 0 isAgg66 U)<|tP U (λw=>yI lY cG (jx bh) U)<|uF mT U U<|tQ U K (λw e=>yl isAgg54 ((cH.mono e.lez).cell (j:=1) U) U)<|tO<|tf U U (λa H=>k5 (α:=Int) kg e U) ?_
 rintro _ w e
 refine tAk e [1,2,3,4,5,6] U λK=>tO<|gb λaQ ci=>?_
 obtain ⟨cj,ck⟩:=kP.1 ci
 refine tf U U (λa H=>kz 0 kg H e U (e.now cg) U U U cj) ?_
 rintro _ w e
 rw [ck] at e
 refine tAk e [1,2,3,4,5,6] U λK=>?_
 obtain ⟨ak,al,rfl,_⟩:=ju<|e.ow_rep 0 U
 let d1:=sl ak aQ al
 let a3:=J aO.to
 refine tP U (λw=>yG U<|mV (vs:=[(0,a3),(1,d1)]) (cs:=#[a3,d1]) U U (by kernel_rfl))<|tO<|tf U U (λa H=>kj (vs:=#[(0,.agg #[a3,d1])]) (cs:=[a3,d1]) pF H e U U (by kernel_rfl) U U) ?_
 rintro _ w ⟨cl,rfl,e⟩
 replace e:=e.els_nil (α:=kA)
 replace e:Mem N (hp N) _ [els [] ([]:List kA),blk cl [a3,d1] 80,ow [a3,d1] ((⟨aO.to,aQ⟩:kA):kA),blk aA [sw ce cf b_.a cF,v2,L,M,v3] 68,e9,eC,ow [ab] bN,e1,e5]:=n8 aO.to e 2 U
 replace e:=(e.els_cons 0 2 (dt U) U U).d [0,1,3,4,5,6,7,8] U
 replace e:=(e.lit_els 1 0 (dt U) U U U U).d [1,2,3,4,5,6,7] U
 refine tAk e [1,2,3,4,5,6] U λK=>tO<|gb λ_ cm=>?_
 obtain ⟨cn,co⟩:=kP.1 cm
 replace e:=(e.both 4 0 (dt U) U U).d [1,2,3,4,5,6] U
 refine tf U U (λa H=>lW (xs:=bN) (ys:=([(⟨aO.to,aQ⟩:kA)]:List kA)) 3 pF H e U U U U cn) ?_
 rintro cq w e
 rw [co] at e
 refine tAn U<|uF ko U U<|tO<|tf0 U U (λa H=>qm 2 H e U sizeOf66 U U U (kF<|e.ow_rep 3 U) U) ?_
 rintro _ w e
 exact tAn U<|tE<|gR<|Y U<|gp U<|gA U<|gE<|gZe λa H=>⟨cq,H.sb U,e.d [0,1,2,3,4,5] U⟩
 rintro _ aN a w ⟨_,H,e⟩ _ _
 refine gv H<|gS<|S<|Y U<|gF ko U<|gL e 0 isAgg66 U ?_
 obtain ⟨cB,cC,rfl,_⟩:=ju h1
 refine gY (yV lY U)<|gB U<|lF 22 U U<|gHh<|gS<|S<|gA U ?_
 obtain ⟨ac,ae,rfl,_⟩:=ju<|e.ow_rep 3 U
 let e8:=blk aB [nS,nS,J 0,J 0,nS] 68
 let c4:=J b_.j
 let d5:=os ac aN ae
 let e3:=os aK aE aL
 let d0:=J b_.on
 let e4:=sl ac aN ae
 refine gBk<|gNg (λcI bO a w=>∃ (af:Value),St 74 [(1,pV aA),(2,pV aB),(3,pV aM),(5,J cI)] N (hp N) [blk aA [sl cB b_.a cC,v2,c4,d0,v3] 68,e8,blk aM [e4,af,c4,d0,c6] 68,d5,ow [af] bO,e3] a w) (λa H=>⟨sl aZ ([]:List kD) aa,H.sb U,e.d [0,1,2,3,4,5] U⟩) ?_ ?_
 rintro _ _ cI bO a w ⟨af,H,e⟩ _ _ _ _
 refine gv H<|gS<|S<|Y U<|gF lC U<|gL e 0 isAgg53 U ?_
 obtain ⟨_,cJ,rfl,_⟩:=ju h2
 refine gY (yV lh U)<|gB U<|lT 49 U U<|S<|gF lC U<|gL e 0 isAgg53 U<|Y U<|gg λaD cr cD=>?_
 obtain ⟨cK,cL,rfl⟩:=jA h2 cD
 obtain ⟨cM,ct,cN⟩:=nO h2 cD
 let eB:=blk aA [sl cB b_.a cC,sw cK cL b_.i cJ,c4,d0,v3] 68
 let eA:=blk aM [e4,af,c4,d0,c6] 68
 let a0:=J aD.op
 let a1:=J aD.to
 let a2:=J aD.N
 refine gI lh cr (jx cD) U<|gY (yn (ct.mono e.lez) isAgg65 sizeOf65 U)<|gAl e zeroValue65 U λcO w e=>gSN e 0 sizeOf65 (Z U<|Z U<|Z (kF cN)<|Z U kE) U λw e=>gW (.p 0<|.p 2<|.p 4<|.p 7<|.p 10<|.q 1<|.q 3<|.q 5<|.q 8<|.q 11<|.e 6 (.e 9 (.p 12<|.e 13 (.e 14 (.p 15<|.e 16 .fin .nil) .nil) .nil) .nil) .nil) [1,3,5,6,8,9,11,13] [0,2,4,7,10,12,15] e [0,1,2,3,4,5,6] [blk cO [a0,a1,cM,a2] 65,eB,e8,eA,d5,ow [af] bO,e3] U mxo (by kernel_rfl) (λ_ _ _ h=>h.2) λw e K=>uF lC U U<|uF nN U U<|uF oa U U<|uF ml U U<|uF pj U U<|tQ U K (λw e=>yL e 3 isAgg53 U)<|tQ U K (λw e=>yL e 0 isAgg3 U)<|tQ U K (λw e=>yL e 0 isAgg3 U)<|tQ U K (λw e=>yL e 0 isAgg54 U)<|tQ U K (λw e=>yL e 0 isAgg3 U)<|tO<|tf U U (λa H=>k5 (α:=Int) kg e U) ?_
 rintro _ w e
 refine tAk e [1,2,3,4,5,6,7] U λK=>tO<|gb λaR cv=>?_
 obtain ⟨cw,cx⟩:=kP.1 cv
 refine tf U U (λa H=>kz 0 kg H e U (e.now cN) U U U cw) ?_
 rintro _ w e
 rw [cx] at e
 refine tAk e [1,2,3,4,5,6,7] U λK=>?_
 obtain ⟨am,an,rfl,_⟩:=ju<|e.ow_rep 0 U
 let a4:=sl am aR an
 refine tP U (λw=>yG U<|mV (vs:=[(0,a0),(1,a1),(2,a4),(3,a2)]) (cs:=#[a0,a1,a4,a2]) U U (by kernel_rfl))<|tO<|tf U U (λa H=>kj (vs:=#[(0,.agg #[a0,a1,a4,a2])]) (cs:=[a0,a1,a4,a2]) pq H e U U (by kernel_rfl) U U) ?_
 rintro _ w ⟨cy,rfl,e⟩
 replace e:=e.els_nil (α:=kD)
 replace e:Mem N (hp N) _ [els [] ([]:List kD),blk cy [a0,a1,a4,a2] 65,ow [a0,a1,a4,a2] ((⟨aD.op,aD.to,aR,aD.N⟩:kD):kD),blk cO [a0,a1,cM,a2] 65,eB,e8,eA,d5,ow [af] bO,e3]:=tX aD.op aD.to aD.N e 2 U
 replace e:=(e.els_cons 0 2 (dt U) U U).d [0,1,3,4,5,6,7,8,9] U
 replace e:=(e.lit_els 1 0 (dt U) U U U U).d [1,2,3,4,5,6,7,8] U
 refine tAk e [1,2,3,4,5,6,7] U λK=>tO<|gb λ_ cz=>?_
 obtain ⟨dA,dB⟩:=kP.1 cz
 replace e:=(e.both 6 0 (dt U) U U).d [1,2,3,4,5,6,7] U
 refine tf U U (λa H=>lW (xs:=bO) (ys:=([(⟨aD.op,aD.to,aR,aD.N⟩:kD)]:List kD)) 5 pq H e U U U U dA) ?_
 rintro dC w e
 rw [dB] at e
 refine tAn U<|uF lC U U<|tO<|tf0 U U (λa H=>qm 3 H e U sizeOf53 U U U (kF<|e.ow_rep 5 U) U) ?_
 rintro _ w e
 exact tAn U<|tE<|gR<|Y U<|gp U<|gA U<|gE<|gZe λa H=>⟨dC,H.sb U,e.d [1,2,3,4,5,6] U⟩
 rintro _ _ a w ⟨dD,H,e⟩ _ _
 refine gv H<|gS<|S<|Y U<|gF lC U<|gL e 0 isAgg53 U ?_
 obtain ⟨_,_,rfl,_⟩:=ju h2
 exact gY (yV lh U)<|gB U<|lF 49 U U<|gHh<|S<|gY (yn (e.blk_at 2 U) isAgg68 sizeOf68 U)<|gSN e 1 sizeOf68 (Z U<|Z (kF<|e.ow_rep 4 U)<|Z U<|Z U<|Z U kE) U λw e=>gRt<|grc 1 results100 e U isAgg68 sizeOf68 ⟨e4,dD,sl aK aE aL,U,e.d [3,4,5] U⟩
theorem pX (L:World) (e:List Int) (N:Value) (K:rp L N e) (M:Int) :
    k6 Tryz.prog 101 [N,J M] L (lj e M) λr v w'=>v=(J r)/\Below L.heap.size L w':=by
 unfold lj
 refine kQ func101 U λr H=>?_
 refine S<|gA U<|gS<|S<|gA U<|gBk<|gNf H (λW aC=>[(0,N),(1,J M),(5,J W)]) (λW aC=>[]) [] U ?_ ?_
 intro _ aD W aC w H _ _ _ aE
 refine gS<|S<|Y U<|Y U ?_
 obtain ⟨_,_,rfl,_⟩:=ju K
 refine gY (yV kI U)<|gB U<|lT 9 U U<|S<|Y U<|Y U<|gg λaF aG O=>?_
 obtain ⟨_,_,rfl⟩:=jA K O
 refine gI kI aG (jx O) U<|gY (yl isAgg3 ((kC (cs:=[J aF]) (H.now K) O U).cell (j:=0) U) U)<|Y U<|gB U<|gsd 17 U (λaH=>?_) λaH=>?_
 exact gct U<|S<|Y U<|gA U<|gRt<|gLr aE aD<|gr1 results101 U ⟨U,H.below⟩
 exact gcf U<|gSk<|gR<|Y U<|gp U<|gA U<|gE<|gze H [] U
 intro _ _ w H _ _
 refine gS<|S<|Y U<|Y U ?_
 obtain ⟨_,_,rfl,_⟩:=ju K
 exact gY (yV kI U)<|gB U<|lF 9 U U<|gHh<|S<|gA U<|gq U U ⟨U,H.below⟩
theorem wj (w0:World) (L:jv) (v1:Value) (h1:rp w0 v1 L.b) (O:List Int) (v2:Value) (h2:rp w0 v2 O) :
    k6 Tryz.prog 46 [.agg #[J L.P,J L.r,v1],v2] w0 (q7 L O) λr v w'=>∃ (x1:Value),v=(.agg #[J r.P,J r.r,x1])/\Mem w0 (hp w0) w' [ow [x1] r.b]:=by
 unfold q7
 refine kQ func46 U λr e=>?_
 refine S<|gBx e U λaG w e=>gAl e zeroValue41 U λaH w e=>S<|gF kM U<|gL e 1 isAgg39 U ?_
 obtain ⟨aM,aN,rfl,_⟩:=ju h1
 refine gY (yV kZ U)<|Y U<|gCg U call99 (ab3 _ (L.b.length:Int) O v2<|e.now h2) ?_
 rintro aV _ _ w ⟨_,rfl,hB⟩
 replace e:=e.give hB
 let a1:=J L.P
 let a0:=J L.r
 refine gA U<|S<|gF nD U<|gL e 2 isAgg3 U<|gF mF U<|gL e 2 isAgg3 U<|gY (yG U<|mV (vs:=[(0,a1),(1,a0)]) (cs:=#[a1,a0,nS]) U U (by kernel_rfl))<|gAl e zeroValue41 U λaI w e=>gSN e 0 sizeOf41 (Z U<|Z U<|Z U kE) U λw e=>gS<|S<|gA U ?_
 obtain ⟨ab,ac,rfl,_⟩:=ju<|e.ow_rep 1 U
 refine gBk ?_
 replace e:=e.nilow (α:=jq)
 let b5:=sl aM L.b aN
 let N:=blk aG [a1,a0,b5] 41
 let W:=blk aH [J 0,J 0,nS] 41
 let a2:=os ab aV ac
 let a7:=sl ab aV ac
 refine gNg (λbB aY a w=>∃ (aw:Value),St 134 [(1,v2),(2,pV aG),(4,pV aH),(5,a7),(6,pV aI),(7,J bB)] w0 (hp w0) [N,W,a2,blk aI [a1,a0,aw] 41,ow [aw] aY] a w) (λa H=>⟨nS,H.sb U,e.d [4,3,2,1,0] U⟩) ?_ ?_
 rintro _ _ bB aY a w ⟨aw,H,e⟩ _ _ _ _
 refine gv H<|gS<|S<|Y U<|Y U ?_
 obtain ⟨cC,cD,rfl,_⟩:=ju h2
 refine gY (yV kI U)<|gB U<|lT 29 U U<|gS<|gJg (λaA a w=>∃ (ah:Nat) (bX bY bZ:Value),St 134 [(1,sl cC O cD),(2,pV aG),(4,pV aH),(5,a7),(6,pV aI),(7,J bB),(8,pV ah)] w0 (hp w0) [N,W,a2,blk aI [a1,a0,aw] 41,ow [aw] aY,blk ah [bX,bY,J aA.2.2.1,J aA.2.2.2.1,bZ] 68,ow [bX] aA.1,ow [bY] aA.2.1,ow [bZ] aA.2.2.2.2] a w) (λaA=>?_) ?_
 refine gW (.p 0<|.p 2<|.p 3<|.p 4<|.q 1<|.q 5<|.p 6<|.e 7 (.e 8 (.e 9 (.e 10 .fin .nil) .nil)<|.e 9 (.e 8 (.e 10 .fin .nil) .nil) .nil)<|.e 9 (.e 7 (.e 8 (.e 10 .fin .nil) .nil) .nil) .nil) [1,5,9] [0,2,3,4,6] e [0,1,2,3,4] [_,_,_,_,_] U mxo (by kernel_rfl) (λ_ _ _ h=>h.2) λw e M=>uF kM U U<|uM U U<|uM U U<|gg λca cb b8=>?_
 obtain ⟨_,_,rfl⟩:=jA h2 b8
 refine tP U (λw=>yI kI cb (jx b8) U)<|tQ U M (λw e=>yL e 0 isAgg39 U)<|tQ U M (λw e=>yl isAgg3 ((kC (cs:=[J ca]) (e.now h2) b8 U).cell (j:=0) U) U)<|gg λb9 cc ba=>?_
 obtain ⟨_,_,rfl⟩:=jA h1 ba
 obtain ⟨bb,bc,bd,cE,be,bf,bg⟩:=k4 h1 ba
 refine tP U (λw=>yI kZ cc (jx ba) U)<|gb λ_ bh=>tMo ?_ ?_
 refine tY U (yn (cE.mono e.lez) isAgg68 sizeOf68 U)<|tAn U<|tMo ?_ ?_
 refine tf U U (λa H=>ki H U call100 U<|od _ b9 bb (e.now be) bc (e.now bf) bd (e.now bg) _ bh) ?_
 rintro _ w ⟨cd,ce,cf,rfl,hB⟩
 replace e:=e.give hB
 refine tAn U<|tO<|tf U U (λa H=>mQ e zeroValue68 U U) ?_
 rintro _ w ⟨cg,rfl,e⟩
 refine tAk e [4,5,6,7,8] U λM=>tO<|tf0 U U (λa H=>rf 0 H e U sizeOf68 U U U (Z (kF<|e.ow_rep 1 U)<|Z (kF<|e.ow_rep 2 U)<|Z U<|Z U<|Z (kF<|e.ow_rep 3 U) kE) U U) ?_
 rintro _ w e
 exact tAn U<|tE<|gZ λa H=>⟨cg,cd,ce,cf,H.sb U,e.d [4,5,6,7,8,0,1,2,3] U⟩
 refine tO<|tf U U (λa H=>mQ e zeroValue68 U U) ?_
 rintro _ w ⟨ci,rfl,e⟩
 refine tAk e [1,2,3,4,5] U λM=>tO<|tf U U (λa H=>ki H U call100 U<|od _ b9 bb (e.now be) bc (e.now bf) bd (e.now bg) _ bh) ?_
 rintro _ w ⟨cj,ck,cl,rfl,hB⟩
 replace e:=e.give hB
 refine tAn U<|tO<|tf0 U U (λa H=>rf 3 H e U sizeOf68 U U U (Z (kF<|e.ow_rep 0 U)<|Z (kF<|e.ow_rep 1 U)<|Z U<|Z U<|Z (kF<|e.ow_rep 2 U) kE) U U) ?_
 rintro _ w e
 exact tAn U<|tE<|gZ λa H=>⟨ci,cj,ck,cl,H.sb U,e.d [4,5,6,7,8,3,0,1,2] U⟩
 refine tO<|tf U U (λa H=>mQ e zeroValue68 U U) ?_
 rintro _ w ⟨cm,rfl,e⟩
 refine tAk e [1,2,3,4,5] U λM=>tO<|tY U (yn (cE.mono e.lez) isAgg68 sizeOf68 U)<|tAn U<|tO<|tf U U (λa H=>ki H U call100 U<|od _ b9 bb (e.now be) bc (e.now bf) bd (e.now bg) _ bh) ?_
 rintro _ w ⟨cn,co,cq,rfl,hB⟩
 replace e:=e.give hB
 refine tAn U<|tO<|tf0 U U (λa H=>rf 3 H e U sizeOf68 U U U (Z (kF<|e.ow_rep 0 U)<|Z (kF<|e.ow_rep 1 U)<|Z U<|Z U<|Z (kF<|e.ow_rep 2 U) kE) U U) ?_
 rintro _ w e
 exact tAn U<|tE<|gZ λa H=>⟨cm,cn,co,cq,H.sb U,e.d [4,5,6,7,8,3,0,1,2] U⟩
 rintro aA a w ⟨ah,bX,bY,bZ,H,e⟩
 refine gv H<|gS<|S<|gA U ?_
 obtain ⟨bC,bD,rfl,_⟩:=ju<|e.ow_rep 4 U
 obtain ⟨ai,aj,rfl,_⟩:=ju<|e.ow_rep 6 U
 obtain ⟨ak,al,rfl,_⟩:=ju<|e.ow_rep 7 U
 obtain ⟨am,an,rfl,_⟩:=ju<|e.ow_rep 8 U
 let b3:=sl am aA.2.2.2.2 an
 let a9:=sl ak aA.2.1 al
 let a8:=J aA.2.2.2.1
 let b4:=sl ai aA.1 aj
 let b6:=J aA.2.2.1
 let d5:=blk ah [b4,a9,b6,a8,b3] 68
 let c4:=blk aI [a1,a0,sl bC aY bD] 41
 refine gBk<|gNf e (λbi bE=>[(1,sl cC O cD),(2,pV aG),(4,pV aH),(5,a7),(6,pV aI),(7,J bB),(8,pV ah),(9,J bi)]) (λbi bE=>[N,W,a2,c4,os bC aY bD,d5,os ai aA.1 aj,os ak aA.2.1 al,ow [b3] bE]) [0,1,2,3,4,5,6,7,8] U ?_ ?_
 intro _ _ bi bE w e _ _ _ _
 refine gS<|S<|Y U<|gF lb U<|gL e 5 isAgg54 U ?_
 have eE:=o9<|e.ow_rep 8 U
 refine gY (yV kI U)<|gB U<|lT 45 U U<|gW (.p 0<|.p 2<|.p 3<|.p 4<|.p 6<|.q 1<|.e 5 (.p 7<|.e 8 (.p 9<|.e 10 (.p 11<|.e 12 .fin .nil) .nil) .nil) .nil) [5,8,10] [0,2,3,4,6,7,9,11] e [0,1,2,3,4,5,6,7,8] [N,W,a2,c4,os bC aY bD,d5,os ai aA.1 aj,os ak aA.2.1 al,ow [b3] bE] U mxo (by kernel_rfl) (λ_ _ _ h=>h.2) λw e M=>uF lb U U<|uM U U<|uM U U<|uF lb U U<|uM U U<|tQ U M (λw e=>yL e 5 isAgg54 U)<|tO<|tY U (yL e 5 isAgg54 U)<|tAs M<|gg λcr cF ao=>?_
 obtain ⟨_,_,rfl⟩:=jA (e.ow_rep 8 U) ao
 have d2:=kB<|e.ow_rep 8 U
 refine tP U (λw=>yI kI cF (kL ao d2) U)<|tO<|tY U (yl isAgg3 ((kC (cs:=[J cr]) (e.ow_rep 8 U) ao U).cell (j:=0) U) U)<|tAs M<|gg λbF ct bj=>?_
 obtain ⟨_,_,rfl⟩:=jA (e.ow_rep 2 U) bj
 refine tP U (λw=>yI kI ct (jx bj) U)<|tO<|tY U (yl isAgg3 ((kC (cs:=[J bF]) (e.ow_rep 2 U) bj U).cell (j:=0) U) U)<|tAs M ?_
 have d0:=kB<|e.ow_rep 8 U
 refine tP U (λw=>yI kI cF (kL ao d0) U)<|tO<|tf0 U U (λa H=>lI (x1:=bF) (j:=0) (vs:=[J bF]) 8 H e U ao U sizeOf3 U U U (Z U kE) U U) ?_
 rintro _ w e
 exact tAn U<|tE<|gR<|Y U<|gp U<|gA U<|gE<|gze e [0,1,2,3,4,5,6,7,8] U
 intro _ cv w e _ _
 refine gS<|S<|Y U<|gF lb U<|gL e 5 isAgg54 U ?_
 have eP:=o9<|e.ow_rep 8 U
 refine gY (yV kI U)<|gB U<|lF 45 U U<|gHh<|gR<|gF kM U<|gL e 3 isAgg39 U<|gY (yn (e.blk_at 5 U) isAgg68 sizeOf68 U)<|gf U (λa H=>kj (vs:=#[(0,.agg #[b4,a9,b6,a8,b3])]) (cs:=[b4,a9,b6,a8,b3]) zu H e U U (by kernel_rfl) U U) ?_
 rintro _ w ⟨_,rfl,e⟩
 replace e:=e.els_nil (α:=jq)
 replace e:=(k9 aA.2.2.1 aA.2.2.2.1 e 8 9 10 U).d [0,1,2,3,4,5,6,7,8] U
 replace e:=(e.els_cons 0 8 (dt U) U U).d [0,1,2,3,4,5,6,7] U
 replace e:=(e.lit_els 1 0 (dt U) U U U U).d [1,2,3,4,5,6,7] U
 refine gb λ_ cw=>?_
 obtain ⟨cx,cy⟩:=kP.1 cw
 replace e:=(e.both 5 0 (dt U) U U).d [1,2,3,4,5,6] U
 refine gf U (λa H=>lW (xs:=aY) (ys:=([(⟨aA.1,aA.2.1,aA.2.2.1,aA.2.2.2.1,cv⟩:jq)]:List jq)) 4 zu H e U U U U cx) ?_
 rintro cz w e
 rw [cy] at e
 exact gF kM U<|gS1 e 3 sizeOf39 (kF<|e.ow_rep 4 U) U λw e=>gR<|Y U<|gp U<|gA U<|gE<|gZe λa H=>⟨cz,H.sb U,e.d [0,1,2,3,4] U⟩
 rintro _ aE a w ⟨_,H,e⟩ _ _
 refine gv H<|gS<|S<|Y U<|Y U ?_
 obtain ⟨dA,ax,rfl,_⟩:=ju h2
 refine gY (yV kI U)<|gB U<|lF 29 U U<|gHh<|gS<|S<|gA U ?_
 obtain ⟨aZ,aF,rfl,_⟩:=ju<|e.ow_rep 4 U
 let a5:=sl aZ aE aF
 let b7:=blk aI [a1,a0,a5] 41
 refine gBk<|gNf e (λaT ay=>[(1,sl dA O ax),(2,pV aG),(4,pV aH),(6,pV aI),(10,J aT)]) (λaT ay=>[N,W,b7,ow [a5] ay]) [0,1,3,4] U ?_ ?_
 intro _ _ aT ay w e _ _ _ _
 refine gS<|S<|Y U<|Y U<|gY (yV kI U)<|gB U<|lT 69 U U<|gS<|gW (.p 1<|.p 2<|.p 3<|.q 0<|.e 4 (.e 5 (.p 6 .fin) .nil) .nil) [4] [1,2,3,6] e [0,1,2,3] [N,W,b7,ow [a5] ay] U mxo (by kernel_rfl) (λ_ _ _ h=>h.2) λw e M=>uM U U<|uM U U<|gg λcG dB bk=>?_
 obtain ⟨bG,bH,rfl⟩:=jA h2 bk
 refine tP U (λw=>yI kI dB (jx bk) U)<|tQ U M (λw e=>yn (e.blk_at 0 U) isAgg41 sizeOf41 U)<|tO<|tY U (yl isAgg3 ((kC (cs:=[J cG]) (e.now h2) bk U).cell (j:=0) U) U)<|tAs M<|tO<|gb λaD dC=>tf U U (λa H=>ki H U call96 U<|nj _ L b5 (e.now h1) cG _ dC) ?_
 rintro _ w ⟨_,rfl,hB⟩
 replace e:=e.give hB
 refine tAn U<|uA U U<|tE<|S<|gY (yn (e.blk_at 3 U) isAgg41 sizeOf41 U)<|Y U<|gCg U call96 (nj _ (⟨L.P,L.r,ay⟩:jv) a5 (e.ow_rep 4 U) aT) ?_
 rintro aL _ _ w ⟨_,rfl,hB⟩
 replace e:=e.give hB
 refine gA U<|S<|gA U ?_
 obtain ⟨aP,aQ,rfl,_⟩:=ju<|e.ow_rep 1 U
 obtain ⟨aa,aW,rfl,_⟩:=ju<|e.ow_rep 0 U
 let c1:=sw bG bH O ax
 refine gJ e (λbJ=>[(1,c1),(2,pV aG),(4,pV aH),(6,pV aI),(10,J aT)]) (λbJ=>[N,W,b7,ow [a5] bJ]) (λbJ=>?_) ?_
 let a3:=sl aP aD aQ
 let a4:=os aP aD aQ
 let aU:=sl aa aL aW
 let b0:=os aa aL aW
 refine gBk<|gMf e (λaK=>[(1,c1),(2,pV aG),(4,pV aH),(6,pV aI),(10,J aT),(11,a3),(12,aU),(13,J aK.2)]) (λaK=>[N,W,b7,ow [a5] aK.1,a4,b0]) [2,3,4,5,1,0] U ?_
 intro _ dD aK w e _ dE
 refine gS<|S<|Y U<|gF kM U<|gL e 2 isAgg39 U<|Y U<|gg λap dF aq=>?_
 obtain ⟨aR,aS,rfl⟩:=jA (e.ow_rep 3 U) aq
 obtain ⟨_,_,_,_,_,_,_⟩:=k4 (e.ow_rep 3 U) aq
 have d3:=kB<|e.ow_rep 3 U
 refine gI kZ dF (kL aq d3) U<|gF ko U ?_
 obtain ⟨_,_,_,e⟩:=lH e 3 U aq
 refine gY (yl isAgg66 ((e.holeE_at 6 U).cell (j:=0) U) U) ?_
 obtain ⟨_,_,rfl,_⟩:=ju<|e.ow_rep 2 U
 refine gY (yV lY U)<|gB U<|gsd 89 U (λdG=>?_) λdG=>?_
 refine gct U<|gSk<|gS<|gBk<|gS ?_
 replace e:=(k9 ap.j ap.on e 2 1 0 U).d [2,3,4,5,6,7,8] U
 replace e:=(e.shutE (y:=(ap:jq)) 4 0 (dt U) U U).d [1,2,3,4,5,6] U
 rw [kq aq] at e
 refine gR<|gf U (λa H=>k5 (α:=Int) kg e U) ?_
 rintro _ w e
 refine gA U<|gS<|S<|gA U ?_
 obtain ⟨dH,dI,rfl,_⟩:=ju<|e.ow_rep 0 U
 let a6:=sw aR aS aE aF
 let c6:=blk aI [a1,a0,a6] 41
 refine gBk<|gNg (λbl cH a w=>∃ (bm:Value),St 134 [(1,c1),(2,pV aG),(4,pV aH),(6,pV aI),(10,J aT),(11,a3),(12,aU),(13,J aK.2),(14,bm),(15,J bl)] w0 (hp w0) [N,W,c6,ow [a6] aK.1,a4,b0,ow [bm] cH] a w) (λa H=>⟨sl dH ([]:List Int) dI,H.sb U,e.d [1,2,3,4,5,6,0] U⟩) ?_ ?_
 rintro _ _ bl cH a w ⟨bm,H,e⟩ _ _ _ _
 refine gv H<|gS<|S<|Y U<|Y U<|gY (yV kI U)<|gB U<|lT 96 U U<|gJg (λbo a w=>∃ (bK:Value),St 134 [(1,c1),(2,pV aG),(4,pV aH),(6,pV aI),(10,J aT),(11,a3),(12,aU),(13,J aK.2),(14,bK),(15,J bl)] w0 (hp w0) [N,W,c6,ow [a6] aK.1,a4,b0,ow [bK] bo] a w) (λbo=>?_) ?_
 refine gW (.p 0<|.p 1<|.p 3<|.p 7<|.p 11<|.p 12<|.p 13<|.p 14<|.p 15<|.q 2<|.p 4<|.p 5<|.q 16<|.p 17<|.q 18<|.e 6 (.p 8<|.p 9<|.e 10 (.e 19 (.p 20<|.e 21 (.e 22 (.e 23 (.p 24 .fin) .nil) .nil) .nil) .nil)<|.e 19 (.e 10 (.p 20<|.e 21 (.e 22 (.e 23 (.p 24 .fin) .nil) .nil) .nil) .nil) .nil)<|.e 19 (.e 6 (.p 8<|.p 9<|.e 10 (.p 20<|.e 21 (.e 22 (.e 23 (.p 24 .fin) .nil) .nil) .nil) .nil) .nil) .nil) [2,6,10,16,18,19] [0,1,3,4,5,7,8,9,11,12,13,14,15,17,20,24] e [0,1,2,4,5,6] [_,_,_,_,_,_] U mxo (by kernel_rfl) (λ_ _ _ h=>h.2) λw e M=>uM U U<|uF kM U U<|uM U U<|uM U U<|uM U U<|uM U U<|uM U U<|uM U U<|gg λdJ dK bp=>?_
 obtain ⟨bq,br,rfl⟩:=jA (e.ow_rep 5 U) bp
 refine tP U (λw=>yI kI dK (jx bp) U)<|tQ U M (λw e=>yL e 2 isAgg39 U)<|gg λK dL ae=>?_
 obtain ⟨_,_,_,_,_,_,_⟩:=k4 (e.ow_rep 3 U) ae
 have d1:=kB<|e.ow_rep 3 U
 refine tP U (λw=>yI kZ dL (kL ae d1) U)<|uF ko U U<|tQ U M (λw e=>yl isAgg3 ((kC (cs:=[J dJ]) (e.ow_rep 4 U) bp U).cell (j:=0) U) U)<|gg λbL dM cI=>tP U (λw=>yI kI dM (jx cI) U)<|tQ U M (λw e=>yl isAgg3 ((kC (cs:=[J bL]) (e.now h2) cI U).cell (j:=0) U) U)<|gb λaJ cJ=>gb λ_ bt=>gb λaO bu=>gb λbv bx=>tMo ?_ ?_
 obtain ⟨_,bM,bN,e⟩:=lH e 3 U ae
 refine tY U (yl isAgg66 ((e.holeE_at 6 U).cell (j:=0) U) U)<|tAk e [3,4,5,7,8,9] U λM=>?_
 obtain ⟨dN,af⟩:=jz.1 cJ
 obtain ⟨bO,bP,bQ,he⟩:=jy (e.ow_rep 2 U) af
 subst he
 obtain ⟨_,_,_⟩:=mP (e.ow_rep 2 U) af
 refine tP U (λw=>yI lY dN (jx af) U)<|uF mT U U<|tMo ?_ ?_
 obtain ⟨_,e⟩:=oS e 2 U af
 refine tY U (yl isAgg54 ((e.holeE_at 3 U).cell (j:=1) U) U)<|tAk e [4,5,6,8,9,10] U λM=>tO<|tf U U (λa H=>ki H U call101 U<|pX _ aD a3 (e.ow_rep 8 U) bL _ bt) ?_
 rintro _ w ⟨rfl,hB⟩
 replace e:=e.below' hB
 refine tAk e [4,5,6,8,9,10] U λM=>?_
 obtain ⟨dO,bz⟩:=jz.1 bu
 obtain ⟨cK,cL,cM,he⟩:=kG (e.ow_rep 0 U) bz
 subst he
 refine tP U (λw=>yI kI dO (jx bz) U)<|tO<|tY U (yl isAgg3 ((kC (cs:=[J aO]) (e.ow_rep 0 U) bz U).cell (j:=0) U) U)<|tAn U<|tO<|tf U U (λa H=>kj (vs:=#[(0,J aO)]) (cs:=[J aO]) kg H e U U (by kernel_rfl) U U) ?_
 rintro _ w ⟨dP,rfl,e⟩
 replace e:=e.lit (xs:=([aO]:List Int)) 0 U U U U
 refine tAn U<|tO ?_
 obtain ⟨dQ,dR⟩:=kP.1 bx
 refine tf U U (λa H=>kz 11 kg H e U (e.ow_rep 0 U) U U U dQ) ?_
 rintro cN w e
 rw [dR] at e
 refine tAn U<|uA U U<|tE ?_
 let c5:=sw cK cL aJ.A cM
 replace e:Mem w0 (hp w0) _ [ow [sV dP 0 1 1] ([aO]:List Int),ow [J aJ.to,c5] (aJ:kA),ow [bN] K.n,ow [bM] K.i,kY bO bP K.a.length bQ (K.a:List kA) aK.2.toNat [J aJ.to,c5],N,W,c6,kY aR aS aE.length aF (aK.1:List jq) aT.toNat [sw bO bP K.a bQ,bM,J K.j,J K.on,bN],a4,ot bq br aL aW,ow [cN] bv]:=n8 aJ.to e 1 U
 replace e:=(e.shutE (y:=(aJ:kA)) 4 1 (dt U) U U).d [0,2,3,4,5,6,7,8,9,10,11] U
 rw [kq af] at e
 replace e:=(k9 K.j K.on e 3 2 1 U).d [0,3,4,5,6,7,8,9,10] U
 replace e:=(e.shutE (y:=(K:jq)) 5 1 (dt U) U U).d [0,2,3,4,5,6,7,8] U
 rw [kq ae] at e
 exact gZ λa H=>⟨cN,H.sb U,e.d [1,2,3,4,5,6,7] U⟩
 refine tO<|tf U U (λa H=>ki H U call101 U<|pX _ aD (sl aP aD aQ) (e.ow_rep 7 U) bL _ bt) ?_
 rintro _ w ⟨rfl,hB⟩
 replace e:=e.below' hB
 refine tAk e [3,4,5,7,8,9] U λM=>tO ?_
 obtain ⟨_,e⟩:=oS e 2 U af
 refine tY U (yl isAgg54 ((e.holeE_at 3 U).cell (j:=1) U) U)<|tAk e [4,5,6,8,9,10] U λM=>?_
 obtain ⟨dS,cA⟩:=jz.1 bu
 obtain ⟨cO,cP,cQ,he⟩:=kG (e.ow_rep 0 U) cA
 subst he
 refine tP U (λw=>yI kI dS (jx cA) U)<|tO<|tY U (yl isAgg3 ((kC (cs:=[J aO]) (e.ow_rep 0 U) cA U).cell (j:=0) U) U)<|tAn U<|tO<|tf U U (λa H=>kj (vs:=#[(0,J aO)]) (cs:=[J aO]) kg H e U U (by kernel_rfl) U U) ?_
 rintro _ w ⟨dT,rfl,e⟩
 replace e:=e.lit (xs:=([aO]:List Int)) 0 U U U U
 refine tAn U<|tO ?_
 obtain ⟨dU,dV⟩:=kP.1 bx
 refine tf U U (λa H=>kz 11 kg H e U (e.ow_rep 0 U) U U U dU) ?_
 rintro cR w e
 rw [dV] at e
 refine tAn U<|uA U U<|tE ?_
 let c2:=sw cO cP aJ.A cQ
 replace e:Mem w0 (hp w0) _ [ow [sV dT 0 1 1] ([aO]:List Int),ow [J aJ.to,c2] (aJ:kA),ow [bN] K.n,ow [bM] K.i,kY bO bP K.a.length bQ (K.a:List kA) aK.2.toNat [J aJ.to,c2],blk aG [J L.P,J L.r,b5] 41,blk aH [J 0,J 0,nS] 41,blk aI [J L.P,J L.r,sw aR aS aE aF] 41,kY aR aS aE.length aF (aK.1:List jq) aT.toNat [sw bO bP K.a bQ,bM,J K.j,J K.on,bN],os aP aD aQ,ot bq br aL aW,ow [cR] bv]:=n8 aJ.to e 1 U
 replace e:=(e.shutE (y:=(aJ:kA)) 4 1 (dt U) U U).d [0,2,3,4,5,6,7,8,9,10,11] U
 rw [kq af] at e
 replace e:=(k9 K.j K.on e 3 2 1 U).d [0,3,4,5,6,7,8,9,10] U
 replace e:=(e.shutE (y:=(K:jq)) 5 1 (dt U) U U).d [0,2,3,4,5,6,7,8] U
 rw [kq ae] at e
 exact gZ λa H=>⟨cR,H.sb U,e.d [1,2,3,4,5,6,7] U⟩
 refine tO<|tf U U (λa H=>ki H U call101 U<|pX _ aD (sl aP aD aQ) (e.ow_rep 4 U) bL _ bt) ?_
 rintro _ w ⟨rfl,hB⟩
 replace e:=e.below' hB
 refine tAk e [0,1,2,4,5,6] U λM=>tO ?_
 obtain ⟨_,cS,cT,e⟩:=lH e 3 U ae
 refine tY U (yl isAgg66 ((e.holeE_at 6 U).cell (j:=0) U) U)<|tAk e [3,4,5,7,8,9] U λM=>?_
 obtain ⟨dW,az⟩:=jz.1 cJ
 obtain ⟨cU,cV,cW,he⟩:=jy (e.ow_rep 2 U) az
 subst he
 obtain ⟨_,_,_⟩:=mP (e.ow_rep 2 U) az
 refine tP U (λw=>yI lY dW (jx az) U)<|uF mT U U<|tO ?_
 obtain ⟨_,e⟩:=oS e 2 U az
 refine tY U (yl isAgg54 ((e.holeE_at 3 U).cell (j:=1) U) U)<|tAk e [4,5,6,8,9,10] U λM=>?_
 obtain ⟨dX,cB⟩:=jz.1 bu
 obtain ⟨cX,cY,cZ,he⟩:=kG (e.ow_rep 0 U) cB
 subst he
 refine tP U (λw=>yI kI dX (jx cB) U)<|tO<|tY U (yl isAgg3 ((kC (cs:=[J aO]) (e.ow_rep 0 U) cB U).cell (j:=0) U) U)<|tAn U<|tO<|tf U U (λa H=>kj (vs:=#[(0,J aO)]) (cs:=[J aO]) kg H e U U (by kernel_rfl) U U) ?_
 rintro _ w ⟨dY,rfl,e⟩
 replace e:=e.lit (xs:=([aO]:List Int)) 0 U U U U
 refine tAn U<|tO ?_
 obtain ⟨dZ,d7⟩:=kP.1 bx
 refine tf U U (λa H=>kz 11 kg H e U (e.ow_rep 0 U) U U U dZ) ?_
 rintro c7 w e
 rw [d7] at e
 refine tAn U<|uA U U<|tE ?_
 let c3:=sw cX cY aJ.A cZ
 replace e:Mem w0 (hp w0) _ [ow [sV dY 0 1 1] ([aO]:List Int),ow [J aJ.to,c3] (aJ:kA),ow [cT] K.n,ow [cS] K.i,kY cU cV K.a.length cW (K.a:List kA) aK.2.toNat [J aJ.to,c3],blk aG [J L.P,J L.r,sl aM L.b aN] 41,blk aH [J 0,J 0,nS] 41,blk aI [J L.P,J L.r,sw aR aS aE aF] 41,kY aR aS aE.length aF (aK.1:List jq) aT.toNat [sw cU cV K.a cW,cS,J K.j,J K.on,cT],os aP aD aQ,ot bq br aL aW,ow [c7] bv]:=n8 aJ.to e 1 U
 replace e:=(e.shutE (y:=(aJ:kA)) 4 1 (dt U) U U).d [0,2,3,4,5,6,7,8,9,10,11] U
 rw [kq az] at e
 replace e:=(k9 K.j K.on e 3 2 1 U).d [0,3,4,5,6,7,8,9,10] U
 replace e:=(e.shutE (y:=(K:jq)) 5 1 (dt U) U U).d [0,2,3,4,5,6,7,8] U
 rw [kq ae] at e
 exact gZ λa H=>⟨c7,H.sb U,e.d [1,2,3,4,5,6,7] U⟩
 rintro bo a w ⟨bK,H,e⟩
 exact gv H<|gR<|Y U<|gp U<|gA U<|gE<|gZe λa H=>⟨bK,H.sb U,e.d [0,1,2,3,4,5,6] U⟩
 rintro _ ar a w ⟨au,H,e⟩ _ _
 refine gv H<|gS<|S<|Y U<|Y U<|gY (yV kI U)<|gB U<|lF 96 U U<|gHh<|gR<|gF kM U<|gL e 2 isAgg39 U<|Y U<|gg λaC d8 bR=>?_
 obtain ⟨_,_,_,_,_,_,_⟩:=k4 (e.ow_rep 3 U) bR
 have d4:=kB<|e.ow_rep 3 U
 refine gI kZ d8 (kL bR d4) U<|gF ko U ?_
 obtain ⟨_,bS,bT,e⟩:=lH e 3 U bR
 refine gY (yl isAgg66 ((e.holeE_at 6 U).cell (j:=0) U) U)<|Y U<|Y U<|gg λaX d9 bA=>?_
 obtain ⟨bU,bV,bW,he⟩:=jy (e.ow_rep 2 U) bA
 subst he
 obtain ⟨_,_,_⟩:=mP (e.ow_rep 2 U) bA
 refine gI lY d9 (jx bA) U<|gF mT U ?_
 obtain ⟨c8,e⟩:=oS e 2 U bA
 have c9:∀ u∈([au]:List Value),u.oneCell'=true:=(Z (kF<|e.ow_rep 10 U) kE)
 refine gf0 U (λa H=>mw (j:=1) (vs:=[au]) 3 H e U U U sizeOf54 U U (nA<|c9 _<|List.mem_singleton.2 U) c9 U) ?_
 rintro _ w e
 replace e:Mem w0 (hp w0) _ [ow [c8] aX.A,ow [bT] aC.n,ow [bS] aC.i,kY bU bV aC.a.length bW (aC.a:List kA) aK.2.toNat [J aX.to,au],blk aG [J L.P,J L.r,sl aM L.b aN] 41,blk aH [J 0,J 0,nS] 41,blk aI [J L.P,J L.r,sw aR aS aE aF] 41,kY aR aS aE.length aF (aK.1:List jq) aT.toNat [sw bU bV aC.a bW,bS,J aC.j,J aC.on,bT],os aP aD aQ,os aa aL aW,ow [au] ar]:=e
 refine gE ?_
 replace e:Mem w0 (hp w0) _ [ow [c8] aX.A,ow [bT] aC.n,ow [bS] aC.i,kY bU bV aC.a.length bW (aC.a:List kA) aK.2.toNat [J aX.to,au],blk aG [J L.P,J L.r,sl aM L.b aN] 41,blk aH [J 0,J 0,nS] 41,blk aI [J L.P,J L.r,sw aR aS aE aF] 41,kY aR aS aE.length aF (aK.1:List jq) aT.toNat [sw bU bV aC.a bW,bS,J aC.j,J aC.on,bT],os aP aD aQ,os aa aL aW,ow [J aX.to,au] ((⟨aX.to,ar⟩:kA):kA)]:=n8 aX.to e 10 U
 replace e:=(e.shutE (y:=((⟨aX.to,ar⟩:kA):kA)) 3 10 (dt U) U U).d [0,1,2,3,4,5,6,7,8,9] U
 replace e:=(k9 aC.j aC.on e 3 2 1 U).d [0,3,4,5,6,7,8,9] U
 replace e:=(e.shutE (y:=((⟨aC.a.set aK.2.toNat (⟨aX.to,ar⟩:kA),aC.i,aC.j,aC.on,aC.n⟩:jq):jq)) 5 1 (dt U) U U).d [0,2,3,4,5,6,7] U
 exact gR<|Y U<|gB U<|gA U<|gE<|gze e [1,2,3,4,5,6] U
 refine gcf U<|gXt<|gHh ?_
 replace e:=(k9 ap.j ap.on e 2 1 0 U).d [2,3,4,5,6,7,8] U
 replace e:=(e.shutE (y:=(ap:jq)) 4 0 (dt U) U U).d [1,2,3,4,5,6] U
 rw [kq aq] at e
 exact gLp dE dD<|gz e [0,1,2,3] U
 intro bJ w e
 exact gR<|Y U<|gp U<|gA U<|gE<|gze e [0,1,2,3] U
 intro _ _ w e _ _
 exact gS<|S<|Y U<|Y U<|gY (yV kI U)<|gB U<|lF 69 U U<|gHh<|S<|gY (yn (e.blk_at 2 U) isAgg41 sizeOf41 U)<|gSN e 1 sizeOf41 (Z U<|Z U<|Z U kE) U λw e=>gRt<|grc 1 results46 e U isAgg41 sizeOf41 ⟨sl aZ aE aF,U,e.d [3] U⟩
theorem wc (M:World) (H:jv) (L:Value) (W:rp M L H.b) :
    k6 Tryz.prog 45 [.agg #[J H.P,J H.r,L]] M (oQ H) λr v w'=>∃ (x1:Value),v=(.agg #[J r.P,J r.r,x1])/\Mem M (hp M) w' [ow [x1] r.b]:=by
 unfold oQ
 refine kQ func45 U λr e=>?_
 refine S<|gBx e U λaA w e=>gAl e zeroValue41 U λaB w e=>gS<|gW (.q 0<|.e 1 (.e 2 (.e 3 (.e 4 .fin .nil) .nil) .nil) .nil) [1,2] [] e [0,1] [blk aB [J 0,J 0,nS] 41,blk aA [J H.P,J H.r,L] 41] U mxo (by kernel_rfl) (λ_ _ _ h=>h.2) λw e N=>tQ U N (λw e=>yn (e.blk_at 1 U) isAgg41 sizeOf41 U)<|tO<|tY U (yn (e.blk_at 1 U) isAgg41 sizeOf41 U)<|tAs N<|tO<|gb λaC aD=>tf U U (λa K=>ki K U call98 U<|zq _ H L (e.now W) _ aD) ?_
 rintro aE w ⟨_,rfl,O⟩
 replace e:=e.give O
 refine tAk e [1,2] U λN=>tO<|gb λ_ aF=>tf U U (λa K=>ki K U call46 U<|wj _ H L (e.now W) aC aE (e.ow_rep 0 U) _ aF) ?_
 rintro _ w ⟨aG,rfl,O⟩
 replace e:=e.give O
 refine tAn U<|tO<|tf0 U U (λa K=>rf 2 K e U sizeOf41 U U U (Z U<|Z U<|Z (kF<|e.ow_rep 0 U) kE) U U) ?_
 rintro _ w e
 exact tAn U<|tE<|gRt<|grc 2 results45 e U isAgg41 sizeOf41 ⟨aG,U,e.d [0] U⟩
theorem ah5 (w0:World) (hz:kR) (c_:jv) (v1:Value) (h1:GT.rep hz [v1] c_.b) (W:n4) (v2:Value) (h2:GT.rep hz [v2] W.i) (v3:Value) (O:Int) (H:Int) (a7:Mem w0 hz w0 [ow [v3] W.k]) :
    k6 Tryz.prog 208 [.agg #[J c_.P,J c_.r,v1],.agg #[v2,v3],J O,J H] w0 (nL c_ W O H) λr v w'=>v=(.bool (r.1))/\Mem w0 hz w' [ow [v3] r.2]:=by
 unfold nL
 refine k7 func208 U λr=>?_
 have e:=a7
 refine gS<|gR<|gBx e U λaB w e=>gBx e U λaC w e=>gA U<|gE<|gS<|gR<|gf U (λa hf=>k5 (α:=Bool) uh e U) ?_
 rintro _ w e
 refine gF vr U<|gL e 1 isAgg99 U<|Y U<|gg λbH bJ af=>?_
 obtain ⟨aH,aI,aK,K⟩:=jy h2 af
 subst K
 obtain ⟨_,_,ah,bK⟩:=kn h2 af
 have aW:=bK
 obtain ⟨ay,rfl,-⟩:=id aW
 replace aW:GT.rep hz [ay] bH:=aW
 replace ah:kS hz aH (aI+H.toNat*1) [ay]:=ah
 refine gI pR bJ (jx af) U<|gY (yl isAgg97 ((ah.mono e.lez).cell (j:=0) U) U)<|gb λaD bL=>?_
 obtain ⟨bM,bN⟩:=kP.1 bL
 refine gf U (λa hf=>kz 0 uh hf e U (e.now aW) U U U bM) ?_
 rintro _ w e
 rw [bN] at e
 refine gA U<|gE<|gS<|gR<|gY (yn (e.blk_at 2 U) isAgg41 sizeOf41 U)<|Y U<|gCg U call96 (nj _ c_ v1 (e.now h1) H) ?_
 rintro bO _ bP w ⟨_,rfl,hB⟩
 replace e:=e.give hB;clear hB
 refine Y U<|gC e U call101 (pX _ bO bP (e.ow_rep 0 U) O) λbQ _ w e=>gA U<|gE<|gS<|gS<|gR<|gA U<|gE ?_
 obtain ⟨aF,aA,rfl,_⟩:=ju<|e.ow_rep 4 U
 obtain ⟨aL,aE,rfl,_⟩:=ju<|e.ow_rep 1 U
 let a0:=sl aF W.k aA
 let N:=blk aC [sw aH aI W.i aK,a0] 190
 let M:=blk aB [J c_.P,J c_.r,v1] 41
 let L:=sl aL aD aE
 refine gJ e (λaG=>[(2,J O),(4,pV aB),(5,pV aC),(9,L)]) (λaG=>[M,N,os aF W.k aA,ow [L] aG]) (λaG=>?_) ?_
 refine gBk<|gMf e (λaX=>[(2,J O),(3,J H),(4,pV aB),(5,pV aC),(9,L),(10,J bQ),(11,J aX.2)]) (λaX=>[M,N,os aF W.k aA,ow [L] aX.1]) [3,2,4,1] U ?_
 repeat clear e
 intro _ bR aX w e _ bS
 refine gS<|gS<|gR<|Y U<|gF kM U<|gL e 0 isAgg39 U<|Y U<|gg λ_ az aY=>?_
 obtain ⟨_,_,_,K⟩:=jy h1 aY
 subst K
 obtain ⟨_,_,_,bA,ai,_,_⟩:=k4 h1 aY
 refine gI kZ az (jx aY) U<|gF ko U<|gY (yl isAgg66 ((bA.mono e.lez).cell (j:=0) U) U) ?_
 obtain ⟨_,_,rfl,_⟩:=ju ai
 refine gY (yV lY U)<|gB U<|gE<|gsd 34 U (λbT=>?_) λbT=>?_
 refine gct U<|gSk<|gS<|gBk<|gR<|Y U<|gF kM U<|gL e 0 isAgg39 U<|Y U<|gI kZ az (jx aY) U<|gF ko U<|gY (yl isAgg66 ((bA.mono e.lez).cell (j:=0) U) U)<|Y U<|gg λ_ bU aj=>?_
 obtain ⟨_,_,_,K⟩:=jy ai aj
 obtain ⟨rfl,_,rfl⟩:=sl3 K
 obtain ⟨_,bV,bB⟩:=mP ai aj
 refine gI lY bU (jx aj) U<|gF mT U<|gY (yl isAgg54 ((bV.mono e.lez).cell (j:=1) U) U)<|Y U<|gg λbW bX ak=>?_
 obtain ⟨_,_,_,K⟩:=kG bB ak
 subst K
 refine gI kI bX (jx ak) U<|gY (yl isAgg3 ((kC (cs:=[J bW]) (e.now bB) ak U).cell (j:=0) U) U)<|gg λ_ bY aZ=>?_
 obtain ⟨_,_,_,K⟩:=kG (e.ow_rep 3 U) aZ
 obtain ⟨rfl,_,rfl⟩:=sl3 K
 have a4:=kB<|e.ow_rep 3 U
 refine gI mK bY (kL aZ a4) U<|gf0 U (λa hf=>lI (x1:=true) (j:=0) (vs:=[.bool true]) 3 hf e U aZ U sizeOf4 U U U (Z U kE) U U) ?_
 rintro _ w e
 have c9:=List.getElem?_set_self (a:=true)<|jx aZ
 exact gE<|gR<|Y U<|gB U<|gA U<|gE<|gze e [0,1,2,3] U
 exact gcf U<|gXt<|gHh<|gLp bS bR<|gz e [0,1,2,3] U
 repeat clear e
 intro aG w e
 refine gS<|gR<|gA U<|gE<|gS<|gS<|gR<|gA U<|gE<|gBk<|gb λ_ bC=>?_
 replace bC:=sM.1 bC
 refine gNf e (λaJ aM=>[(2,J O),(4,pV aB),(5,pV aC),(9,L),(12,.bool aM.2),(13,J aJ)]) (λaJ aM=>[M,N,ow [a0] aM.1,ow [L] aG]) [0,1,2,3] U ?_ ?_
 repeat clear e
 intro _ _ aJ aM w e _ _ _ _
 refine gS<|gS<|gR<|Y U<|gF mF U<|gL e 0 isAgg3 U<|gB U<|gE<|go _ 55 U (decide_eq_true (by omega))<|gct U<|gSk<|gS<|gJ e (λaR=>[(2,J O),(4,pV aB),(5,pV aC),(9,L),(12,.bool aR.2),(13,J aJ)]) (λaR=>[M,N,ow [a0] aR.1,ow [L] aG]) (λaR=>?_) ?_
 refine gBk<|gS<|gR<|Y U<|Y U<|gg λbZ b8 al=>?_
 obtain ⟨aO,aP,_,K⟩:=kG (e.ow_rep 3 U) al
 obtain ⟨rfl,_,rfl⟩:=sl3 K
 have a1:=kB<|e.ow_rep 3 U
 let a3:=sw aO aP aD aE
 let a5:=ow [a3] aG
 refine gI mK b8 (kL al a1) U<|gY (yl isAgg4 ((kC (cs:=[.bool bZ]) (e.ow_rep 3 U) al U).cell (j:=0) U) U)<|gE<|gJ e (λaS=>[(2,J O),(4,pV aB),(5,pV aC),(9,a3),(12,.bool aS.2),(13,J aJ)]) (λaS=>[M,N,ow [a0] aS.1,a5]) (λaS=>?_) ?_
 refine gs 61 U (λb9=>?_) λb9=>?_
 refine gct U<|gS<|gJ e (λaa=>[(2,J O),(4,pV aB),(5,pV aC),(9,a3),(12,.bool aa),(13,J aJ)]) (λaa=>[M,N,ow [a0] aM.1,a5]) (λaa=>?_) ?_
 refine gR<|Y U<|Y U<|gs 63 U (λba=>?_) λba=>?_
 exact gO U<|gO U<|gO U<|gO U<|gO U<|gO U<|gO U<|gO U<|gO U<|gKt U<|gA U<|gE<|gz e [0,1,2,3] U
 refine gF xB U<|gL e 1 isAgg99 U<|Y U<|gg λaQ bb aT=>?_
 obtain ⟨am,an,_,K⟩:=jy (e.ow_rep 2 U) aT
 obtain ⟨rfl,_,rfl⟩:=sl3 K
 obtain ⟨_,_,bD,bc⟩:=kn (e.ow_rep 2 U) aT
 have ao:=bc
 obtain ⟨bE,rfl,-⟩:=id ao
 replace ao:GT.rep (hp _) [bE] aQ:=ao
 replace bD:kS (hp _) am (an+O.toNat*1) [bE]:=bD
 have a2:=kB<|e.ow_rep 2 U
 refine gI pR bb (kL aT a2) U ?_
 obtain ⟨_,bd,e⟩:=e.openE 2 U aT
 have be:=e.ow_rep 0 U
 have ab:=be
 obtain ⟨ap,rfl,-⟩:=id ab
 replace ab:GT.rep (hp _) [ap] aQ:=ab
 clear bd ab
 replace e:Mem w0 hz _ [ow [ap] (aQ:List Bool),M,blk aC [sw aH aI W.i aK,sw am an W.k aA] 190,kY am an W.k.length aA (aM.1:List (List Bool)) O.toNat [ap],a5]:=e
 replace e:=e.pk (L':=[_,_,_,_,_]) [0,1,2,3,4] U U
 refine gY (yl isAgg97 ((e.holeE_at 3 U).cell (j:=0) U) U)<|Y U<|gg λbf bg aq=>?_
 obtain ⟨bh,bi,bj,K⟩:=kG (e.ow_rep 0 U) aq
 subst K
 refine gI mK bg (jx aq) U<|gY (yl isAgg4 ((kC (cs:=[.bool bf]) (e.ow_rep 0 U) aq U).cell (j:=0) U) U)<|gN U<|gKf U<|gA U<|gE ?_
 replace e:=e.imp (c':=ow [sw bh bi aQ bj] (aQ:List Bool)) 0 U λF h0=>h0
 replace e:=(e.shutE (y:=(aQ:List Bool)) 3 0 (by decide) U U).pk (L':=[_,_,_,_]) [1,2,3,4] U U
 rw [kq aT] at e
 exact gz e [0,1,2,3] U
 repeat clear e
 intro aa w e
 refine gR<|gF xB U<|gL e 1 isAgg99 U<|Y U<|gg λaN bk aV=>?_
 obtain ⟨ar,au,_,K⟩:=jy (e.ow_rep 2 U) aV
 obtain ⟨rfl,_,rfl⟩:=sl3 K
 obtain ⟨_,_,bF,bl⟩:=kn (e.ow_rep 2 U) aV
 have aw:=bl
 obtain ⟨bG,rfl,-⟩:=id aw
 replace aw:GT.rep (hp _) [bG] aN:=aw
 replace bF:kS (hp _) ar (au+O.toNat*1) [bG]:=bF
 have a6:=kB<|e.ow_rep 2 U
 refine gI pR bk (kL aV a6) U ?_
 obtain ⟨_,bm,e⟩:=e.openE 2 U aV
 have bo:=e.ow_rep 0 U
 have ac:=bo
 obtain ⟨ax,rfl,-⟩:=id ac
 replace ac:GT.rep (hp _) [ax] aN:=ac
 clear bm ac
 replace e:Mem w0 hz _ [ow [ax] (aN:List Bool),blk aB [J c_.P,J c_.r,v1] 41,blk aC [sw aH aI W.i aK,sw ar au W.k aA] 190,kY ar au W.k.length aA (aM.1:List (List Bool)) O.toNat [ax],ow [sw aO aP aD aE] aG]:=e
 replace e:=e.pk (L':=[_,_,_,_,_]) [0,1,2,3,4] U U
 refine gY (yl isAgg97 ((e.holeE_at 3 U).cell (j:=0) U) U)<|Y U<|gg λ_ bp ae=>?_
 obtain ⟨bq,br,bt,K⟩:=kG (e.ow_rep 0 U) ae
 subst K
 refine gI mK bp (jx ae) U<|gf0 U (λa hf=>lI (x1:=true) (j:=0) (vs:=[.bool true]) 0 hf e U ae U sizeOf4 U U U (Z U kE) U U) ?_
 rintro _ w e
 have ci:=List.getElem?_set_self (a:=true)<|jx ae
 refine gE ?_
 replace e:=e.imp (c':=ow [sw bq br aN bt] ((aN.set aJ.toNat true):List Bool)) 0 U λF h0=>h0
 replace e:=(e.shutE (y:=((aN.set aJ.toNat true):List Bool)) 3 0 (by decide) U U).pk (L':=[_,_,_,_]) [1,2,3,4] U U
 have cj:=List.getElem?_set_self (a:=((aN.set aJ.toNat true):List Bool))<|jx aV
 exact gz e [0,1,2,3] U
 exact gcf U<|gSk<|gz e [0,1,2,3] U
 repeat clear e
 intro aS w e
 exact gz e [0,1,2,3] U
 repeat clear e
 intro aR w e
 exact gR<|Y U<|gP (by omega) (by omega) U<|gA U<|gE<|gze e [0,1,2,3] U
 repeat clear e
 intro _ _ w e _ _
 exact gS<|gS<|gR<|Y U<|gF mF U<|gL e 0 isAgg3 U<|gB U<|gE<|go _ 55 U (decide_eq_false (by omega))<|gcf U<|gXt<|gHh<|gS<|gR<|Y U<|gA U<|gw U U U ⟨U,e.pk [2] U U⟩
theorem xO (K:World) (H:kD) (L:Value) (N:rp K L H.A) :
    k6 Tryz.prog 210 [.agg #[J H.op,J H.to,L,J H.N]] K (na H) λr v w'=>v=(J r)/\Below K.heap.size K w':=by
 unfold na
 refine kQ func210 U λr e=>?_
 refine S<|gBx e U λ_ w e=>gA U<|gS<|S<|gF nN U<|gL e 0 isAgg3 U<|gC e U call114 (qy _ H.op) λ_ _ w e=>gs 5 U (λM=>?_) λM=>?_
 exact gct U<|S<|gF oa U<|gL e 0 isAgg3 U<|gA U<|gw U U U ⟨U,e.below⟩
 exact gcf U<|gSk<|S<|gA U<|gw U U U ⟨U,e.below⟩
theorem zi (M:World) (c_:jv) (v1:Value) (h1:rp M v1 c_.b) (s_:n4) (v2:Value) (h2:rp M v2 s_.i) (v3:Value) (h3:rp M v3 s_.k) (b_:Int) (i_:Int) :
    k6 Tryz.prog 166 [.agg #[J c_.P,J c_.r,v1],.agg #[v2,v3],J b_,J i_] M (nJ c_ s_ b_ i_) λr v w'=>∃ (x1:Value),v=x1/\Mem M (hp M) w' [ow [x1] r]:=by
 unfold nJ
 refine kQ func166 U λr e=>?_
 refine S<|gBx e U λ_ w e=>gBx e U λ_ w e=>gA U<|S<|gf U (λa L=>k5 (α:=Bool) uh e U) ?_
 rintro _ w e
 refine gF xB U<|gL e 1 isAgg99 U<|Y U<|gg λah ai aT=>?_
 obtain ⟨aj,ak,_,he⟩:=jy h3 aT
 subst he
 obtain ⟨_,_,aV,al⟩:=kn h3 aT
 have aI:=al
 obtain ⟨ab,rfl,-⟩:=id aI
 replace aI:GT.rep (hp M) [ab] ah:=aI
 replace aV:kS (hp M) aj (ak+b_.toNat*1) [ab]:=aV
 refine gI pR ai (jx aT) U<|gY (yl isAgg97 ((aV.mono e.lez).cell (j:=0) U) U)<|gb λ_ am=>?_
 obtain ⟨an,ao⟩:=kP.1 am
 refine gf U (λa L=>kz 0 uh L e U (e.now aI) U U U an) ?_
 rintro ac w e
 rw [ao] at e
 refine gA U<|S<|gF kM U<|gL e 2 isAgg39 U<|Y U<|gg λK ap aW=>?_
 obtain ⟨_,_,_,he⟩:=jy h1 aW
 subst he
 obtain ⟨aJ,aq,aK,ar,au,aL,aw⟩:=k4 h1 aW
 refine gI kZ ap (jx aW) U<|gY (yn (ar.mono e.lez) isAgg68 sizeOf68 U)<|gAl e zeroValue68 U λN w e=>gSN e 0 sizeOf68 (Z (kF au)<|Z (kF aL)<|Z U<|Z U<|Z (kF aw) kE) U λw e=>gS<|S<|gF oR U<|gL e 0 isAgg3 U<|gB U<|gJ e (λaA=>[(3,J i_),(9,ac),(10,pV N)]) (λaA=>[ow [ac] aA,blk N [aJ,aq,J K.j,J K.on,aK] 68]) (λaA=>?_) ?_
 refine gsd 28 U (λax=>?_) λax=>?_
 refine gct U<|gR<|Y U<|gF oI U<|gL e 0 isAgg3 U<|gg λ_ ay aM=>?_
 obtain ⟨_,_,_,he⟩:=kG (e.ow_rep 1 U) aM
 subst he
 refine gI mK ay (jx aM) U<|gf0 U (λa L=>lI (x1:=true) (j:=0) (vs:=[.bool true]) 1 L e U aM U sizeOf4 U U U (Z U kE) U U) ?_
 rintro _ w e
 exact gE<|gz e [1,0] U
 exact gcf U<|gSk<|gz e [1,0] U
 intro aA w e
 refine gS<|S<|gF lC U<|gL e 1 isAgg53 U ?_
 obtain ⟨az,aX,rfl,_⟩:=ju aL
 refine gY (yV lh U)<|gY (yS (by omega) (by omega) U)<|gA U ?_
 obtain ⟨aC,aD,rfl,_⟩:=ju<|e.ow_rep 0 U
 let H:=sl aC aA aD
 refine gJ e (λaN=>[(9,H)]) (λaN=>[ow [H] aN]) (λaN=>?_) ?_
 refine gBk<|gMf e (λaF=>[(3,J i_),(9,H),(10,pV N),(11,J aF.2)]) (λaF=>[ow [H] aF.1,blk N [aJ,sl az K.i aX,J K.j,J K.on,aK] 68]) [0,1] U ?_
 intro _ bA aF w e _ bB
 refine gS<|S<|Y U<|Y U<|gB U<|gsd 39 U (λbC=>?_) λbC=>?_
 refine gct U<|gSk<|gS<|gBk<|S<|gF lC U<|gL e 1 isAgg53 U<|Y U<|gg λbD aO aG=>?_
 obtain ⟨ae,af,rfl⟩:=jA aL aG
 obtain ⟨bE,aP,aH⟩:=nO aL aG
 let a0:=blk N [aJ,sw ae af K.i aX,J K.j,J K.on,aK] 68
 refine gI lh aO (jx aG) U<|gY (yn (aP.mono e.lez) isAgg65 sizeOf65 U)<|gC e U call210 (xO _ bD bE<|e.now aH) λ_ _ w e=>gA U<|gS<|S<|Y U<|gB U<|gJ e (λaQ=>[(3,J i_),(9,H),(10,pV N),(11,J aF.2)]) (λaQ=>[ow [H] aQ,a0]) (λaQ=>?_) ?_
 refine gsd 49 U (λbF=>?_) λbF=>?_
 refine gct U<|gR<|Y U<|Y U<|gg λ_ bG aR=>?_
 obtain ⟨_,_,rfl⟩:=jA (e.ow_rep 0 U) aR
 have W:=kB<|e.ow_rep 0 U
 refine gI mK bG (kL aR W) U<|gf0 U (λa L=>lI (x1:=false) (j:=0) (vs:=[.bool false]) 0 L e U aR U sizeOf4 U U U (Z U kE) U U) ?_
 rintro _ w e
 exact gE<|gz e [0,1] U
 exact gcf U<|gSk<|gz e [0,1] U
 intro aQ w e
 refine S<|gA U<|gBk<|gNf e (λaY aZ=>[(3,J i_),(9,H),(10,pV N),(11,J aF.2),(13,J aY)]) (λaY aZ=>[ow [H] aZ,a0]) [0,1] U ?_ ?_
 intro _ _ aY aZ w e _ _ _ _
 refine gS<|S<|Y U<|gF lC U<|gL e 1 isAgg53 U<|Y U<|gI lh aO (jx aG) U<|gF ml U<|gY (yl isAgg54 ((aP.mono e.lez).cell (j:=2) U) U) ?_
 obtain ⟨_,_,rfl,_⟩:=ju aH
 refine gY (yV kI U)<|gB U<|lT 61 U U<|gR<|Y U<|gF lC U<|gL e 1 isAgg53 U<|Y U<|gI lh aO (jx aG) U<|gF ml U<|gY (yl isAgg54 ((aP.mono e.lez).cell (j:=2) U) U)<|Y U<|gg λbH bJ aa=>?_
 obtain ⟨_,_,rfl⟩:=jA aH aa
 refine gI kI bJ (jx aa) U<|gY (yl isAgg3 ((kC (cs:=[J bH]) (e.now aH) aa U).cell (j:=0) U) U)<|gg λ_ bK aS=>?_
 obtain ⟨_,_,rfl⟩:=jA (e.ow_rep 0 U) aS
 have O:=kB<|e.ow_rep 0 U
 refine gI mK bK (kL aS O) U<|gf0 U (λa L=>lI (x1:=true) (j:=0) (vs:=[.bool true]) 0 L e U aS U sizeOf4 U U U (Z U kE) U U) ?_
 rintro _ w e
 exact gR<|Y U<|gp U<|gA U<|gE<|gze e [0,1] U
 intro _ _ w e _ _
 refine gS<|S<|Y U<|gF lC U<|gL e 1 isAgg53 U<|Y U<|gI lh aO (jx aG) U<|gF ml U<|gY (yl isAgg54 ((aP.mono e.lez).cell (j:=2) U) U) ?_
 obtain ⟨_,_,rfl,_⟩:=ju aH
 exact gY (yV kI U)<|gB U<|lF 61 U U<|gHh<|gR<|Y U<|gB U<|gA U<|gE<|gze e [0,1] U
 exact gcf U<|gXt<|gHh<|gLp bB bA<|gz e [0] U
 intro aN w e
 exact S<|Y U<|gA U<|gq U U ⟨H,U,e.d [0] U⟩
theorem wh (w0:World) (N:jv) (v1:Value) (h1:rp w0 v1 N.b) :
    k6 Tryz.prog 164 [.agg #[J N.P,J N.r,v1]] w0 (nq N) λr v w'=>∃ (x1:Value) (x2:Value),v=(.agg #[x1,x2])/\Mem w0 (hp w0) w' [ow [x1] r.i,ow [x2] r.k]:=by
 unfold nq
 refine k7 func164 U λr=>?_
 have e:=Mem.start w0
 refine S<|gBx e U λaI w e=>gAl e zeroValue190 U λaB w e=>S<|gY (yG U<|mV (vs:=[]) (cs:=#[nS,nS]) U U (by kernel_rfl))<|gAl e zeroValue190 U λaC w e=>gSN e 0 sizeOf190 (Z U<|Z U kE) U λw e=>S<|gF kM U<|gL e 2 isAgg39 U ?_
 obtain ⟨aK,aJ,rfl,_⟩:=ju h1
 refine gY (yV kZ U)<|gA U<|gS<|S<|gA U<|gBk ?_
 replace e:=e.nilow (α:=List Bool)
 replace e:=e.nilow (α:=List Bool)
 let K:=blk aB [nS,nS] 190
 let b6:=blk aI [J N.P,J N.r,sl aK N.b aJ] 41
 refine gNg (λbD aQ a w=>∃ (aX aR:Value),St 126 [(1,pV aI),(2,pV aB),(3,pV aC),(4,J<|(N.b.length:Int)),(5,J bD)] w0 (hp w0) [b6,K,blk aC [aX,aR] 190,ow [aX] aQ.1,ow [aR] aQ.2] a w) (λa H=>⟨nS,nS,H.sb U,e.d [4,3,2,1,0] U⟩) ?_ ?_
 rintro _ _ bD aQ a w ⟨aX,aR,H,e⟩ _ _ _ _
 refine gv H<|gS<|S<|Y U<|Y U<|gB U<|lT 18 U U<|gS<|gW (.p 0<|.p 2<|.q 1<|.e 3 (.e 4 (.e 5 (.e 6 (.p 7<|.e 8 .fin .nil) .nil) .nil) .nil) .nil) [3,4,5] [0,2,7] e [0,1,2,3,4] [b6,K,blk aC [aX,aR] 190,ow [aX] aQ.1,ow [aR] aQ.2] U mxo (by kernel_rfl) (λ_ _ _ h=>h.2) λw e M=>uF vr U U<|uF mF U U<|tQ U M (λw e=>yL e 2 isAgg99 U)<|tO<|tY U (yL e 0 isAgg3 U)<|tAs M<|tO<|gb λaT bS=>?_
 obtain ⟨⟨bT,bU⟩,bE⟩:=lU.1 bS
 refine tf U U (λa H=>ni (x0:=(false:Bool)) uh (λ_=>(Flat.own_iff.2 U)) H e U U U bT (Int.le_refl _) bU) ?_
 rintro _ w e
 rw [bE] at e
 have c2:(aT.length:Int)=N.r:=by rw [<- bE];simp only [List.length_replicate];omega
 refine tAk e [1,2,3,4,5] U λM=>tO ?_
 obtain ⟨al,am,rfl,_⟩:=ju<|e.ow_rep 0 U
 let a7:=sl al aT am
 refine tf U U (λa H=>kj (vs:=#[(0,a7)]) (cs:=[a7]) zX H e U U (by kernel_rfl) U U) ?_
 rintro _ w ⟨_,rfl,e⟩
 replace e:=e.els_nil (α:=List Bool)
 replace e:=e.imp (c':=ow [a7] (aT:List Bool)) 2 U λF h0=>h0
 replace e:=(e.els_cons 0 2 (dt U) U U).d [0,1,3,4,5,6,7] U
 replace e:=(e.lit_els 1 0 (dt U) U U U U).d [1,2,3,4,5,6] U
 refine tAk e [1,2,3,4,5] U λM=>tO<|gb λbV bW=>?_
 obtain ⟨bX,bY⟩:=kP.1 bW
 replace e:=(e.both 4 0 (dt U) U U).d [1,2,3,4,5] U
 refine tf U U (λa H=>lW (xs:=aQ.1) (ys:=([aT]:List (List Bool))) 3 zX H e U U U U bX) ?_
 rintro an w e
 rw [bY] at e
 refine tAn U<|uF vr U U<|tO<|tf0 U U (λa H=>qm 2 H e U sizeOf99 U U U (kF<|e.ow_rep 3 U) U) ?_
 rintro _ w e
 refine tAn U<|tE<|gW (.p 0<|.p 2<|.q 1<|.e 3 (.e 4 (.e 5 (.e 6 (.p 7<|.e 8 .fin .nil) .nil) .nil) .nil) .nil) [3,4,5] [0,2,7] e [0,1,2,3,4] [blk aI [J N.P,J N.r,sl aK N.b aJ] 41,K,blk aC [an,aR] 190,ow [an] bV,ow [aR] aQ.2] U mxo (by kernel_rfl) (λ_ _ _ h=>h.2) λw e M=>uF xB U U<|uF mF U U<|tQ U M (λw e=>yL e 2 isAgg99 U)<|tO<|tY U (yL e 0 isAgg3 U)<|tAs M<|tO<|gb λaV bZ=>?_
 obtain ⟨⟨b8,b9⟩,bF⟩:=lU.1 bZ
 refine tf U U (λa H=>ni (x0:=(false:Bool)) uh (λ_=>(Flat.own_iff.2 U)) H e U U U b8 (Int.le_refl _) b9) ?_
 rintro _ w e
 rw [bF] at e
 have c1:(aV.length:Int)=N.r:=by rw [<- bF];simp only [List.length_replicate];omega
 refine tAk e [1,2,3,4,5] U λM=>tO ?_
 obtain ⟨ao,ap,rfl,_⟩:=ju<|e.ow_rep 0 U
 let a9:=sl ao aV ap
 refine tf U U (λa H=>kj (vs:=#[(0,a9)]) (cs:=[a9]) zX H e U U (by kernel_rfl) U U) ?_
 rintro _ w ⟨_,rfl,e⟩
 replace e:=e.els_nil (α:=List Bool)
 replace e:=e.imp (c':=ow [a9] (aV:List Bool)) 2 U λF h0=>h0
 replace e:=(e.els_cons 0 2 (dt U) U U).d [0,1,3,4,5,6,7] U
 replace e:=(e.lit_els 1 0 (dt U) U U U U).d [1,2,3,4,5,6] U
 refine tAk e [1,2,3,4,5] U λM=>tO<|gb λ_ ba=>?_
 obtain ⟨bb,bc⟩:=kP.1 ba
 replace e:=(e.both 5 0 (dt U) U U).d [1,2,3,4,5] U
 refine tf U U (λa H=>lW (xs:=aQ.2) (ys:=([aV]:List (List Bool))) 4 zX H e U U U U bb) ?_
 rintro bd w e
 rw [bc] at e
 refine tAn U<|uF xB U U<|tO<|tf0 U U (λa H=>qm 2 H e U sizeOf99 U U U (kF<|e.ow_rep 4 U) U) ?_
 rintro _ w e
 exact tAn U<|tE<|gR<|Y U<|gp U<|gA U<|gE<|gZe λa H=>⟨an,bd,H.sb U,e.d [0,1,2,3,4] U⟩
 rintro _ aA a w ⟨_,_,H,e⟩ _ _
 refine gv H<|gS<|S<|Y U<|Y U<|gB U<|lF 18 U U<|gHh<|gS<|S<|gA U ?_
 obtain ⟨aE,aF,rfl,_⟩:=ju<|e.ow_rep 3 U
 obtain ⟨aG,aH,rfl,_⟩:=ju<|e.ow_rep 4 U
 let W:=sl aE aA.1 aF
 let L:=sl aG aA.2 aH
 let a0:=blk aC [W,L] 190
 refine gJ e (λaY=>[(2,pV aB),(3,pV aC)]) (λaY=>[K,a0,ow [W] aY.1,ow [L] aY.2]) (λaY=>?_) ?_
 let a6:=sl aK N.b aJ
 let a8:=J N.P
 let a2:=blk aI [a8,J N.r,a6] 41
 let a1:=J<|(N.b.length:Int)
 refine gBk<|gMf e (λaZ=>[(1,pV aI),(2,pV aB),(3,pV aC),(4,a1),(6,.bool aZ.2.2)]) (λaZ=>[a2,K,a0,ow [W] aZ.1,ow [L] aZ.2.1]) [0,1,2,3,4] U ?_
 intro _ be aZ w e _ bf
 refine gS<|S<|Y U<|gs 37 U (λbg=>?_) λbg=>?_
 refine gct U<|gSk<|gBk<|S<|gA U<|S<|Y U<|gY (yS (by omega) (by omega) U)<|gA U<|gJ e (λaW=>[(1,(pV aI)),(2,(pV aB)),(3,(pV aC)),(4,(J<|(N.b.length:Int))),(6,(.bool aW.2.2))]) (λaW=>[blk aI [a8,J N.r,a6] 41,blk aB [nS,nS] 190,blk aC [W,L] 190,ow [W] aW.1,ow [L] aW.2.1]) (λaW=>?_) ?_
 refine gBk<|gMf e (λaD=>[(1,pV aI),(2,pV aB),(3,pV aC),(4,a1),(6,.bool aD.2.2.1),(7,J aD.2.2.2)]) (λaD=>[a2,K,a0,ow [W] aD.1,ow [L] aD.2.1]) [0,1,2,3,4] U ?_
 intro _ bh aD w e _ bi
 refine gS<|S<|Y U<|gB U<|gsd 41 U (λbj=>?_) λbj=>?_
 let a3:=ow [W] aD.1
 let a4:=J aD.2.2.2
 refine gct U<|gSk<|gS<|gBk<|gS<|S<|gA U<|gJ e (λaL=>[(1,pV aI),(2,pV aB),(3,pV aC),(4,a1),(6,.bool aL.2),(7,a4)]) (λaL=>[a2,K,a0,a3,ow [L] aL.1]) (λaL=>?_) ?_
 refine gBk<|gMf e (λaS=>[(1,pV aI),(2,pV aB),(3,pV aC),(4,a1),(6,.bool aS.2.1),(7,a4),(8,J aS.2.2)]) (λaS=>[a2,K,a0,a3,ow [L] aS.1]) [0,1,2,3,4] U ?_
 intro _ bk aS w e _ bl
 refine gS<|S<|Y U<|gF kM U<|gL e 0 isAgg39 U<|Y U<|gg λ_ bG ae=>?_
 obtain ⟨bH,bJ,_,he⟩:=jy h1 ae
 obtain ⟨rfl,_,rfl⟩:=sl3 he
 obtain ⟨_,_,_,bK,_,_,aq⟩:=k4 h1 ae
 refine gI kZ bG (jx ae) U<|gF lb U<|gY (yl isAgg54 ((bK.mono e.lez).cell (j:=4) U) U) ?_
 obtain ⟨_,_,rfl,_⟩:=ju aq
 refine gY (yV kI U)<|gB U<|gsd 52 U (λbm=>?_) λbm=>?_
 let aU:=sw bH bJ N.b aJ
 refine gct U<|gSk<|gS<|gBk<|gJ e (λaa=>[(1,pV aI),(2,pV aB),(3,pV aC),(4,a1),(6,.bool aa.2),(7,a4),(8,J aS.2.2)]) (λaa=>[blk aI [a8,J N.r,aU] 41,K,a0,a3,ow [L] aa.1]) (λaa=>?_) ?_
 refine gW (.p 2<|.p 3<|.p 5<|.p 9<|.q 0<|.q 1<|.e 4 (.p 6<|.p 7<|.e 8 (.p 10<|.e 11 (.e 12 (.p 13<|.p 14<|.p 15<|.p 16 .fin) .nil) .nil) .nil) .nil) [0,1,4,8,11] [2,3,5,6,7,9,10,13,14,15,16] e [0,1,2,3,4] [_,_,_,_,_] U mxo (by kernel_rfl) (λ_ _ _ h=>h.2) λw e M=>uM U U<|uF kM U U<|uM U U<|uM U U<|tQ U M (λw e=>yn (e.blk_at 0 U) isAgg41 sizeOf41 U)<|tQ U M (λw e=>yn (e.blk_at 2 U) isAgg190 sizeOf190 U)<|tO<|tY U (yL e 0 isAgg39 U)<|tAs M<|tP U (λw=>yI kZ bG (jx ae) U)<|uF lb U U<|tO<|tY U (yl isAgg54 ((bK.mono e.lez).cell (j :=4) U) U)<|tAs M<|gg λbL bo ar=>?_
 obtain ⟨_,_,_,he⟩:=kG aq ar
 obtain ⟨rfl,_,rfl⟩:=sl3 he
 refine tP U (λw=>yI kI bo (jx ar) U)<|tO<|tY U (yl isAgg3 ((kC (cs:=[J bL]) (e.now aq) ar U).cell (j:=0) U) U)<|tAs M<|tO<|gb λ_ bp=>?_
 obtain ⟨bq,c3,c4,b7,br⟩:=e.take2 (L1:=[_]) (L2:=[_,_,_,_]) [4] [0,1,2,3] (dt U) U U
 refine tf U U (λa H=>ki H U call208 U<|ah5 _ bq N aU (GT.mono c3 h1) (⟨aD.1,aS.1⟩:n4) W (aq0<|b7 3 _ U) L aD.2.2.2 bL c4  _ bp) ?_
 rintro _ w ⟨rfl,hB⟩
 replace e:=br _ _ hB;clear hB
 refine tAn U<|uM U U<|gs 68 U (λbt=>?_) λbt=>?_
 exact tPo U U<|uT U U<|uA U U<|tE<|gz e [1,2,3,4,0] U
 exact uM U U<|uK U U<|uA U U<|tE<|gz e [1,2,3,4,0] U
 intro aa w e
 exact gR<|Y U<|gB U<|gA U<|gE<|gze e [0,1,2,3,4] U
 exact gcf U<|gXt<|gHh<|gLp bl bk<|gz e [0,1,2,3,4] U
 intro aL w e
 refine S<|gY (yn (e.blk_at 0 U) isAgg41 sizeOf41 U)<|gY (yn (e.blk_at 2 U) isAgg190 sizeOf190 U)<|Y U<|gCg U call166 (zi _ N a6 (e.now h1) (⟨aD.1,aL.1⟩:n4) W (e.ow_rep 3 U) L (e.ow_rep 4 U) aD.2.2.2<|-1) ?_
 rintro aM _ _ w ⟨_,rfl,hB⟩
 replace e:=e.give hB;clear hB
 refine gA U<|gS<|S<|gA U ?_
 obtain ⟨aN,aO,rfl,_⟩:=ju<|e.ow_rep 0 U
 let O:=sl aN aM aO
 let a5:=ow [L] aL.1
 refine gJ e (λaP=>[(1,pV aI),(2,pV aB),(3,pV aC),(4,a1),(6,.bool aL.2),(7,a4),(9,O)]) (λaP=>[a2,K,a0,a3,a5,ow [O] aP]) (λaP=>?_) ?_
 refine gBk<|gMf e (λaf=>[(1,pV aI),(2,pV aB),(3,pV aC),(4,a1),(6,.bool aL.2),(7,a4),(9,O),(10,J af.2)]) (λaf=>[a2,K,a0,a3,a5,ow [O] af.1]) [1,2,3,4,5,0] U ?_
 intro _ bu af w e _ bv
 refine gS<|S<|Y U<|gF kM U<|gL e 0 isAgg39 U<|Y U<|gg λ_ bM ah=>?_
 obtain ⟨_,_,_,he⟩:=jy h1 ah
 obtain ⟨rfl,_,rfl⟩:=sl3 he
 obtain ⟨_,_,_,bN,au,_,_⟩:=k4 h1 ah
 refine gI kZ bM (jx ah) U<|gF ko U<|gY (yl isAgg66 ((bN.mono e.lez).cell (j:=0) U) U) ?_
 obtain ⟨_,_,rfl,_⟩:=ju au
 refine gY (yV lY U)<|gB U<|gsd 83 U (λbx=>?_) λbx=>?_
 refine gct U<|gSk<|gS<|gBk<|gR<|Y U<|gF kM U<|gL e 0 isAgg39 U<|Y U<|gI kZ bM (jx ah) U<|gF ko U<|gY (yl isAgg66 ((bN.mono e.lez).cell (j:=0) U) U)<|Y U<|gg λ_ bz aw=>?_
 obtain ⟨_,_,_,he⟩:=jy au aw
 obtain ⟨rfl,_,rfl⟩:=sl3 he
 obtain ⟨_,cA,_⟩:=mP au aw
 refine gI lY bz (jx aw) U<|gF oH U<|gY (yl isAgg3 ((cA.mono e.lez).cell (j:=0) U) U)<|gg λ_ cB ai=>?_
 obtain ⟨_,_,_,he⟩:=kG (e.ow_rep 5 U) ai
 obtain ⟨rfl,_,rfl⟩:=sl3 he
 have b5:=kB<|e.ow_rep 5 U
 refine gI mK cB (kL ai b5) U<|gf0 U (λa H=>lI (x1:=false) (j:=0) (vs:=[.bool false]) 5 H e U ai U sizeOf4 U U U (Z U kE) U U) ?_
 rintro _ w e
 have dd:=List.getElem?_set_self (a:=false)<|jx ai
 exact gR<|Y U<|gB U<|gA U<|gE<|gze e [0,1,2,3,4,5] U
 exact gcf U<|gXt<|gHh<|gLp bv bu<|gz e [0,1,2,3,4,5] U
 intro aP w e
 refine gS<|S<|gA U<|gBk<|gb λ_ bO=>?_
 replace bO:=sM.1 bO
 refine gNf e (λaj ax=>[(1,pV aI),(2,pV aB),(3,pV aC),(4,a1),(6,.bool ax),(7,a4),(9,O),(11,J aj)]) (λaj ax=>[a2,K,a0,a3,a5,ow [O] aP]) [0,1,2,3,4,5] U ?_ ?_
 intro _ _ aj ax w e _ _ _ _
 refine gS<|S<|Y U<|gF mF U<|gL e 0 isAgg3 U<|gB U<|lT 101 U U<|gJ e (λak=>[(1,pV aI),(2,pV aB),(3,pV aC),(4,a1),(6,.bool ak),(7,a4),(9,O),(11,J aj)]) (λak=>[a2,K,a0,a3,a5,ow [O] aP]) (λak=>?_) ?_
 refine gW (.p 0<|.p 1<|.p 2<|.p 3<|.p 4<|.p 6<|.p 8<|.p 11<|.q 5<|.e 7 (.p 9<|.e 10 (.p 12<|.e 13 (.p 14<|.p 15<|.p 16 .fin) .nil) .nil) .nil) [7,10,13] [0,1,2,3,4,6,8,9,11,12,14,15,16] e [0,1,2,3,4,5] [_,_,_,_,_,_] U mxo (by kernel_rfl) (λ_ _ _ h=>h.2) λw e M=>uM U U<|uM U U<|gs 105 U (λcC=>?_) λcC=>?_
 exact tPo U U<|tPo U U<|tPo U U<|tPo U U<|tPo U U<|tPo U U<|tQo U M U<|tO<|tEo U U<|tAs M<|tPo U U<|tO<|tEo U U<|tAs M<|tPo U U<|tO<|tEo U U<|tAs M<|tPo U U<|uT U U<|uA U U<|tE<|gz e [0,1,2,3,4,5] U
 refine uM U U<|uM U U<|gg λcD cE ay=>?_
 obtain ⟨_,_,_,he⟩:=kG (e.ow_rep 5 U) ay
 obtain ⟨rfl,_,rfl⟩:=sl3 he
 have b3:=kB<|e.ow_rep 5 U
 refine tP U (λw=>yI mK cE (kL ay b3) U)<|uF vr U U<|uM U U<|uM U U<|tQ U M (λw e=>yl isAgg4 ((kC (cs:=[.bool cD]) (e.ow_rep 5 U) ay U).cell (j:=0) U) U)<|tO<|tY U (yL e 2 isAgg99 U)<|tAs M<|gg λcF cG az=>?_
 obtain ⟨cH,cI,_,he⟩:=jy (e.ow_rep 3 U) az
 obtain ⟨rfl,_,rfl⟩:=sl3 he
 obtain ⟨_,_,bA,cJ⟩:=kn (e.ow_rep 3 U) az
 have ab:=cJ
 obtain ⟨bP,rfl,-⟩:=id ab
 replace ab:GT.rep (hp _) [bP] cF:=ab
 replace bA:kS (hp _) cH (cI+aD.2.2.2.toNat*1) [bP]:=bA
 have b0:=kB<|e.ow_rep 3 U
 refine tP U (λw=>yI pR cG (kL az b0) U)<|tO<|tY U (yl isAgg97 (bA.cell (j:=0) U) U)<|tAs M<|gg λcK cL bB=>?_
 obtain ⟨_,_,_,he⟩:=kG ab bB
 subst he
 exact tP U (λw=>yI mK cL (jx bB) U)<|tO<|tY U (yl isAgg4 ((kC (cs:=[.bool cK]) ab bB U).cell (j:=0) U) U)<|tAs M<|tP U (λw=>yG U<|ao5 underlying4 U U U)<|uK U U<|uA U U<|tE<|gz e [0,1,2,3,4,5] U
 intro ak w e
 exact gR<|Y U<|gp U<|gA U<|gE<|gze e [0,1,2,3,4,5] U
 intro _ _ w e _ _
 refine gS<|S<|Y U<|gF mF U<|gL e 0 isAgg3 U<|gB U<|lF 101 U U<|gHh<|gR<|gF vr U<|gL e 2 isAgg99 U<|Y U<|Y U<|gg λcM cN ac=>?_
 obtain ⟨cO,cP,_,he⟩:=jy (e.ow_rep 3 U) ac
 obtain ⟨rfl,_,rfl⟩:=sl3 he
 obtain ⟨_,_,bQ,cQ⟩:=kn (e.ow_rep 3 U) ac
 have bC:=cQ
 obtain ⟨bR,rfl,-⟩:=id bC
 replace bC:GT.rep (hp _) [bR] cM:=bC
 replace bQ:kS (hp _) cO (cP+aD.2.2.2.toNat*1) [bR]:=bQ
 have b4:=kB<|e.ow_rep 3 U
 refine gI pR cN (kL ac b4) U ?_
 replace e:=e.imp (c':=ow [O] (aP:List Bool)) 5 U λF h0=>h0
 replace e:=(e.both 3 5 (dt U) U U).d [0,1,2,3,4] U
 refine gf0 U (λa H=>sO (x1:=(aP:List Bool)) (vs:=[O]) 3 H e U ac U sizeOf97 U U U U) ?_
 rintro _ w e
 have dy:=List.getElem?_set_self (a:=(aP:List Bool))<|jx ac
 exact gR<|Y U<|gB U<|gA U<|gE<|gze e [0,1,2,3,4] U
 exact gcf U<|gXt<|gHh<|gLp bi bh<|gz e [0,1,2,3,4] U
 intro aW w e
 exact gze e [0,1,2,3,4] U
 exact gcf U<|gXt<|gHh<|gLp bf be<|gz e [1,2,3,4] U
 intro aY w e
 exact S<|gY (yn (e.blk_at 1 U) isAgg190 sizeOf190 U)<|gSN e 0 sizeOf190 (Z U<|Z U kE) U λw e=>gRt<|grc 0 results164 e U isAgg190 sizeOf190 ⟨W,L,U,e.d [2,3] U⟩
end Go.Proofs.YtkihhabnfheieaaGreat
