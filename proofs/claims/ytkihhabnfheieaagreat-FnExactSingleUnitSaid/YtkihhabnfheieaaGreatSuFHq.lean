/- The program's SingleUnit returns what the reference's returns, for all arguments. -/
import Derived.Test.YtkihhabnfheieaaGreatRows
import Derived.Test.YtkihhabnfheieaaGreatSuWalks
import Derived.Test.YtkihhabnfheieaaGreatSuAc
import Derived.Test.YtkihhabnfheieaaGreatWkS
import Derived.JoinedCond
namespace Go.Proofs.YtkihhabnfheieaaGreat.fnExactSingleUnit
open Go Go.Wk Go.ChangeShapes Go.WideShapes Go.RowKit
set_option maxRecDepth 10000
theorem own:ownKnob Tryz.prog.godebug=none:=by kernel_rfl
theorem cn6:laidOutB Tryz.prog=true:=by kernel_rfl
theorem op3:Opn Tryz.prog Int (λm=>(-9223372036854775808<=m/\m<9223372036854775808)) 3 :=
 cw8 Tryz.underlying3
theorem cv5:Opn Tryz.prog (List Int) (λm=>(m.length<=140737488351232/\∀ ym_∈m,(-9223372036854775808<=ym_/\ym_<9223372036854775808))) 54 :=
 zK Tryz.underlying54 (by kernel_rfl) (by decide) (of_decide_eq_true (by kernel_rfl)) op3
theorem cz7:Opn Tryz.prog kA (λm=>((-9223372036854775808<=m.to/\m.to<9223372036854775808)/\(m.A.length<=140737488351232/\∀ ymargs_∈m.A,(-9223372036854775808<=ymargs_/\ymargs_<9223372036854775808)))) 225 :=
 by
 have hs:=vk Tryz.underlying225 rfl (by kernel_rfl) (qt rfl (by kernel_rfl) op3 (xW rfl (by kernel_rfl) cv5))
 exact ar8 (β:=Int × (List Int)) (λb=>⟨b.1,b.2⟩) (λ_ _ _ h=>h) (λ_ h=>h) hs
theorem da4:Opn Tryz.prog (List kA) (λm=>(m.length<=140737488351232/\∀ ym_∈m,((-9223372036854775808<=ym_.to/\ym_.to<9223372036854775808)/\(ym_.A.length<=140737488351232/\∀ yymargs_∈ym_.A,(-9223372036854775808<=yymargs_/\yymargs_<9223372036854775808))))) 126 :=
 zK Tryz.underlying126 (by kernel_rfl) (by decide) (of_decide_eq_true (by kernel_rfl)) cz7
theorem da6:Opn Tryz.prog kD (λm=>((-9223372036854775808<=m.op/\m.op<9223372036854775808)/\(-9223372036854775808<=m.to/\m.to<9223372036854775808)/\(m.A.length<=140737488351232/\∀ ymargs_∈m.A,(-9223372036854775808<=ymargs_/\ymargs_<9223372036854775808))/\(-9223372036854775808<=m.N/\m.N<9223372036854775808))) 227 :=
 by
 have hs:=vk Tryz.underlying227 rfl (by kernel_rfl) (qt rfl (by kernel_rfl) op3 (qt rfl (by kernel_rfl) op3 (qt rfl (by kernel_rfl) cv5 (xW rfl (by kernel_rfl) op3))))
 exact ar8 (β:=Int × Int × (List Int) × Int) (λb=>⟨b.1,b.2.1,b.2.2.1,b.2.2.2⟩) (λ_ _ _ h=>h) (λ_ h=>h) hs
theorem da7:Opn Tryz.prog (List kD) (λm=>(m.length<=140737488351232/\∀ ym_∈m,((-9223372036854775808<=ym_.op/\ym_.op<9223372036854775808)/\(-9223372036854775808<=ym_.to/\ym_.to<9223372036854775808)/\(ym_.A.length<=140737488351232/\∀ yymargs_∈ym_.A,(-9223372036854775808<=yymargs_/\yymargs_<9223372036854775808))/\(-9223372036854775808<=ym_.N/\ym_.N<9223372036854775808)))) 127 :=
 zK Tryz.underlying127 (by kernel_rfl) (by decide) (of_decide_eq_true (by kernel_rfl)) da6
theorem da3:Opn Tryz.prog jq (λm=>((m.a.length<=140737488351232/\∀ ymphis_∈m.a,((-9223372036854775808<=ymphis_.to/\ymphis_.to<9223372036854775808)/\(ymphis_.A.length<=140737488351232/\∀ yymphisargs_∈ymphis_.A,(-9223372036854775808<=yymphisargs_/\yymphisargs_<9223372036854775808))))/\(m.i.length<=140737488351232/\∀ ymins_∈m.i,((-9223372036854775808<=ymins_.op/\ymins_.op<9223372036854775808)/\(-9223372036854775808<=ymins_.to/\ymins_.to<9223372036854775808)/\(ymins_.A.length<=140737488351232/\∀ yyminsargs_∈ymins_.A,(-9223372036854775808<=yyminsargs_/\yyminsargs_<9223372036854775808))/\(-9223372036854775808<=ymins_.N/\ymins_.N<9223372036854775808)))/\(-9223372036854775808<=m.j/\m.j<9223372036854775808)/\(-9223372036854775808<=m.on/\m.on<9223372036854775808)/\(m.n.length<=140737488351232/\∀ ymnext_∈m.n,(-9223372036854775808<=ymnext_/\ymnext_<9223372036854775808)))) 129 :=
 by
 have hs:=vk Tryz.underlying129 rfl (by kernel_rfl) (qt rfl (by kernel_rfl) da4 (qt rfl (by kernel_rfl) da7 (qt rfl (by kernel_rfl) op3 (qt rfl (by kernel_rfl) op3 (xW rfl (by kernel_rfl) cv5)))))
 exact ar8 (β:=(List kA) × (List kD) × Int × Int × (List Int)) (λb=>⟨b.1,b.2.1,b.2.2.1,b.2.2.2.1,b.2.2.2.2⟩) (λ_ _ _ h=>h) (λ_ h=>h) hs
theorem dc6:Opn Tryz.prog (List jq) (λm=>(m.length<=140737488351232/\∀ ym_∈m,((ym_.a.length<=140737488351232/\∀ yymphis_∈ym_.a,((-9223372036854775808<=yymphis_.to/\yymphis_.to<9223372036854775808)/\(yymphis_.A.length<=140737488351232/\∀ yyymphisargs_∈yymphis_.A,(-9223372036854775808<=yyymphisargs_/\yyymphisargs_<9223372036854775808))))/\(ym_.i.length<=140737488351232/\∀ yymins_∈ym_.i,((-9223372036854775808<=yymins_.op/\yymins_.op<9223372036854775808)/\(-9223372036854775808<=yymins_.to/\yymins_.to<9223372036854775808)/\(yymins_.A.length<=140737488351232/\∀ yyyminsargs_∈yymins_.A,(-9223372036854775808<=yyyminsargs_/\yyyminsargs_<9223372036854775808))/\(-9223372036854775808<=yymins_.N/\yymins_.N<9223372036854775808)))/\(-9223372036854775808<=ym_.j/\ym_.j<9223372036854775808)/\(-9223372036854775808<=ym_.on/\ym_.on<9223372036854775808)/\(ym_.n.length<=140737488351232/\∀ yymnext_∈ym_.n,(-9223372036854775808<=yymnext_/\yymnext_<9223372036854775808))))) 47 :=
 zK Tryz.underlying47 (by kernel_rfl) (by decide) (of_decide_eq_true (by kernel_rfl)) da3
theorem dc9:Opn Tryz.prog jv (λm=>((-9223372036854775808<=m.P/\m.P<9223372036854775808)/\(-9223372036854775808<=m.r/\m.r<9223372036854775808)/\(m.b.length<=140737488351232/\∀ ymblocks_∈m.b,((ymblocks_.a.length<=140737488351232/\∀ yymblocksphis_∈ymblocks_.a,((-9223372036854775808<=yymblocksphis_.to/\yymblocksphis_.to<9223372036854775808)/\(yymblocksphis_.A.length<=140737488351232/\∀ yyymblocksphisargs_∈yymblocksphis_.A,(-9223372036854775808<=yyymblocksphisargs_/\yyymblocksphisargs_<9223372036854775808))))/\(ymblocks_.i.length<=140737488351232/\∀ yymblocksins_∈ymblocks_.i,((-9223372036854775808<=yymblocksins_.op/\yymblocksins_.op<9223372036854775808)/\(-9223372036854775808<=yymblocksins_.to/\yymblocksins_.to<9223372036854775808)/\(yymblocksins_.A.length<=140737488351232/\∀ yyymblocksinsargs_∈yymblocksins_.A,(-9223372036854775808<=yyymblocksinsargs_/\yyymblocksinsargs_<9223372036854775808))/\(-9223372036854775808<=yymblocksins_.N/\yymblocksins_.N<9223372036854775808)))/\(-9223372036854775808<=ymblocks_.j/\ymblocks_.j<9223372036854775808)/\(-9223372036854775808<=ymblocks_.on/\ymblocks_.on<9223372036854775808)/\(ymblocks_.n.length<=140737488351232/\∀ yymblocksnext_∈ymblocks_.n,(-9223372036854775808<=yymblocksnext_/\yymblocksnext_<9223372036854775808)))))) 49 :=
 by
 have hs:=vk Tryz.underlying49 rfl (by kernel_rfl) (qt rfl (by kernel_rfl) op3 (qt rfl (by kernel_rfl) op3 (xW rfl (by kernel_rfl) dc6)))
 exact ar8 (β:=Int × Int × (List jq)) (λb=>⟨b.1,b.2.1,b.2.2⟩) (λ_ _ _ h=>h) (λ_ h=>h) hs
theorem dd0:Opn Tryz.prog (List jv) (λm=>(m.length<=140737488351232/\∀ ym_∈m,((-9223372036854775808<=ym_.P/\ym_.P<9223372036854775808)/\(-9223372036854775808<=ym_.r/\ym_.r<9223372036854775808)/\(ym_.b.length<=140737488351232/\∀ yymblocks_∈ym_.b,((yymblocks_.a.length<=140737488351232/\∀ yyymblocksphis_∈yymblocks_.a,((-9223372036854775808<=yyymblocksphis_.to/\yyymblocksphis_.to<9223372036854775808)/\(yyymblocksphis_.A.length<=140737488351232/\∀ yyyymblocksphisargs_∈yyymblocksphis_.A,(-9223372036854775808<=yyyymblocksphisargs_/\yyyymblocksphisargs_<9223372036854775808))))/\(yymblocks_.i.length<=140737488351232/\∀ yyymblocksins_∈yymblocks_.i,((-9223372036854775808<=yyymblocksins_.op/\yyymblocksins_.op<9223372036854775808)/\(-9223372036854775808<=yyymblocksins_.to/\yyymblocksins_.to<9223372036854775808)/\(yyymblocksins_.A.length<=140737488351232/\∀ yyyymblocksinsargs_∈yyymblocksins_.A,(-9223372036854775808<=yyyymblocksinsargs_/\yyyymblocksinsargs_<9223372036854775808))/\(-9223372036854775808<=yyymblocksins_.N/\yyymblocksins_.N<9223372036854775808)))/\(-9223372036854775808<=yymblocks_.j/\yymblocks_.j<9223372036854775808)/\(-9223372036854775808<=yymblocks_.on/\yymblocks_.on<9223372036854775808)/\(yymblocks_.n.length<=140737488351232/\∀ yyymblocksnext_∈yymblocks_.n,(-9223372036854775808<=yyymblocksnext_/\yyymblocksnext_<9223372036854775808))))))) 22 :=
 zK Tryz.underlying22 (by kernel_rfl) (by decide) (of_decide_eq_true (by kernel_rfl)) dc9
theorem dc5:Opn Tryz.prog kU (λm=>((m.C.length<=140737488351232/\∀ ymcodes_∈m.C,((-9223372036854775808<=ymcodes_.P/\ymcodes_.P<9223372036854775808)/\(-9223372036854775808<=ymcodes_.r/\ymcodes_.r<9223372036854775808)/\(ymcodes_.b.length<=140737488351232/\∀ yymcodesblocks_∈ymcodes_.b,((yymcodesblocks_.a.length<=140737488351232/\∀ yyymcodesblocksphis_∈yymcodesblocks_.a,((-9223372036854775808<=yyymcodesblocksphis_.to/\yyymcodesblocksphis_.to<9223372036854775808)/\(yyymcodesblocksphis_.A.length<=140737488351232/\∀ yyyymcodesblocksphisargs_∈yyymcodesblocksphis_.A,(-9223372036854775808<=yyyymcodesblocksphisargs_/\yyyymcodesblocksphisargs_<9223372036854775808))))/\(yymcodesblocks_.i.length<=140737488351232/\∀ yyymcodesblocksins_∈yymcodesblocks_.i,((-9223372036854775808<=yyymcodesblocksins_.op/\yyymcodesblocksins_.op<9223372036854775808)/\(-9223372036854775808<=yyymcodesblocksins_.to/\yyymcodesblocksins_.to<9223372036854775808)/\(yyymcodesblocksins_.A.length<=140737488351232/\∀ yyyymcodesblocksinsargs_∈yyymcodesblocksins_.A,(-9223372036854775808<=yyyymcodesblocksinsargs_/\yyyymcodesblocksinsargs_<9223372036854775808))/\(-9223372036854775808<=yyymcodesblocksins_.N/\yyymcodesblocksins_.N<9223372036854775808)))/\(-9223372036854775808<=yymcodesblocks_.j/\yymcodesblocks_.j<9223372036854775808)/\(-9223372036854775808<=yymcodesblocks_.on/\yymcodesblocks_.on<9223372036854775808)/\(yymcodesblocks_.n.length<=140737488351232/\∀ yyymcodesblocksnext_∈yymcodesblocks_.n,(-9223372036854775808<=yyymcodesblocksnext_/\yyymcodesblocksnext_<9223372036854775808)))))))) 24 :=
 by
 have hs:=vk Tryz.underlying24 rfl (by kernel_rfl) (xW rfl (by kernel_rfl) dd0)
 exact ar8 (β:=(List jv)) (λb=>⟨b⟩) (λ_ _ _ h=>h) (λ_ h=>h) hs
theorem cd3 (H:Type) (enc:TypeId × Value->H) (W:World) (base:Nat) (args:Array Value) (ds gs:List (DataW H)) (before:List MemPlace)
  (hval:∀ (j:Nat) t v,Tryz.f3.params[j]?=some t->args[j]?=some v->Value.okWide Tryz.prog W .any base t v)
  (hW:DataW.Whole enc Tryz.prog Tryz.f3.params.toList Rows.fnExactSingleUnitSpec.vars false W args.toList ds gs before)
  (hsz:(DataW.weightsEach Tryz.prog (Tryz.f3.params.toList++Rows.fnExactSingleUnitSpec.plain.varTypes Tryz.prog) (ds++gs)).all (·<=reachBytes)=true) :
  Calls Tryz.prog 3 args W λe W'=>∃ v,e=.returned v/\Rows.fnExactSingleUnitSpec.post enc Tryz.prog Tryz.f3 false true false false W args v W':=by
 have hW':=hW
 obtain ⟨p,q,hA0,hV,rfl,hfz,hnd⟩:=hW
 have hA:DataW.TrodAll enc Tryz.prog W 0 (λ_=>true) true Tryz.f3.params.toList args.toList ds p:=hA0
 rw [Tryz.params3] at hA hval hsz
 have hwt:∀ n∈DataW.weightsEach Tryz.prog [24] (ds++gs),n<=reachBytes:=λn hn =>
  of_decide_eq_true (List.all_eq_true.1 hsz n hn)
 obtain ⟨v0,vs0,d0,ds0,p0,q0,hargs,rfl,rfl,h0,r0⟩:=trodAll_cons hA
 obtain ⟨rfl,rfl,rfl⟩:=trodAll_nil r0
 obtain rfl:args=#[v0]:=by cases args;simp_all
 obtain ⟨rfl,rfl⟩:=trodVars_none hV
 clear hA0 hA r0 hfz hnd
 simp only [List.append_nil] at hwt
 obtain ⟨m0,g0,k0⟩:=cv9 dc5 h0 (λn hn=>hwt n (by simp [DataW.weightsEach,hn]))
 obtain ⟨c0,rfl,z0⟩:=okWide_struct Tryz.underlying24 (hval 0 24 v0 rfl rfl)
 have s1:=g0
 obtain ⟨xs1,e,-⟩:=id s1
 obtain rfl:c0=#[xs1]:=Array.ext' e
 clear e
 have hc:=ua W m0 xs1 s1 true (Unt.lawSingleUnit m0 (⟨by have:=k0.1;omega,λc hc=>⟨by have:=(k0.2 c hc).2.2.1;omega,λb hb=>(λq=>⟨by have:=q.1.1;omega,by have:=q.2.1.1;omega,by have:=q.2.2.2.2.1;omega,λx hx=>by have:=(q.1.2 x hx).2.1;unfold Unt.LPhi;omega,λx hx=>by have:=(q.2.1.2 x hx).2.2.1.1;unfold Unt.LIns;omega⟩) ((k0.2 c hc).2.2.2 b hb)⟩⟩))
 refine hc.mono λe W' h=>?_
 cases e with
 | returned v =>
  obtain ⟨rfl,hb⟩:=h
  exact ⟨_,rfl,bt9 cn6 (by rw [Tryz.params3];exact of_decide_eq_true (by kernel_rfl)) rfl Tryz.underlying4 rfl rfl hW' hb⟩
 | _=>exact h.elim
set_option maxRecDepth 100000 in
theorem lifted (os:Os) (started:os.Started) (H:Type) (enc:TypeId × Value->H) :
  ReturnsInHanded {} Tryz.checked os 3 .any (Rows.fnExactSingleUnitSpec.pre6 enc Tryz.prog Tryz.f3 Rows.fnExactSingleUnitRow.domain false) (Rows.fnExactSingleUnitSpec.post enc Tryz.prog Tryz.f3 false true false false):=by
 refine returnsInHanded_of_change_sized (C := Tryz.checked) own started (by kernel_rfl) Tryz.func3
  (ChangeSpec.witness6 (enc:=enc) (C:=Tryz.checked) false ⟨#[],#[(.agg #[(.slice none 0 0)])],[]⟩ 8 (by kernel_rfl) (by kernel_rfl) (by kernel_rfl) (by kernel_rfl)) ?_
 intro W base args ds gs before hval hW _ hsz _
 exact cd3 H enc W base args ds gs before hval hW hsz
theorem cv0:jf1 Tryz.prog 3 Tryz.f3 Rows.fnExactSingleUnitSpec Rows.fnExactSingleUnitRow=true:=by kernel_rfl
theorem cx5:jf2 Tryz.prog 3 Tryz.f3 Rows.fnExactSingleUnitSpec Rows.fnExactSingleUnitRow=true:=by kernel_rfl
theorem cy2:jf3 Tryz.prog 3 Tryz.f3 Rows.fnExactSingleUnitSpec Rows.fnExactSingleUnitRow=true:=by kernel_rfl
theorem ct0:jf4 Tryz.prog 3 Tryz.f3 Rows.fnExactSingleUnitSpec Rows.fnExactSingleUnitRow=true:=by kernel_rfl
theorem cv2:jf5 Tryz.prog 3 Tryz.f3 Rows.fnExactSingleUnitSpec Rows.fnExactSingleUnitRow=true:=by kernel_rfl
theorem cx4:jf6 Tryz.prog 3 Tryz.f3 Rows.fnExactSingleUnitSpec Rows.fnExactSingleUnitRow=true:=by kernel_rfl
theorem proved:Rows.FnExactSingleUnitSaid :=
 OpenClaim.holds_of_wide 3 Tryz.f3 rfl rfl rfl rfl rfl rfl rfl ⟨rfl, rfl, rfl, rfl, rfl⟩ rfl rfl rfl rfl rfl (by kernel_rfl) Tryz.func3 (cx8 cv0 cx5 cy2 ct0 cv2 cx4)
  (of_decide_eq_true (by kernel_rfl)) (by unfold Func.isWrapper;first | (rw [if_pos (by decide +kernel)];kernel_rfl) | (rw [if_neg (by decide +kernel)];exact ⟨rfl,rfl⟩))
  (λos started H enc _=>lifted os started H enc)
end Go.Proofs.YtkihhabnfheieaaGreat.fnExactSingleUnit
