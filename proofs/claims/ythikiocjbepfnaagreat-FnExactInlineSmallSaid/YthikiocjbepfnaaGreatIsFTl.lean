/- The program's InlineSmall returns what the reference's returns, for all arguments. -/
import Derived.Test.YthikiocjbepfnaaGreatRows
import Derived.Test.YthikiocjbepfnaaGreatIsWalks
import Derived.Test.YthikiocjbepfnaaGreatIsAb
import Derived.Test.YthikiocjbepfnaaGreatWkS
import Derived.JoinedCond
namespace Go.Proofs.YthikiocjbepfnaaGreat.fnExactInlineSmall
open Go Go.Wk Go.ChangeShapes Go.WideShapes Go.RowKit
set_option maxRecDepth 10000
theorem own:ownKnob Tryz.prog.godebug=none:=by kernel_rfl
theorem laidOut:laidOutB Tryz.prog=true:=by kernel_rfl
theorem op3:Opn Tryz.prog Int (λm=>(-9223372036854775808≤m∧m<9223372036854775808)) 3 :=
 op_int Tryz.underlying3
theorem op47:Opn Tryz.prog (List Int) (λm=>(m.length≤140737488351232∧∀ ym_∈m,(-9223372036854775808≤ym_∧ym_<9223372036854775808))) 47 :=
 op_list Tryz.underlying47 (by kernel_rfl) (by decide) (of_decide_eq_true (by kernel_rfl)) op3
theorem op240:Opn Tryz.prog Phi_ (λm=>((-9223372036854775808≤m.to∧m.to<9223372036854775808)∧(m.args.length≤140737488351232∧∀ ymargs_∈m.args,(-9223372036854775808≤ymargs_∧ymargs_<9223372036854775808)))) 240 :=
 by
 have hs:=op_struct Tryz.underlying240 rfl (by kernel_rfl) (opf_cons rfl (by kernel_rfl) op3 (opf_last rfl (by kernel_rfl) op47))
 exact op_map (β:=Int × (List Int)) (λb=>⟨b.1,b.2⟩) (λ_ _ _ h=>h) (λ_ h=>h) hs
theorem op155:Opn Tryz.prog (List Phi_) (λm=>(m.length≤140737488351232∧∀ ym_∈m,((-9223372036854775808≤ym_.to∧ym_.to<9223372036854775808)∧(ym_.args.length≤140737488351232∧∀ yymargs_∈ym_.args,(-9223372036854775808≤yymargs_∧yymargs_<9223372036854775808))))) 155 :=
 op_list Tryz.underlying155 (by kernel_rfl) (by decide) (of_decide_eq_true (by kernel_rfl)) op240
theorem op242:Opn Tryz.prog Ins_ (λm=>((-9223372036854775808≤m.op∧m.op<9223372036854775808)∧(-9223372036854775808≤m.to∧m.to<9223372036854775808)∧(m.args.length≤140737488351232∧∀ ymargs_∈m.args,(-9223372036854775808≤ymargs_∧ymargs_<9223372036854775808))∧(-9223372036854775808≤m.n_∧m.n_<9223372036854775808))) 242 :=
 by
 have hs:=op_struct Tryz.underlying242 rfl (by kernel_rfl) (opf_cons rfl (by kernel_rfl) op3 (opf_cons rfl (by kernel_rfl) op3 (opf_cons rfl (by kernel_rfl) op47 (opf_last rfl (by kernel_rfl) op3))))
 exact op_map (β:=Int × Int × (List Int) × Int) (λb=>⟨b.1,b.2.1,b.2.2.1,b.2.2.2⟩) (λ_ _ _ h=>h) (λ_ h=>h) hs
theorem op156:Opn Tryz.prog (List Ins_) (λm=>(m.length≤140737488351232∧∀ ym_∈m,((-9223372036854775808≤ym_.op∧ym_.op<9223372036854775808)∧(-9223372036854775808≤ym_.to∧ym_.to<9223372036854775808)∧(ym_.args.length≤140737488351232∧∀ yymargs_∈ym_.args,(-9223372036854775808≤yymargs_∧yymargs_<9223372036854775808))∧(-9223372036854775808≤ym_.n_∧ym_.n_<9223372036854775808)))) 156 :=
 op_list Tryz.underlying156 (by kernel_rfl) (by decide) (of_decide_eq_true (by kernel_rfl)) op242
theorem op158:Opn Tryz.prog Block_ (λm=>((m.phis.length≤140737488351232∧∀ ymphis_∈m.phis,((-9223372036854775808≤ymphis_.to∧ymphis_.to<9223372036854775808)∧(ymphis_.args.length≤140737488351232∧∀ yymphisargs_∈ymphis_.args,(-9223372036854775808≤yymphisargs_∧yymphisargs_<9223372036854775808))))∧(m.ins.length≤140737488351232∧∀ ymins_∈m.ins,((-9223372036854775808≤ymins_.op∧ymins_.op<9223372036854775808)∧(-9223372036854775808≤ymins_.to∧ymins_.to<9223372036854775808)∧(ymins_.args.length≤140737488351232∧∀ yyminsargs_∈ymins_.args,(-9223372036854775808≤yyminsargs_∧yyminsargs_<9223372036854775808))∧(-9223372036854775808≤ymins_.n_∧ymins_.n_<9223372036854775808)))∧(-9223372036854775808≤m.jump∧m.jump<9223372036854775808)∧(-9223372036854775808≤m.on∧m.on<9223372036854775808)∧(m.next_.length≤140737488351232∧∀ ymnext_∈m.next_,(-9223372036854775808≤ymnext_∧ymnext_<9223372036854775808)))) 158 :=
 by
 have hs:=op_struct Tryz.underlying158 rfl (by kernel_rfl) (opf_cons rfl (by kernel_rfl) op155 (opf_cons rfl (by kernel_rfl) op156 (opf_cons rfl (by kernel_rfl) op3 (opf_cons rfl (by kernel_rfl) op3 (opf_last rfl (by kernel_rfl) op47)))))
 exact op_map (β:=(List Phi_) × (List Ins_) × Int × Int × (List Int)) (λb=>⟨b.1,b.2.1,b.2.2.1,b.2.2.2.1,b.2.2.2.2⟩) (λ_ _ _ h=>h) (λ_ h=>h) hs
theorem op69:Opn Tryz.prog (List Block_) (λm=>(m.length≤140737488351232∧∀ ym_∈m,((ym_.phis.length≤140737488351232∧∀ yymphis_∈ym_.phis,((-9223372036854775808≤yymphis_.to∧yymphis_.to<9223372036854775808)∧(yymphis_.args.length≤140737488351232∧∀ yyymphisargs_∈yymphis_.args,(-9223372036854775808≤yyymphisargs_∧yyymphisargs_<9223372036854775808))))∧(ym_.ins.length≤140737488351232∧∀ yymins_∈ym_.ins,((-9223372036854775808≤yymins_.op∧yymins_.op<9223372036854775808)∧(-9223372036854775808≤yymins_.to∧yymins_.to<9223372036854775808)∧(yymins_.args.length≤140737488351232∧∀ yyyminsargs_∈yymins_.args,(-9223372036854775808≤yyyminsargs_∧yyyminsargs_<9223372036854775808))∧(-9223372036854775808≤yymins_.n_∧yymins_.n_<9223372036854775808)))∧(-9223372036854775808≤ym_.jump∧ym_.jump<9223372036854775808)∧(-9223372036854775808≤ym_.on∧ym_.on<9223372036854775808)∧(ym_.next_.length≤140737488351232∧∀ yymnext_∈ym_.next_,(-9223372036854775808≤yymnext_∧yymnext_<9223372036854775808))))) 69 :=
 op_list Tryz.underlying69 (by kernel_rfl) (by decide) (of_decide_eq_true (by kernel_rfl)) op158
theorem op71:Opn Tryz.prog Code_ (λm=>((-9223372036854775808≤m.params∧m.params<9223372036854775808)∧(-9223372036854775808≤m.regs∧m.regs<9223372036854775808)∧(m.blocks.length≤140737488351232∧∀ ymblocks_∈m.blocks,((ymblocks_.phis.length≤140737488351232∧∀ yymblocksphis_∈ymblocks_.phis,((-9223372036854775808≤yymblocksphis_.to∧yymblocksphis_.to<9223372036854775808)∧(yymblocksphis_.args.length≤140737488351232∧∀ yyymblocksphisargs_∈yymblocksphis_.args,(-9223372036854775808≤yyymblocksphisargs_∧yyymblocksphisargs_<9223372036854775808))))∧(ymblocks_.ins.length≤140737488351232∧∀ yymblocksins_∈ymblocks_.ins,((-9223372036854775808≤yymblocksins_.op∧yymblocksins_.op<9223372036854775808)∧(-9223372036854775808≤yymblocksins_.to∧yymblocksins_.to<9223372036854775808)∧(yymblocksins_.args.length≤140737488351232∧∀ yyymblocksinsargs_∈yymblocksins_.args,(-9223372036854775808≤yyymblocksinsargs_∧yyymblocksinsargs_<9223372036854775808))∧(-9223372036854775808≤yymblocksins_.n_∧yymblocksins_.n_<9223372036854775808)))∧(-9223372036854775808≤ymblocks_.jump∧ymblocks_.jump<9223372036854775808)∧(-9223372036854775808≤ymblocks_.on∧ymblocks_.on<9223372036854775808)∧(ymblocks_.next_.length≤140737488351232∧∀ yymblocksnext_∈ymblocks_.next_,(-9223372036854775808≤yymblocksnext_∧yymblocksnext_<9223372036854775808)))))) 71 :=
 by
 have hs:=op_struct Tryz.underlying71 rfl (by kernel_rfl) (opf_cons rfl (by kernel_rfl) op3 (opf_cons rfl (by kernel_rfl) op3 (opf_last rfl (by kernel_rfl) op69)))
 exact op_map (β:=Int × Int × (List Block_)) (λb=>⟨b.1,b.2.1,b.2.2⟩) (λ_ _ _ h=>h) (λ_ h=>h) hs
theorem op22:Opn Tryz.prog (List Code_) (λm=>(m.length≤140737488351232∧∀ ym_∈m,((-9223372036854775808≤ym_.params∧ym_.params<9223372036854775808)∧(-9223372036854775808≤ym_.regs∧ym_.regs<9223372036854775808)∧(ym_.blocks.length≤140737488351232∧∀ yymblocks_∈ym_.blocks,((yymblocks_.phis.length≤140737488351232∧∀ yyymblocksphis_∈yymblocks_.phis,((-9223372036854775808≤yyymblocksphis_.to∧yyymblocksphis_.to<9223372036854775808)∧(yyymblocksphis_.args.length≤140737488351232∧∀ yyyymblocksphisargs_∈yyymblocksphis_.args,(-9223372036854775808≤yyyymblocksphisargs_∧yyyymblocksphisargs_<9223372036854775808))))∧(yymblocks_.ins.length≤140737488351232∧∀ yyymblocksins_∈yymblocks_.ins,((-9223372036854775808≤yyymblocksins_.op∧yyymblocksins_.op<9223372036854775808)∧(-9223372036854775808≤yyymblocksins_.to∧yyymblocksins_.to<9223372036854775808)∧(yyymblocksins_.args.length≤140737488351232∧∀ yyyymblocksinsargs_∈yyymblocksins_.args,(-9223372036854775808≤yyyymblocksinsargs_∧yyyymblocksinsargs_<9223372036854775808))∧(-9223372036854775808≤yyymblocksins_.n_∧yyymblocksins_.n_<9223372036854775808)))∧(-9223372036854775808≤yymblocks_.jump∧yymblocks_.jump<9223372036854775808)∧(-9223372036854775808≤yymblocks_.on∧yymblocks_.on<9223372036854775808)∧(yymblocks_.next_.length≤140737488351232∧∀ yyymblocksnext_∈yymblocks_.next_,(-9223372036854775808≤yyymblocksnext_∧yyymblocksnext_<9223372036854775808))))))) 22 :=
 op_list Tryz.underlying22 (by kernel_rfl) (by decide) (of_decide_eq_true (by kernel_rfl)) op71
theorem op24:Opn Tryz.prog Unit_ (λm=>((m.codes.length≤140737488351232∧∀ ymcodes_∈m.codes,((-9223372036854775808≤ymcodes_.params∧ymcodes_.params<9223372036854775808)∧(-9223372036854775808≤ymcodes_.regs∧ymcodes_.regs<9223372036854775808)∧(ymcodes_.blocks.length≤140737488351232∧∀ yymcodesblocks_∈ymcodes_.blocks,((yymcodesblocks_.phis.length≤140737488351232∧∀ yyymcodesblocksphis_∈yymcodesblocks_.phis,((-9223372036854775808≤yyymcodesblocksphis_.to∧yyymcodesblocksphis_.to<9223372036854775808)∧(yyymcodesblocksphis_.args.length≤140737488351232∧∀ yyyymcodesblocksphisargs_∈yyymcodesblocksphis_.args,(-9223372036854775808≤yyyymcodesblocksphisargs_∧yyyymcodesblocksphisargs_<9223372036854775808))))∧(yymcodesblocks_.ins.length≤140737488351232∧∀ yyymcodesblocksins_∈yymcodesblocks_.ins,((-9223372036854775808≤yyymcodesblocksins_.op∧yyymcodesblocksins_.op<9223372036854775808)∧(-9223372036854775808≤yyymcodesblocksins_.to∧yyymcodesblocksins_.to<9223372036854775808)∧(yyymcodesblocksins_.args.length≤140737488351232∧∀ yyyymcodesblocksinsargs_∈yyymcodesblocksins_.args,(-9223372036854775808≤yyyymcodesblocksinsargs_∧yyyymcodesblocksinsargs_<9223372036854775808))∧(-9223372036854775808≤yyymcodesblocksins_.n_∧yyymcodesblocksins_.n_<9223372036854775808)))∧(-9223372036854775808≤yymcodesblocks_.jump∧yymcodesblocks_.jump<9223372036854775808)∧(-9223372036854775808≤yymcodesblocks_.on∧yymcodesblocks_.on<9223372036854775808)∧(yymcodesblocks_.next_.length≤140737488351232∧∀ yyymcodesblocksnext_∈yymcodesblocks_.next_,(-9223372036854775808≤yyymcodesblocksnext_∧yyymcodesblocksnext_<9223372036854775808)))))))) 24 :=
 by
 have hs:=op_struct Tryz.underlying24 rfl (by kernel_rfl) (opf_last rfl (by kernel_rfl) op22)
 exact op_map (β:=(List Code_)) (λb=>⟨b⟩) (λ_ _ _ h=>h) (λ_ h=>h) hs
theorem contract (H : Type) (enc : TypeId × Value → H) (W : World) (base : Nat) (args : Array Value) (ds gs : List (DataW H)) (before : List MemPlace)
  (hval:∀ (j:Nat) t v,Tryz.f4.params[j]?=some t→args[j]?=some v→Value.okWide Tryz.prog W .any base t v)
  (hW:DataW.Whole enc Tryz.prog Tryz.f4.params.toList Rows.fnExactInlineSmallSpec.vars false W args.toList ds gs before)
  (hsz:(DataW.weightsEach Tryz.prog (Tryz.f4.params.toList++Rows.fnExactInlineSmallSpec.plain.varTypes Tryz.prog) (ds++gs)).all (·≤reachBytes)=true) :
  Calls Tryz.prog 4 args W λe W'=>∃ v,e=.returned v∧Rows.fnExactInlineSmallSpec.post enc Tryz.prog Tryz.f4 false true false false W args v W':=by
 have hW':=hW
 obtain ⟨p,q,hA0,hV,rfl,hfz,hnd⟩:=hW
 have hA:DataW.TrodAll enc Tryz.prog W 0 (λ_=>true) true Tryz.f4.params.toList args.toList ds p:=hA0
 rw [Tryz.params4] at hA hval hsz
 have hwt:∀ n∈DataW.weightsEach Tryz.prog [24,3] (ds++gs),n≤reachBytes:=λn hn =>
  of_decide_eq_true (List.all_eq_true.1 hsz n hn)
 obtain ⟨v0,vs0,d0,ds0,p0,q0,hargs,rfl,rfl,h0,r0⟩:=trodAll_cons hA
 obtain ⟨v1,vs1,d1,ds1,p1,q1,rfl,rfl,rfl,h1,r1⟩:=trodAll_cons r0
 obtain ⟨rfl,rfl,rfl⟩:=trodAll_nil r1
 obtain rfl:args=#[v0,v1]:=by cases args;simp_all
 obtain ⟨rfl,rfl⟩:=trodVars_none hV
 clear hA0 hA r0 r1 hfz hnd
 simp only [List.append_nil] at hwt
 obtain ⟨m0,g0,k0⟩:=op_arg op24 h0 (λn hn=>hwt n (by simp [DataW.weightsEach,hn]))
 obtain ⟨m1,g1,k1⟩:=op_arg op3 h1 (λn hn=>hwt n (by simp [DataW.weightsEach,hn]))
 obtain ⟨c0,rfl,z0⟩:=okWide_struct Tryz.underlying24 (hval 0 24 v0 rfl rfl)
 have s1:=g0
 obtain ⟨xs1,e,-⟩:=id s1
 obtain rfl:c0=#[xs1]:=Array.ext' e
 clear e
 rw [arg_cells (by rw [Tryz.underlying3];trivial) (hval 1 3 v1 rfl rfl)] at g1
 obtain rfl:v1=(.int .i64 (m1)):=by cases g1;rfl
 have hc:=laws_FnExactInlineSmall_ok W m0 xs1 s1 m1 true (Unt.lawInlineSmall m0 m1 (⟨by have:=k0.1;omega,λc hc=>⟨by have:=(k0.2 c hc).2.2.1;omega,λb hb=>(λq=>⟨by have:=q.1.1;omega,by have:=q.2.1.1;omega,by have:=q.2.2.2.2.1;omega,λx hx=>by have:=(q.1.2 x hx).2.1;unfold Unt.LPhi;omega,λx hx=>by have:=(q.2.1.2 x hx).2.2.1.1;unfold Unt.LIns;omega⟩) ((k0.2 c hc).2.2.2 b hb)⟩⟩))
 refine hc.mono λe W' h=>?_
 cases e with
 | returned v =>
  obtain ⟨rfl,hb⟩:=h
  exact ⟨_,rfl,post_true laidOut (by rw [Tryz.params4];exact of_decide_eq_true (by kernel_rfl)) rfl Tryz.underlying4 rfl rfl hW' hb⟩
 | _=>exact h.elim
set_option maxRecDepth 100000 in
theorem lifted (os : Os) (started : os.Started) (H : Type) (enc : TypeId × Value → H) :
  ReturnsInHanded {} Tryz.checked os 4 .any (Rows.fnExactInlineSmallSpec.pre6 enc Tryz.prog Tryz.f4 Rows.fnExactInlineSmallRow.domain false) (Rows.fnExactInlineSmallSpec.post enc Tryz.prog Tryz.f4 false true false false):=by
 refine returnsInHanded_of_change_sized (C := Tryz.checked) own started (by kernel_rfl) Tryz.func4
  (ChangeSpec.witness6 (enc:=enc) (C:=Tryz.checked) false ⟨#[],#[(.agg #[(.slice none 0 0)]),(.int .i64 (0))],[]⟩ 8 (by kernel_rfl) (by kernel_rfl) (by kernel_rfl) (by kernel_rfl)) ?_
 intro W base args ds gs before hval hW _ hsz _
 exact contract H enc W base args ds gs before hval hW hsz
theorem facts1:jf1 Tryz.prog 4 Tryz.f4 Rows.fnExactInlineSmallSpec Rows.fnExactInlineSmallRow=true:=by kernel_rfl
theorem facts2:jf2 Tryz.prog 4 Tryz.f4 Rows.fnExactInlineSmallSpec Rows.fnExactInlineSmallRow=true:=by kernel_rfl
theorem facts3:jf3 Tryz.prog 4 Tryz.f4 Rows.fnExactInlineSmallSpec Rows.fnExactInlineSmallRow=true:=by kernel_rfl
theorem facts4:jf4 Tryz.prog 4 Tryz.f4 Rows.fnExactInlineSmallSpec Rows.fnExactInlineSmallRow=true:=by kernel_rfl
theorem facts5:jf5 Tryz.prog 4 Tryz.f4 Rows.fnExactInlineSmallSpec Rows.fnExactInlineSmallRow=true:=by kernel_rfl
theorem facts6:jf6 Tryz.prog 4 Tryz.f4 Rows.fnExactInlineSmallSpec Rows.fnExactInlineSmallRow=true:=by kernel_rfl
theorem proved:Rows.FnExactInlineSmallSaid :=
 OpenClaim.holds_of_wide 4 Tryz.f4 rfl rfl rfl rfl rfl rfl rfl ⟨rfl, rfl, rfl, rfl, rfl⟩ rfl rfl rfl rfl rfl (by kernel_rfl) Tryz.func4 (jf_all facts1 facts2 facts3 facts4 facts5 facts6)
  (of_decide_eq_true (by kernel_rfl)) (by unfold Func.isWrapper;first | (rw [if_pos (by decide +kernel)];kernel_rfl) | (rw [if_neg (by decide +kernel)];exact ⟨rfl,rfl⟩))
  (λos started H enc _=>lifted os started H enc)
end Go.Proofs.YthikiocjbepfnaaGreat.fnExactInlineSmall
