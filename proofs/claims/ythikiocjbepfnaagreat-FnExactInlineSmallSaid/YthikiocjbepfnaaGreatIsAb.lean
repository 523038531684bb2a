/- A part of the proof of FnExactInlineSmallSaid. -/
import Derived.Test.YthikiocjbepfnaaGreatIsA
namespace Go.Wk
open Go
namespace Unt
set_option maxRecDepth 10000
theorem compact_id {zs:List Int} (h:zs.Pairwise (·<·)):Lib.compact zs=zs:=by
 unfold Lib.compact Lib.compactUpTo
 have hk:(List.range zs.length).filter (Lib.keeps zs.toArray)=List.range zs.length:=List.filter_eq_self.2 λj hj=>by
  have hj:=List.mem_range.1 hj
  by_cases e:j=0
  ·subst e;simp [Lib.keeps]
  ·refine Lib.keeps_pos ?_
   rw [getB hj,getB (show j - 1<zs.length by omega)]
   have:=(List.pairwise_iff_getElem.1 h) (j - 1) j (by omega) hj (by omega)
   omega
 rw [hk]
 apply List.ext_getElem?
 intro k
 by_cases hk:k<zs.length
 ·rw [List.getElem?_map,List.getElem?_range hk,Option.map_some,getB hk,List.getElem?_eq_getElem hk]
 ·rw [List.getElem?_eq_none (by simp;omega),List.getElem?_eq_none (by omega)]
theorem sortI_strict {l:List Int} (hn:l.Nodup):(sortI l).Pairwise (·<·):=by
 have tr:∀ a b c:Int,decide (a≤b)=true→decide (b≤c)=true→decide (a≤c)=true:=λa b c h1 h2=>by simp at *;omega
 have tt:∀ a b:Int,(decide (a≤b)||decide (b≤a))=true:=λa b=>by simp;omega
 have h1:(sortI l).Pairwise (λa b=>decide (a≤b)=true):=List.pairwise_mergeSort tr tt l
 have h2:(sortI l).Nodup:=(List.mergeSort_perm l _).nodup_iff.2 hn
 exact (h1.and h2).imp λ{a b} h=>by
  have h3:a≤b:=by simpa using h.1
  have h4:a≠b:=h.2
  omega
theorem sortI_mem {l:List Int} {x:Int}:x∈sortI l↔x∈l:=(List.mergeSort_perm l _).mem_iff
theorem once_I {u:Unit_} {k:Int} {c:Code_} (hck:COk u k c) {b:Int} {x:Block_} (hx:getI c.blocks b=some x):∃ l,impl_once x.next_=some l∧l.Nodup∧∀ y,y∈l↔y∈x.next_:=by
 have hgo:∀ l:List Int,l.length≤2→l.Nodup→∃ l',impl_once l=some l'∧l'.Nodup∧∀ y,y∈l'↔y∈l:=λl hl hn=>by
  unfold impl_once
  rw [cloneInt_ok _ (by omega),obS,compact_id (sortI_strict hn)]
  exact ⟨_,rfl,(sortI_strict hn).imp λh=>by omega,λy=>sortI_mem⟩
 rcases next_shape hck hx with e | ⟨p,e⟩ | ⟨p,e⟩ | ⟨p,q,hpq,e⟩
 ·rw [e];exact hgo [] (by simp) .nil
 ·rw [e];exact hgo [p] (by simp) (by simp)
 ·rw [e]
  unfold impl_once
  rw [cloneInt_ok _ (by simp),obS,compact_twice]
  exact ⟨_,rfl,by simp,λy=>by simp⟩
 ·rw [e];exact hgo [p,q] (by simp) (by simp [hpq])
theorem regs_I {u:Unit_} {k:Int} {c:Code_} (hck:COk u k c):∀ x∈c.blocks,RegsB (λr=>0≤r∧r<c.regs) x:=λx hx=>by
 obtain ⟨b,hb⟩:=blkOf hx
 have hbo:=hck.bok hb
 refine ⟨λp hp=>⟨(hbo.phis p hp).2.1,(hbo.phis p hp).2.2.2⟩,λy hy=>?_,λhj=>?_,?_⟩
 ·have hi := iok (hbo.ins y hy)
  refine ⟨λhm=>?_,hi.args⟩
  refine hi.to (λe=>?_) λe=>?_
  ·rw [e] at hm;exact absurd hm (by decide)
  ·rw [e] at hm;exact absurd hm (by decide)
 ·rcases hbo.jump with h | h | h
  ·exact absurd h.1 hj
  ·exact h.2.2
  ·exact h.2.2
 ·rcases hbo.jump with h | h | h
  ·exact .inl h.1
  ·exact .inr (.inl h.1)
  ·exact .inr (.inr h.1)
theorem appIdx {α β : Type} {body : Int → List α → Option (List α ⊕ Empty)} (g : Nat → β → α) {xs : List β} {base : List α} (hl : base.length + xs.length ≤ 2147483648)
  (hb:∀ (l:List β) x r (s:List α),xs=l++x::r→s.length+1≤2147483648→body (l.length:Int) s=some (.inl (s++[g l.length x]))) :
  forN body ((xs.length:Int) - 0).toNat 0 base=some (.inl (base++xs.mapIdx g)):=by
 rcases forN_list (xs:=xs) (body:=body) (s:=base) (λl s=>s=base++l.mapIdx g) (λ_=>False) (by simp) (λl x r s he hI=>by
  have hlen:=congrArg List.length he
  simp at hlen
  subst hI
  refine .inl ⟨_,hb l x r _ he (by simp;omega),?_⟩
  rw [List.mapIdx_concat,List.append_assoc]) with ⟨s,h1,rfl⟩ | ⟨_,_,h⟩
 ·exact h1
 ·exact h.elim
theorem appFlat {α β : Type} {body : Int → List α → Option (List α ⊕ Empty)} (p : β → Bool) (g : β → α) {xs : List β} {base : List α} (hl : base.length + xs.length ≤ 2147483648)
  (hb:∀ (l:List β) x r (s:List α),xs=l++x::r→s.length+1≤2147483648→body (l.length:Int) s=some (.inl (if p x then s++[g x] else s))) :
  forN body ((xs.length:Int) - 0).toNat 0 base=some (.inl (base++(xs.filter p).map g)):=by
 rcases forN_list (xs:=xs) (body:=body) (s:=base) (λl s=>s=base++(l.filter p).map g) (λ_=>False) (by simp) (λl x r s he hI=>by
  have hlen:=congrArg List.length he
  simp at hlen
  subst hI
  refine .inl ⟨_,hb l x r _ he (by have:=List.length_filter_le p l;simp;omega),?_⟩
  cases hp:p x<;>simp [hp]) with ⟨s,h1,rfl⟩ | ⟨_,_,h⟩
 ·exact h1
 ·exact h.elim
theorem zeros_spec {c f : Code_} {need : List Bool} (hn : (need.length : Int) = f.regs) (hr : f.regs ≤ 300) (hcr : 0 ≤ c.regs ∧ c.regs ≤ 300) : ∀ (n : Nat) (r : Int) (s : List Ins_), 0 ≤ r → f.regs - r ≤ n → s.length + n ≤ 2147483648 →
  ∃ zl:List Int,loopM (λ(xs2_2:(List Ins_) × Int)=>(if decide (xs2_2.2<f.regs) then Option.bind (Option.bind (getI need xs2_2.2) λx3_1=>Option.bind (if x3_1 then Option.bind (appM xs2_2.1 ([(⟨1,w64 (c.regs+xs2_2.2),([]:List Int),0⟩:Ins_)]:List Ins_)) λys4_1=>some ys4_1 else some xs2_2.1:Option ((List Ins_))) λs3_1=>some s3_1:Option ((List Ins_))) λs2_1=>some (.inl (s2_1,w64 (xs2_2.2+1))) else some (.inr xs2_2.1):Option (((List Ins_) × Int) ⊕ ((List Ins_))))) (s,r)=some (s++zrI c.regs zl)∧zl.Pairwise (·<·)∧∀ q,q∈zl↔r≤q∧q<f.regs∧HasB need q:=by
 intro n
 induction n with
 | zero =>
  intro r s h0 h1 h2
  refine ⟨[],?_,.nil,λq=>⟨λh=>by simp at h,λh=>by omega⟩⟩
  refine loopM_inr ?_
  dsimp only
  rw [if_neg (by simp;omega)]
  simp [zrI]
 | succ n ih =>
  intro r s h0 h1 h2
  by_cases hlt:r<f.regs
  ·obtain ⟨v, hv, hv2, _⟩ := getI_in (xs := need) (j := r) h0 (by omega)
   have hw:w64 (c.regs+r)=c.regs+r:=w64_id (by omega) (by omega)
   have hw1:w64 (r+1)=r+1:=w64_id (by omega) (by omega)
   cases v with
   | false =>
    obtain ⟨zl,e1,e2,e3⟩:=ih (r+1) s (by omega) (by omega) (by omega)
    refine ⟨zl,?_,e2,λq=>?_⟩
    ·rw [loopM_inl (s' := (s, r + 1))]
     ·exact e1
     ·dsimp only
      rw [if_pos (by simpa using hlt),hv,obS,if_neg (by decide),obS,obS,hw1]
    ·rw [e3]
     constructor
     ·rintro ⟨a,b,d⟩;exact ⟨by omega,b,d⟩
     ·rintro ⟨a, b, d⟩
      refine ⟨?_,b,d⟩
      rcases Int.lt_or_eq_of_le a with h | h
      ·omega
      ·subst h
       unfold HasB at d
       rw [hv] at d;cases d
   | true =>
    obtain ⟨zl,e1,e2,e3⟩:=ih (r+1) (s++[⟨1,c.regs+r,[],0⟩]) (by omega) (by omega) (by simp;omega)
    refine ⟨r::zl,?_,List.pairwise_cons.2 ⟨λq hq=>by have:=(e3 q).1 hq;omega,e2⟩,λq=>?_⟩
    ·rw [loopM_inl (s' := (s ++ [⟨1, c.regs + r, [], 0⟩], r + 1))]
     ·rw [e1];simp [zrI]
     ·dsimp only
      rw [if_pos (by simpa using hlt),hv,obS,if_pos rfl,appM_ok (by simp;omega),obS,obS,obS,hw,hw1]
    ·rw [List.mem_cons, e3]
     constructor
     ·rintro (h | ⟨a, b, d⟩)
      ·subst h;exact ⟨by omega,hlt,hv⟩
      ·exact ⟨by omega,b,d⟩
     ·rintro ⟨a, b, d⟩
      rcases Int.lt_or_eq_of_le a with h | h
      ·exact .inr ⟨by omega,b,d⟩
      ·exact .inl h.symm
  ·refine ⟨[], ?_, .nil, fun q => ⟨fun h => by simp at h, fun h => by omega⟩⟩
   refine loopM_inr ?_
   dsimp only
   rw [if_neg (by simpa using hlt)]
   simp [zrI]
theorem zeros_both {u : Unit_} {m : Int} {f : Code_} (hfk : COk u m f) (hsz : ∀ x ∈ f.blocks, x.phis.length ≤ 1048576 ∧ x.ins.length ≤ 1048576) (c : Code_) (hcr : 0 ≤ c.regs ∧ c.regs ≤ 300) {s : List Ins_} (hs : s.length ≤ 100000000) :
  ∃ L M li lo need zl, impl_liveOf f = some L ∧ getI L.ins 0 = some M ∧ impl_sortedKeys_bool M = some M.keys ∧ spec_l12Live f = some ⟨li, lo⟩ ∧ getI li 0 = some need ∧
   forN (λ(i1_2:Int) (xs1_2:(List Ins_))=>(Option.bind (Option.bind (getI M.keys i1_2) λx2_1=>Option.bind (if decide (f.params≤x2_1) then Option.bind (appM xs1_2 ([(⟨1,w64 (c.regs+x2_1),[],0⟩:Ins_)]:List Ins_)) λys3_1=>some ys3_1 else some xs1_2:Option ((List Ins_))) λs2_1=>some s2_1:Option ((List Ins_))) λs1_1=>some (.inl s1_1):Option (((List Ins_)) ⊕ (Empty)))) (((M.keys.length:Int):Int) - 0).toNat 0 s=some (.inl (s++zrI c.regs zl))∧loopM (λ(xs2_2:(List Ins_) × Int)=>(if decide (xs2_2.2<f.regs) then Option.bind (Option.bind (getI need xs2_2.2) λx3_1=>Option.bind (if x3_1 then Option.bind (appM xs2_2.1 ([(⟨1,w64 (c.regs+xs2_2.2),([]:List Int),0⟩:Ins_)]:List Ins_)) λys4_1=>some ys4_1 else some xs2_2.1:Option ((List Ins_))) λs3_1=>some s3_1:Option ((List Ins_))) λs2_1=>some (.inl (s2_1,w64 (xs2_2.2+1))) else some (.inr xs2_2.1):Option (((List Ins_) × Int) ⊕ ((List Ins_))))) (s,f.params)=some (s++zrI c.regs zl)∧(∀ q∈zl,f.params≤q∧q<f.regs)∧zl.length≤300:=by
 have hfr:=hfk.regs
 have hfp:=hfk.params
 have hfb:=hfk.nb
 obtain ⟨ins,preds,li,lo,h1,g1,h2,g2,h3,_,_⟩:=live_code hfk hsz
 obtain ⟨M,hM,_⟩:=getI_in (xs:=ins) (j:=0) (by omega) (by rw [h2.len];omega)
 obtain ⟨need,hn,_⟩:=getI_in (xs:=li) (j:=0) (by omega) (by rw [g2.li];omega)
 have hhas:∀ r,M.Has r↔HasB need r:=λr=>by
  have:=h3 0 r
  constructor
  ·intro h
   obtain ⟨l,a1,a2⟩:=this.1 ⟨M,hM,h⟩
   rw [hn] at a1;cases a1;exact a2
  ·intro h
   obtain ⟨l,a1,a2⟩:=this.2 ⟨need,hn,h⟩
   rw [hM] at a1;cases a1;exact a2
 have hreg:∀ r,M.Has r→0≤r∧r<f.regs:=λr hr=>h2.reg 0 r ⟨M,hM,hr⟩
 have hkl:M.keys.length≤300:=Nat.le_trans (MapS.len_le (m:=M) (n:=f.regs.toNat) λr hr=>by have:=hreg r hr;omega) (by omega)
 have hnl:=g2.ri 0 need hn
 obtain ⟨zl,e1,e2,e3⟩:=zeros_spec (c:=c) (f:=f) (need:=need) hnl hfr.2 hcr 300 f.params s (by omega) (by omega) (by omega)
 have hf:=appFlat (body:=(λ(i1_2:Int) (xs1_2:(List Ins_))=>(Option.bind (Option.bind (getI M.keys i1_2) λx2_1=>Option.bind (if decide (f.params≤x2_1) then Option.bind (appM xs1_2 ([(⟨1,w64 (c.regs+x2_1),[],0⟩:Ins_)]:List Ins_)) λys3_1=>some ys3_1 else some xs1_2:Option ((List Ins_))) λs2_1=>some s2_1:Option ((List Ins_))) λs1_1=>some (.inl s1_1):Option (((List Ins_)) ⊕ (Empty))))) (λr:Int=>decide (f.params≤r)) (λr=>(⟨1,c.regs+r,[],0⟩:Ins_)) (xs:=M.keys) (base:=s) (by omega) (λl r rs t he ht=>by
  have hrm:M.Has r:=by show r∈M.keys;rw [he];simp
  have:=hreg r hrm
  have hw:w64 (c.regs+r)=c.regs+r:=w64_id (by omega) (by omega)
  rw [show getI M.keys (l.length:Int)=some r by rw [he];exact getI_mid,obS]
  by_cases hp:f.params≤r
  ·have e : decide (f.params ≤ r) = true := by simpa using hp
   simp only [e,if_true]
   rw [appM_ok (by simpa using ht),obS,obS,obS,hw]
  ·simp only [hp,decide_false,Bool.false_eq_true,if_false,obS])
 have hz:M.keys.filter (λr:Int=>decide (f.params≤r))=zl:=sorted_eq (M.keys_sorted.filter _) e2 λr=>by
  rw [List.mem_filter,e3,decide_eq_true_eq,← hhas]
  constructor
  ·rintro ⟨a, b⟩
   have ha:M.Has r:=a
   exact ⟨b,(hreg r ha).2,ha⟩
  ·rintro ⟨a,_,b⟩;exact ⟨b,a⟩
 rw [hz] at hf
 refine ⟨_,M,li,lo,need,zl,h1,hM,?_,g1,hn,hf,e1,λq hq=>by have:=(e3 q).1 hq;omega,?_⟩
 ·unfold impl_sortedKeys_bool
  exact keysM_ok (by omega)
 ·rw [← hz]
  exact Nat.le_trans (List.length_filter_le _ _) hkl
end Unt
end Go.Wk
namespace Go.Wk
open Go
namespace Unt
set_option maxRecDepth 10000
section
variable {u:Unit_} {k m:Int} {c f:Code_} (hck:COk u k c) (hfk:COk u m f) (hfs:∀ b∈f.blocks,SmB b) {Y:Ins_}
include hck hfk hfs
omit hfs in
theorem nexts_I {y:Block_} {q:Int} (hy:getI f.blocks q=some y) {body:Int→List Int→Option (List Int ⊕ Empty)} (hb:body=λj xs=>Option.bind (getI xs j) λx=>some (.inl (xs.set j.toNat (w64 (x+(c.blocks.length:Int)))))):forN body (((y.next_.length:Int):Int) - 0).toNat 0 y.next_=some (.inl (y.next_.map (·+(c.blocks.length:Int)))):=by
 subst hb
 have hnb:=hck.nb
 have hfb:=hfk.nb
 have hbo:=hfk.bok hy
 exact updLoop (g:=(·+(c.blocks.length:Int))) λl z r hz=>by
  have:=hbo.next z hz
  rw [getI_mid,obS,Int.toNat_natCast,set_mid,w64_id (by omega) (by omega)]
theorem blocks_impl {base:List Block_} (hbl:base.length=c.blocks.length):forN (λ(i1_3:Int) (xs1_3:(List Block_))=>(Option.bind (getI f.blocks i1_3) λx1_3=>Option.bind (forN (S:=(List Int)) (X:=Empty) (λi2_1 xs2_1=>Option.bind (getI xs2_1 i2_1) λx2_2=>some (.inl (xs2_1.set (i2_1).toNat (w64 (x2_2+((c.blocks.length:Int))))))) (((x1_3.next_.length:Int):Int) - 0).toNat 0 x1_3.next_) (Sum.elim (λxs1_4=>Option.bind (impl_eachReg (λy0=>impl_inlined_1 y0 c.regs) (⟨0,0,([(⟨x1_3.phis,x1_3.ins,x1_3.jump,x1_3.on,xs1_4⟩:Block_)]:List Block_)⟩:Code_)) λr1_2=>Option.bind (getI r1_2 0) λy1_1=>Option.bind (if decide (x1_3.jump=3) then Option.bind (getI f.blocks (((xs1_3.length:Int)) - ((c.blocks.length:Int)))) λx2_3=>Option.bind (appM y1_1.ins ([(⟨2,Y.to,([w64 (x2_3.on+c.regs)]:List Int),0⟩:Ins_)]:List Ins_)) λys2_1=>some (ys2_1,1,0,([((c.blocks.length:Int))+((f.blocks.length:Int))]:List Int)) else Option.bind (if decide (x1_3.jump=2) then Option.bind (getI f.blocks (((xs1_3.length:Int)) - ((c.blocks.length:Int)))) λx3_1=>some (w64 (x3_1.on+c.regs)) else some x1_3.on:Option (Int)) λs2_2=>some (y1_1.ins,x1_3.jump,s2_2,y1_1.next_):Option ((List Ins_) × Int × Int × (List Int))) λs1_2=>Option.bind (appM xs1_3 ([(⟨y1_1.phis,s1_2.1,s1_2.2.1,s1_2.2.2.1,s1_2.2.2.2⟩:Block_)]:List Block_)) λys1_2=>some (.inl ys1_2)) (λ(e0:Empty)=>nomatch e0)):Option (((List Block_)) ⊕ (Empty)))) (((f.blocks.length:Int):Int) - 0).toNat 0 base=some (.inl (base++f.blocks.map (nbI c.regs (c.blocks.length:Int) (rsI c f) Y.to))):=by
 have hnb:=hck.nb
 have hcr:=hck.regs
 have hfb:=hfk.nb
 have hfr:=hfk.regs
 rcases forN_list (xs:=f.blocks) (body:=(λ(i1_3:Int) (xs1_3:(List Block_))=>(Option.bind (getI f.blocks i1_3) λx1_3=>Option.bind (forN (S:=(List Int)) (X:=Empty) (λi2_1 xs2_1=>Option.bind (getI xs2_1 i2_1) λx2_2=>some (.inl (xs2_1.set (i2_1).toNat (w64 (x2_2+((c.blocks.length:Int))))))) (((x1_3.next_.length:Int):Int) - 0).toNat 0 x1_3.next_) (Sum.elim (λxs1_4=>Option.bind (impl_eachReg (λy0=>impl_inlined_1 y0 c.regs) (⟨0,0,([(⟨x1_3.phis,x1_3.ins,x1_3.jump,x1_3.on,xs1_4⟩:Block_)]:List Block_)⟩:Code_)) λr1_2=>Option.bind (getI r1_2 0) λy1_1=>Option.bind (if decide (x1_3.jump=3) then Option.bind (getI f.blocks (((xs1_3.length:Int)) - ((c.blocks.length:Int)))) λx2_3=>Option.bind (appM y1_1.ins ([(⟨2,Y.to,([w64 (x2_3.on+c.regs)]:List Int),0⟩:Ins_)]:List Ins_)) λys2_1=>some (ys2_1,1,0,([((c.blocks.length:Int))+((f.blocks.length:Int))]:List Int)) else Option.bind (if decide (x1_3.jump=2) then Option.bind (getI f.blocks (((xs1_3.length:Int)) - ((c.blocks.length:Int)))) λx3_1=>some (w64 (x3_1.on+c.regs)) else some x1_3.on:Option (Int)) λs2_2=>some (y1_1.ins,x1_3.jump,s2_2,y1_1.next_):Option ((List Ins_) × Int × Int × (List Int))) λs1_2=>Option.bind (appM xs1_3 ([(⟨y1_1.phis,s1_2.1,s1_2.2.1,s1_2.2.2.1,s1_2.2.2.2⟩:Block_)]:List Block_)) λys1_2=>some (.inl ys1_2)) (λ(e0:Empty)=>nomatch e0)):Option (((List Block_)) ⊕ (Empty))))) (s:=base) (λl s=>s=base++l.map (nbI c.regs (c.blocks.length:Int) (rsI c f) Y.to)) (λ_=>False) (by simp) (λl y r s he hI=>by
  have hlen:=congrArg List.length he
  simp at hlen
  subst hI
  left
  have hym:y∈f.blocks:=by rw [he];simp
  have hy:getI f.blocks (l.length:Int)=some y:=by rw [he];exact getI_mid
  have hbo:=hfk.bok hy
  have hsy:=hfs y hym
  have hrg:=regs_I hfk y hym
  refine ⟨_,?_,by rw [List.map_append,List.map_singleton,← List.append_assoc]⟩
  rw [hy,obS]
  refine bindt (nexts_I hck hfk hy rfl) ?_
  rw [Sum.elim_inl]
  have heach:=each_impl (f:=λy0=>impl_inlined_1 y0 c.regs) (g:=(·+c.regs)) (Q:=λr=>0≤r∧r<f.regs) (λx hx=>by
   unfold impl_inlined_1
   rw [w64_id (by omega) (by omega)]) (⟨0,0,[⟨y.phis,y.ins,y.jump,y.on,y.next_.map (·+(c.blocks.length:Int))⟩]⟩:Code_) (λx hx=>by
   rw [List.mem_singleton.1 hx]
   exact ⟨hrg.phis,hrg.ins,hrg.on,hrg.jump⟩)
  rw [heach,obS]
  have hg0:getI (List.map (mapBlk λx=>x+c.regs) [(⟨y.phis,y.ins,y.jump,y.on,y.next_.map (·+(c.blocks.length:Int))⟩:Block_)]) 0=some (mapBlk (λx=>x+c.regs) ⟨y.phis,y.ins,y.jump,y.on,y.next_.map (·+(c.blocks.length:Int))⟩):=rfl
  rw [hg0,obS]
  have hidx:getI f.blocks ((((base++l.map (nbI c.regs (c.blocks.length:Int) (rsI c f) Y.to)).length:Int)) - (c.blocks.length:Int))=some y:=by
   rw [show (((base++l.map (nbI c.regs (c.blocks.length:Int) (rsI c f) Y.to)).length:Int)) - (c.blocks.length:Int)=(l.length:Int) by rw [List.length_append,List.length_map];omega]
   exact hy
  have hil:=hsy.ins
  have hfin:∀ z:Block_,appM (base++l.map (nbI c.regs (c.blocks.length:Int) (rsI c f) Y.to)) [z]=some (base++l.map (nbI c.regs (c.blocks.length:Int) (rsI c f) Y.to)++[z]):=λz=>appM_ok (by rw [List.length_append,List.length_map,List.length_singleton];omega)
  by_cases h3:y.jump=3
  ·have hon := hrg.on (by omega)
   have hw:w64 (y.on+c.regs)=y.on+c.regs:=w64_id (by omega) (by omega)
   rw [if_pos (by simpa using h3),hidx,obS,appM_ok (by show ((y.ins.map _).length+1:Nat)≤_;rw [List.length_map];omega),obS,obS,hfin,obS,hw]
   congr 3
   unfold nbI
   rw [if_pos h3]
   rfl
  ·rw [if_neg (by simpa using h3)]
   by_cases h2:y.jump=2
   ·have hon := hrg.on (by omega)
    have hw:w64 (y.on+c.regs)=y.on+c.regs:=w64_id (by omega) (by omega)
    rw [if_pos (by simpa using h2),hidx,obS,obS,obS,hfin,obS,hw]
    congr 3
    unfold nbI
    rw [if_neg h3,if_pos h2]
    rfl
   ·rw [if_neg (by simpa using h2), obS, obS, hfin, obS]
    congr 3
    unfold nbI
    rw [if_neg h3,if_neg h2]
    rfl) with ⟨s,h1,rfl⟩ | ⟨_,_,h⟩
 ·exact h1
 ·exact h.elim
theorem blocks_spec {F:Code_} (hF:F.blocks=f.blocks.map (mapBlk (·+c.regs))) {base:List Block_} (hbl:base.length=c.blocks.length):forN (λ(i1_2:Int) (xs1_2:(List Block_))=>(Option.bind (getI F.blocks i1_2) λx1_1=>Option.bind (forN (S:=(List Int)) (X:=Empty) (λi2_1 xs2_1=>Option.bind (getI xs2_1 i2_1) λx2_1=>some (.inl (xs2_1.set (i2_1).toNat (w64 (x2_1+((c.blocks.length:Int))))))) (((x1_1.next_.length:Int):Int) - 0).toNat 0 x1_1.next_) (Sum.elim (λxs1_3=>Option.bind (if decide (x1_1.jump=3) then Option.bind (appM x1_1.ins ([(⟨2,Y.to,([x1_1.on]:List Int),0⟩:Ins_)]:List Ins_)) λys2_1=>some (ys2_1,1,0,([((c.blocks.length:Int))+((f.blocks.length:Int))]:List Int)) else some (x1_1.ins,x1_1.jump,x1_1.on,xs1_3):Option ((List Ins_) × Int × Int × (List Int))) λs1_1=>Option.bind (appM xs1_2 ([(⟨x1_1.phis,s1_1.1,s1_1.2.1,s1_1.2.2.1,s1_1.2.2.2⟩:Block_)]:List Block_)) λys1_2=>some (.inl ys1_2)) (λ(e0:Empty)=>nomatch e0)):Option (((List Block_)) ⊕ (Empty)))) (((F.blocks.length:Int):Int) - 0).toNat 0 base=some (.inl (base++f.blocks.map (nbI c.regs (c.blocks.length:Int) (rsI c f) Y.to))):=by
 have hnb:=hck.nb
 have hcr:=hck.regs
 have hfb:=hfk.nb
 have hfr:=hfk.regs
 have hFl:F.blocks.length=f.blocks.length:=by rw [hF,List.length_map]
 rw [hFl]
 rcases forN_list (xs:=f.blocks) (body:=(λ(i1_2:Int) (xs1_2:(List Block_))=>(Option.bind (getI F.blocks i1_2) λx1_1=>Option.bind (forN (S:=(List Int)) (X:=Empty) (λi2_1 xs2_1=>Option.bind (getI xs2_1 i2_1) λx2_1=>some (.inl (xs2_1.set (i2_1).toNat (w64 (x2_1+((c.blocks.length:Int))))))) (((x1_1.next_.length:Int):Int) - 0).toNat 0 x1_1.next_) (Sum.elim (λxs1_3=>Option.bind (if decide (x1_1.jump=3) then Option.bind (appM x1_1.ins ([(⟨2,Y.to,([x1_1.on]:List Int),0⟩:Ins_)]:List Ins_)) λys2_1=>some (ys2_1,1,0,([((c.blocks.length:Int))+((f.blocks.length:Int))]:List Int)) else some (x1_1.ins,x1_1.jump,x1_1.on,xs1_3):Option ((List Ins_) × Int × Int × (List Int))) λs1_1=>Option.bind (appM xs1_2 ([(⟨x1_1.phis,s1_1.1,s1_1.2.1,s1_1.2.2.1,s1_1.2.2.2⟩:Block_)]:List Block_)) λys1_2=>some (.inl ys1_2)) (λ(e0:Empty)=>nomatch e0)):Option (((List Block_)) ⊕ (Empty))))) (s:=base) (λl s=>s=base++l.map (nbI c.regs (c.blocks.length:Int) (rsI c f) Y.to)) (λ_=>False) (by simp) (λl y r s he hI=>by
  have hlen:=congrArg List.length he
  simp at hlen
  subst hI
  left
  have hym:y∈f.blocks:=by rw [he];simp
  have hy:getI f.blocks (l.length:Int)=some y:=by rw [he];exact getI_mid
  have hyF:getI F.blocks (l.length:Int)=some (mapBlk (·+c.regs) y):=by
   rw [hF,he,List.map_append,List.map_cons]
   have:=getI_mid (l:=l.map (mapBlk (·+c.regs))) (x:=mapBlk (·+c.regs) y) (r:=r.map (mapBlk (·+c.regs)))
   rwa [List.length_map] at this
  have hbo:=hfk.bok hy
  have hsy:=hfs y hym
  have hrg:=regs_I hfk y hym
  refine ⟨_,?_,by rw [List.map_append,List.map_singleton,← List.append_assoc]⟩
  rw [hyF,obS]
  rw [show (mapBlk (·+c.regs) y).next_=y.next_ from rfl]
  refine bindt (nexts_I hck hfk hy rfl) ?_
  rw [Sum.elim_inl]
  have hil:=hsy.ins
  have hfin:∀ z:Block_,appM (base++l.map (nbI c.regs (c.blocks.length:Int) (rsI c f) Y.to)) [z]=some (base++l.map (nbI c.regs (c.blocks.length:Int) (rsI c f) Y.to)++[z]):=λz=>appM_ok (by rw [List.length_append,List.length_map,List.length_singleton];omega)
  have hjmp:(mapBlk (·+c.regs) y).jump=y.jump:=rfl
  by_cases h3:y.jump=3
  ·rw [if_pos (by rw [hjmp]; simpa using h3), appM_ok (by show ((y.ins.map _).length + 1 : Nat) ≤ _; rw [List.length_map]; omega), obS, obS, hfin, obS]
   congr 3
   unfold nbI
   rw [if_pos h3]
   unfold mapBlk
   rw [if_neg (by omega)]
   rfl
  ·rw [if_neg (by rw [hjmp]; simpa using h3), obS, hfin, obS]
   congr 3
   unfold nbI
   rw [if_neg h3]
   unfold mapBlk
   rcases hrg.jump with h | h | h
   ·rw [if_pos h,if_neg (by omega)]
   ·rw [if_neg (by omega),if_pos h]
   ·exact absurd h h3) with ⟨s,h1,rfl⟩ | ⟨_,_,h⟩
 ·exact h1
 ·exact h.elim
end
theorem to_spec {c:Code_} (hcr:0≤c.regs∧c.regs≤300) {n:Int} (h0:0≤n) (h1:n≤300):∃ to,forN (λ(i1_1:Int) (xs1_1:(List Int))=>(Option.bind (appM xs1_1 ([w64 (i1_1+c.regs)]:List Int)) λys1_1=>some (.inl ys1_1):Option (((List Int)) ⊕ (Empty)))) ((n:Int) - 0).toNat 0 ([]:List Int)=some (.inl to)∧∀ r,0≤r∧r<n→getI to r=some (r+c.regs):=by
 obtain ⟨to,e1,e2,e3⟩:=forN_keep (body:=(λ(i1_1:Int) (xs1_1:(List Int))=>(Option.bind (appM xs1_1 ([w64 (i1_1+c.regs)]:List Int)) λys1_1=>some (.inl ys1_1):Option (((List Int)) ⊕ (Empty))))) (k:=((n:Int) - 0).toNat) (i:=0) (s:=([]:List Int)) (λj s=>(s.length:Int)=j∧∀ q:Nat,(q:Int)<j→s[q]?=some ((q:Int)+c.regs)) ⟨rfl,λq h=>by omega⟩ (λj s j0 j1 hI=>by
  obtain ⟨i1,i2⟩:=hI
  refine ⟨s++[j+c.regs],?_,by simp;omega,λq hq=>?_⟩
  ·rw [w64_id (by omega) (by omega),appM_ok (by simp;omega),obS]
  ·by_cases e : (q : Int) < j
   ·rw [List.getElem?_append_left (by omega)];exact i2 q e
   ·rw [List.getElem?_append_right (by omega),show q - s.length=0 by omega,show (q:Int)=j by omega];rfl)
 refine ⟨to,e1,λr hr=>getI_some.2 ⟨hr.1,?_⟩⟩
 have:=e3 r.toNat (by omega)
 rwa [show ((r.toNat:Nat):Int)=r by omega] at this
end Unt
end Go.Wk
namespace Go.Wk
open Go
namespace Unt
set_option maxRecDepth 10000
theorem sub_all {α:Type} {xs:List α} {lo:Int} (h0:0≤lo) (h1:lo≤(xs.length:Int)):subM xs lo (xs.length:Int)=some (xs.drop lo.toNat) :=
 subM_some.2 ⟨⟨h0,h1,Int.le_refl _⟩,by rw [Int.toNat_natCast,List.take_length]⟩
theorem sub_fst {α:Type} {xs:List α} {hi:Int} (h0:0≤hi) (h1:hi≤(xs.length:Int)):subM xs 0 hi=some (xs.take hi.toNat) :=
 subM_some.2 ⟨⟨Int.le_refl _,h0,h1⟩,by simp⟩
theorem fitOk {n:Int} (h:n≤300):fitI n=some ():=fitI_some.2 (by omega)
section
variable {u:Unit_} {k m:Int} {c f:Code_} (hck:COk u k c) (hfk:COk u m f) (hcs:∀ b∈c.blocks,SmB b) (hfs:∀ b∈f.blocks,SmB b) {b i:Nat} {X:Block_} {Y:Ins_} (hX:c.blocks[b]?=some X) (hY:X.ins[i]?=some Y)
include hck hfk hcs hfs hX hY
omit hfk hfs in
theorem args_both {s:List Ins_} (hs:s.length+Y.args.length≤2147483648):forN (λ(i1_1:Int) (xs1_1:(List Ins_))=>(Option.bind (getI Y.args i1_1) λx1_2=>Option.bind (appM xs1_1 ([(⟨2,w64 (c.regs+i1_1),([x1_2]:List Int),0⟩:Ins_)]:List Ins_)) λys1_1=>some (.inl ys1_1):Option (((List Ins_)) ⊕ (Empty)))) (((Y.args.length:Int):Int) - 0).toNat 0 s=some (.inl (s++cpI c.regs Y.args))∧forN (λ(i1_4:Int) (xs1_4:(List Ins_))=>(Option.bind (getI Y.args i1_4) λx1_3=>Option.bind (appM xs1_4 ([(⟨2,w64 (c.regs+i1_4),([x1_3]:List Int),0⟩:Ins_)]:List Ins_)) λys1_3=>some (.inl ys1_3):Option (((List Ins_)) ⊕ (Empty)))) (((Y.args.length:Int):Int) - 0).toNat 0 s=some (.inl (s++cpI c.regs Y.args)):=by
 have hcr:=hck.regs
 have hYa:=(hcs X (List.mem_of_getElem? hX)).ia Y (List.mem_of_getElem? hY)
 constructor
 ·refine appIdx (fun q r => (⟨2, c.regs + (q : Int), [r], 0⟩ : Ins_)) hs fun l x r s he hl => ?_
  have hlen:=congrArg List.length he
  simp at hlen
  rw [show getI Y.args (l.length:Int)=some x by rw [he];exact getI_mid,obS,appM_ok (by simpa using hl),obS,w64_id (by omega) (by omega)]
 ·refine appIdx (fun q r => (⟨2, c.regs + (q : Int), [r], 0⟩ : Ins_)) hs fun l x r s he hl => ?_
  have hlen:=congrArg List.length he
  simp at hlen
  rw [show getI Y.args (l.length:Int)=some x by rw [he];exact getI_mid,obS,appM_ok (by simpa using hl),obS,w64_id (by omega) (by omega)]
omit hcs hfs hY in
theorem blI_small {zl:List Int}:∀ z∈blI c f b i X Y zl,z.next_.length≤1048576:=λz hz=>by
 obtain ⟨j,hj⟩:=List.getElem?_of_mem hz
 rcases blI_cases hX hj with ⟨h1,⟨h2,rfl⟩ | ⟨h2,h3⟩⟩ | ⟨q,y0,h1,h2,rfl⟩ | ⟨h1,rfl⟩
 ·simp [hbI]
 ·have := (hck.bok (getI_some.2 ⟨by omega, by simpa using h3⟩ : getI c.blocks (j : Int) = some z)).jump
  omega
 ·have := (hfk.bok (getI_some.2 ⟨by omega, by simpa using h2⟩ : getI f.blocks (q : Int) = some y0)).jump
  unfold nbI
  split
  ·simp
  ·simp;omega
 ·have := (hck.bok (getI_some.2 ⟨by omega, by simpa using hX⟩ : getI c.blocks (b : Int) = some X)).jump
  show X.next_.length≤_
  omega
omit hck hfk hcs hfs hY in
theorem blI_phis {zl:List Int} {n:Nat} {y:Block_} (hn:n<c.blocks.length) (hy:(blI c f b i X Y zl)[n]?=some y):∃ x,c.blocks[n]?=some x∧y.phis=x.phis:=by
 rw [blI_old hX hn] at hy
 split at hy
 ·rename_i e
  subst e
  obtain rfl:=Option.some.inj hy
  exact ⟨X,hX,rfl⟩
 ·exact ⟨y,hy,rfl⟩
omit hcs hfs hY in
theorem phis_spec (hcs:∀ b∈c.blocks,SmB b) {zl:List Int} {p r:Int}:forN (λ(i1_5:Int) (xs1_5:Int × Int × (List Block_))=>(Option.bind (spec_l19Phis c (⟨xs1_5.1,xs1_5.2.1,xs1_5.2.2⟩:Code_) i1_5 (b:Int) (((c.blocks.length:Int))+((f.blocks.length:Int)))) λr1_3=>some (.inl (r1_3.params,r1_3.regs,r1_3.blocks)):Option ((Int × Int × (List Block_)) ⊕ (Empty)))) (((c.blocks.length:Int):Int) - 0).toNat 0 (p,r,blI c f b i X Y zl)=some (.inl (p,r,atS (gI c (blI c f b i X Y zl) (rsI c f) (b:Int)) (blI c f b i X Y zl) c.blocks.length)):=by
 have hnb:=hck.nb
 have hfb:=hfk.nb
 have hlen:(blI c f b i X Y zl).length=c.blocks.length+f.blocks.length+1:=blI_len
 obtain ⟨t,e1,e2⟩:=forN_keep (body:=(λ(i1_5:Int) (xs1_5:Int × Int × (List Block_))=>(Option.bind (spec_l19Phis c (⟨xs1_5.1,xs1_5.2.1,xs1_5.2.2⟩:Code_) i1_5 (b:Int) (((c.blocks.length:Int))+((f.blocks.length:Int)))) λr1_3=>some (.inl (r1_3.params,r1_3.regs,r1_3.blocks)):Option ((Int × Int × (List Block_)) ⊕ (Empty))))) (k:=(((c.blocks.length:Int):Int) - 0).toNat) (i:=0) (s:=(p,r,blI c f b i X Y zl)) (λj t=>t=(p,r,atS (gI c (blI c f b i X Y zl) (rsI c f) (b:Int)) (blI c f b i X Y zl) j.toNat)) (by rw [show ((0:Int)).toNat=0 from rfl,atS_zero]) (λj t j0 j1 hI=>by
  subst hI
  refine ⟨_,?_,rfl⟩
  have hjl:j.toNat<c.blocks.length:=by omega
  obtain ⟨y,hy⟩:∃ y,(blI c f b i X Y zl)[j.toNat]?=some y:=⟨_,List.getElem?_eq_getElem (by rw [hlen];omega)⟩
  obtain ⟨x,hx,hph⟩:=blI_phis hX hjl hy
  have h:=l19Phis_ok (xs:=blI c f b i X Y zl) (rest:=rsI c f) (b:=(b:Int)) (p:=p) (r:=r) (zs:=atS (gI c (blI c f b i X Y zl) (rsI c f) (b:Int)) (blI c f b i X Y zl) j.toNat) hck hx (hcs x (List.mem_of_getElem? hx)).phis (by rw [atS_get hy,if_neg (by omega)]) hph next_atS (by rw [atS_len,hlen];omega) (λz hz=>by
   have:z.next_∈(blI c f b i X Y zl).map (·.next_):=by rw [← next_atS (G:=gI c (blI c f b i X Y zl) (rsI c f) (b:Int)) (i:=j.toNat)];exact List.mem_map.2 ⟨z,hz,rfl⟩
   obtain ⟨y',hy',he⟩:=List.mem_map.1 this
   rw [← he]
   exact blI_small hck hfk hX y' hy') (λq hq=>src_I hfk hX hjl hq)
  rw [show ((j.toNat:Nat):Int)=j by omega] at h
  rw [show (c.blocks.length:Int)+(f.blocks.length:Int)=rsI c f from rfl,h,obS]
  congr 4
  rw [show (j+1).toNat=j.toNat+1 by omega,atS_succ hy])
 rw [e1,e2,show ((0:Int)+((((c.blocks.length:Int) - 0).toNat:Nat):Int)).toNat=c.blocks.length by omega]
theorem inl_both (hfa:∀ x∈f.blocks,∀ p∈x.ins,p.args.length≤1000000):∃ zl,impl_inlined c f (b:Int) (i:Int)=some (reI c f b i X Y zl)∧spec_l19Put c f (b:Int) (i:Int)=some (reI c f b i X Y zl)∧(∀ q∈zl,f.params≤q∧q<f.regs)∧zl.length≤300:=by
 have hnb:=hck.nb
 have hcr:=hck.regs
 have hfb:=hfk.nb
 have hfr:=hfk.regs
 have hbl:=(lgE.1 hX).1
 have hil:=(lgE.1 hY).1
 have hXs:=hcs X (List.mem_of_getElem? hX)
 have hXi:=hXs.ins
 have hYa:=hXs.ia Y (List.mem_of_getElem? hY)
 have hXg:getI c.blocks (b:Int)=some X:=getI_some.2 ⟨by omega,by simpa using hX⟩
 have hYg:getI X.ins (i:Int)=some Y:=getI_some.2 ⟨by omega,by simpa using hY⟩
 obtain ⟨L,M,li,lo,need,zl,a1,a2,a3,a4,a5,a6,a7,a8,a9⟩:=zeros_both hfk (λx hx=>⟨(hfs x hx).phis,(hfs x hx).ins⟩) c hcr (s:=X.ins.take i++cpI c.regs Y.args) (by simp [cpI];omega)
 refine ⟨zl,?_,?_,a8,a9⟩
 ·obtain ⟨P, p1, p2, p3⟩ := phisOf_ok2 hck hcs
  obtain ⟨l,l1,l2,l3⟩:=once_I hck hXg
  obtain ⟨P',q1,q2,q3⟩:=turnI (f:=f) hck hX p3 l2 l3
  have hw:w64 ((i:Int)+1)=(i:Int)+1:=w64_id (by omega) (by omega)
  have hw2:w64 (c.regs+f.regs)=c.regs+f.regs:=w64_id (by omega) (by omega)
  unfold impl_inlined
  rw [cloneCode_ok c (by omega) hcs,obS,hXg,obS,hYg,obS,p1,obS,hw,sub_all (by omega) (by omega),obS]
  rw [show slices_Clone_S_impl_Ins_impl_Ins (X.ins.drop ((i:Int)+1).toNat)=some (X.ins.drop (i+1)) by
   unfold slices_Clone_S_impl_Ins_impl_Ins
   rw [show ((i:Int)+1).toNat=i+1 by omega,appM_ok (by simp;omega)];rfl]
  rw [obS,obS,sub_fst (by omega) (by omega),obS]
  rw [show slices_Clip_S_impl_Ins_impl_Ins (X.ins.take ((i:Int)).toNat)=some (X.ins.take i) from rfl,obS]
  refine bindt (args_both hck hcs hX hY (s:=X.ins.take i) (by simp;omega)).1 ?_
  rw [Sum.elim_inl,a1,obS,a2,obS,a3,obS]
  refine bindt a6 ?_
  rw [Sum.elim_inl,cloneCode_ok f (by omega) hfs,obS]
  refine bindt (blocks_impl hck hfk hfs (Y:=Y) (base:=c.blocks.set ((b:Int)).toNat (hbI c X i Y.args zl)) (by simp)) ?_
  rw [Sum.elim_inl,appM_ok (by simp;omega),obS,l1,obS]
  refine bindt q1 ?_
  rw [Sum.elim_inl,Int.toNat_natCast,List.append_assoc]
  have hset:=settleI (c:=c) (xs:=blI c f b i X Y zl) (G:=gI c (blI c f b i X Y zl) (rsI c f) (b:Int)) (P:=P') (n:=c.blocks.length) (r0:=c) (f0:=f) (by rw [blI_len];omega) (by rw [blI_len];omega) (λn y hn hy=>by
   obtain ⟨x,hx,hph⟩:=blI_phis hX hn hy
   obtain ⟨ms,m1,m2,m3⟩:=p3 (n:Int) x (getI_some.2 ⟨by omega,by simpa using hx⟩)
   have m1':P[n]?=some ms:=by simpa using (getI_some.1 m1).2
   have hgetO:∀ (q:Nat) f M,x.phis[q]?=some f→ms[q]?=some M→∀ p∈predsL c (n:Int),M.get p=some (at_ f.args (idx p (predsL c (n:Int)) 0)):=λq f M hf hM p hp=>(lookM_some M.nodup).2 (m3 q f M hf hM p hp)
   refine ⟨_,q3 n ms m1',?_,λq fi M' hf hM'=>?_⟩
   ·rw [hph];split<;>simp [m2]
   ·rw [hph] at hf
    unfold gI
    refine List.map_congr_left λj hj=>?_
    have hsrc:=src_I hfk hX hn hj
    have hpr:=(preds_I hfk hX hn).1 hj
    unfold srcI at hsrc ⊢
    by_cases hxn:(n:Int)∈X.next_
    ·rw [if_pos hxn, List.getElem?_map] at hM'
     obtain ⟨M,hM,rfl⟩:=Option.map_eq_some_iff.1 hM'
     rw [upI_get]
     by_cases e:j=rsI c f
     ·rw [if_pos e] at hsrc ⊢
      rw [if_neg (by rw [e];unfold rsI;omega),if_pos e,hgetO q fi M hf hM _ hsrc];rfl
     ·rw [if_neg e] at hsrc ⊢
      rcases hpr with ⟨h,_⟩ | ⟨_,h,_⟩
      ·exact absurd h e
      ·rw [if_neg h,if_neg e,hgetO q fi M hf hM _ hsrc];rfl
    ·rw [if_neg hxn] at hM'
     rcases hpr with ⟨_,h⟩ | ⟨h,_,_⟩
     ·exact absurd h hxn
     ·rw [if_neg h] at hsrc ⊢
      rw [hgetO q fi M' hf hM' _ hsrc];rfl)
  refine bindt hset ?_
  rw [Sum.elim_inl,hw2]
  rfl
 ·have hw : w64 ((i : Int) + 1) = (i : Int) + 1 := w64_id (by omega) (by omega)
  have hw2:w64 (c.regs+f.regs)=c.regs+f.regs:=w64_id (by omega) (by omega)
  obtain ⟨to,t1,t2⟩:=to_spec hcr hfr.1 hfr.2
  have heach:=each_spec (to:=to) (g:=(·+c.regs)) (Q:=λr=>0≤r∧r<f.regs) t2 f (by omega) hfs (regs_I hfk) (λx hx=>by
   obtain ⟨q,hq⟩:=blkOf hx
   have hbo:=hfk.bok hq
   refine ⟨λp hp=>?_,λp hp=>?_⟩
   ·have := (hbo.phis p hp).2.2.1
    have:=predsL_len f q
    omega
   ·exact hfa x hx p hp)
  unfold spec_l19Put
  rw [l7Copy_ok c (by omega) hcs,obS,hXg,obS,hYg,obS,fitOk hfr.2,obS]
  refine bindt t1 ?_
  rw [Sum.elim_inl,heach,obS]
  refine bindt (blocks_spec hck hfk hfs (Y:=Y) (F:=⟨f.params,f.regs,f.blocks.map (mapBlk (·+c.regs))⟩) rfl (base:=c.blocks) rfl) ?_
  rw [Sum.elim_inl,hw,sub_all (by omega) (by omega),obS,appM_ok (by simp;omega),obS,appM_ok (by simp;omega),obS,obS,sub_fst (by omega) (by omega),obS,appM_ok (by simp;omega),obS]
  rw [List.nil_append,List.nil_append,Int.toNat_natCast]
  refine bindt (args_both hck hcs hX hY (s:=X.ins.take i) (by simp;omega)).2 ?_
  rw [Sum.elim_inl,a4,obS,a5,obS]
  refine bindt (bindt a7 rfl) ?_
  rw [hw2,show ((i:Int)+1).toNat=i+1 by omega,List.set_append_left _ _ (by simp;omega),List.set_append_left _ _ (by omega),List.append_assoc]
  refine bindt (phis_spec hck hfk hX hcs (i:=i) (Y:=Y) (zl:=zl) (p:=c.params) (r:=c.regs+f.regs)) ?_
  rfl
end
end Unt
end Go.Wk
namespace Go.Wk
open Go
namespace Unt
set_option maxRecDepth 10000
def atB (u:Unit_) (k:Int):Bool:=unitB u&&inB k 0 ((u.codes.length:Int) - 1)
theorem codeAt_ok (u:Unit_) (hs:Small u) (k:Int):impl_codeAt u k=some (atB u k):=by
 unfold impl_codeAt atB
 rw [implValid_ok u hs,obS]
 cases unitB u
 ·rfl
 ·simp [within_ok]
end Unt
end Go.Wk
namespace Go.Wk
open Go
namespace Unt
set_option maxRecDepth 10000
theorem has_ok (u:Unit_) (hs:Small u) (k:Int):spec_l12Has u k=some (atB u k):=by
 unfold spec_l12Has atB
 rw [specValid_ok u hs,obS]
 cases unitB u
 ·rfl
 ·simp [l1In_ok]
end Unt
end Go.Wk
namespace Go.Wk
open Go
namespace Unt
set_option maxRecDepth 10000
theorem sums_boundU {α : Type} {f : α → Nat} {B : Nat} : ∀ {l : List α}, (∀ x ∈ l, f x ≤ B) → sums f l ≤ l.length * B
 | [],_=>Nat.zero_le _
 | x::l,h=>by
  have h1:=h x (by simp)
  have h2:=sums_boundU (l:=l) λy hy=>h y (by simp [hy])
  simp only [sums,List.length_cons,Nat.add_mul,Nat.one_mul]
  omega
theorem sums_memU {α : Type} {f : α → Nat} {x : α} : ∀ {l : List α}, x ∈ l → f x ≤ sums f l
 | y::l,h=>by
  rcases List.mem_cons.1 h with e | e
  ·subst e;simp only [sums];omega
  ·have := sums_memU (f := f) e
   simp only [sums];omega
theorem argsU {u:Unit_} (hu:Ok u) {k:Int} {c:Code_} {y:Ins_} (h:insB u k c y=true):y.args.length≤3:=by
 have hi:=iok h
 by_cases e:y.op=14
 ·have h1 := (hi.call e).2.2
  unfold parOf at h1
  split at h1
  ·rename_i c' hc'
   have:=(hu.cok hc').params
   omega
  ·omega
 ·have h1 := hi.plain e
  unfold nargs at h1
  split at h1
  ·omega
  ·split at h1<;>omega
theorem valid_w {u:Unit_} (hu:Ok u):(wCodeS u.codes:Int)≤900000000:=by
 have hcnt:cntU u≤800:=by
  have:=hu.valid
  simp only [unitB,Bool.and_eq_true,decide_eq_true_eq] at this
  exact this.2.2
 have hc:∀ c∈u.codes,wCode c≤200000000:=λc hcm=>by
  obtain ⟨n,hn⟩:=List.getElem?_of_mem hcm
  have hck:=hu.cok (getI_some.2 ⟨by omega,by simpa using hn⟩:getI u.codes (n:Int)=some c)
  have hnb:=hck.nb
  have hb:∀ x∈c.blocks,wBlock x≤1000000:=λx hx=>by
   obtain ⟨b,hb⟩:=blkOf hx
   have hbo:=hck.bok hb
   have h1:cntB x≤cntC c:=sums_memU (f:=cntB) hx
   have h2:cntC c≤cntU u:=sums_memU (f:=cntC) hcm
   unfold cntB at h1
   have p1:wPhiS x.phis≤x.phis.length*161:=sums_boundU λf hf=>by
    have:=(hbo.phis f hf).2.2.1
    have:=predsL_len c b
    unfold wPhi;omega
   have p2:wInsS x.ins≤x.ins.length*6:=sums_boundU λy hy=>by
    have:=argsU hu (hbo.ins y hy)
    unfold wIns;omega
   have p3:=hbo.jump
   unfold wBlock
   omega
  have:=sums_boundU (f:=wBlock) hb
  unfold wCode wBlockS
  have h3:c.blocks.length*1000000≤160*1000000:=Nat.mul_le_mul_right _ (by omega)
  omega
 have h4:=hu.codes
 have:=sums_boundU (f:=wCode) hc
 have h5:u.codes.length*200000000≤4*200000000:=Nat.mul_le_mul_right _ (by omega)
 unfold wCodeS
 omega
end Unt
end Go.Wk
namespace Go.Wk
open Go
namespace Unt
set_option maxRecDepth 10000
theorem sm_inv {u:Unit_} (hu:Ok u) {k:Int} {c:Code_} (hck:COk u k c) (hc:cntC c≤800):∀ b∈c.blocks,SmB b:=λx hx=>by
 obtain ⟨b,hb⟩:=blkOf hx
 have hbo:=hck.bok hb
 have hnb:=hck.nb
 have h1:cntB x≤cntC c:=sums_memU (f:=cntB) hx
 unfold cntB at h1
 have hj:=hbo.jump
 refine ⟨by omega,by omega,by omega,λf hf=>?_,λy hy=>?_⟩
 ·have := (hbo.phis f hf).2.2.1
  have:=predsL_len c b
  omega
 ·have := argsU hu (hbo.ins y hy)
  omega
end Unt
end Go.Wk
namespace Go.Wk
open Go
namespace Unt
set_option maxRecDepth 10000
theorem cloneUnit_I {u:Unit_} (hl:u.codes.length≤1000) (h:∀ c∈u.codes,c.blocks.length≤1048576∧∀ b∈c.blocks,SmB b):impl_cloneUnit u=some u:=by
 unfold impl_cloneUnit impl_mapped_impl_Code_impl_Code
 have h1:=mapLoop (xs:=u.codes) (body:=(λ(i1_1:Int) (xs1_1:(List Code_))=>(Option.bind (getI u.codes i1_1) λx1_1=>Option.bind (impl_cloneCode x1_1) λr1_1=>Option.bind (appM xs1_1 ([r1_1]:List Code_)) λys1_1=>some (.inl ys1_1):Option (((List Code_)) ⊕ (Empty))))) (λx=>x) (by omega) (λl x r s he hs=>by
  have hx:x∈u.codes:=by rw [he];simp
  rw [he,getI_mid,obS,cloneCode_ok x (h x hx).1 (h x hx).2,obS,appM_ok (by simpa using hs)];rfl)
 rw [List.map_id''] at h1
 ·exact bindt (bindt h1 rfl) rfl
 ·exact λ_=>rfl
theorem copyUnit_I {u:Unit_} (hl:u.codes.length≤1000) (h:∀ c∈u.codes,c.blocks.length≤1048576∧∀ b∈c.blocks,SmB b):spec_l7CopyUnit u=some u:=by
 unfold spec_l7CopyUnit
 have h1:=mapLoop (xs:=u.codes) (body:=(λ(i1_1:Int) (xs1_1:(List Code_))=>(Option.bind (getI u.codes i1_1) λx1_1=>Option.bind (spec_l7Copy x1_1) λr1_1=>Option.bind (appM xs1_1 ([r1_1]:List Code_)) λys1_1=>some (.inl ys1_1):Option (((List Code_)) ⊕ (Empty))))) (λx=>x) (by omega) (λl x r s he hs=>by
  have hx:x∈u.codes:=by rw [he];simp
  rw [he,getI_mid,obS,l7Copy_ok x (h x hx).1 (h x hx).2,obS,appM_ok (by simpa using hs)];rfl)
 rw [List.map_id''] at h1
 ·exact bindt h1 rfl
 ·exact λ_=>rfl
theorem few_I {u:Unit_} (hu:Ok u) {k:Int} {c:Code_} (hc:getI u.codes k=some c):COk u k c∧(∀ b∈c.blocks,SmB b)∧∀ x∈c.blocks,(x.phis.length≤800∧x.ins.length≤800∧x.next_.length≤2)∧∀ y∈x.ins,y.args.length≤3:=by
 have hcnt:cntU u≤800:=by
  have:=hu.valid
  simp only [unitB,Bool.and_eq_true,decide_eq_true_eq] at this
  exact this.2.2
 have hck:=hu.cok hc
 have hcm:=List.mem_of_getElem? (getI_some.1 hc).2
 have h2:cntC c≤cntU u:=sums_memU (f:=cntC) hcm
 refine ⟨hck,sm_inv hu hck (by omega),λx hx=>⟨?_,λy hy=>?_⟩⟩
 ·obtain ⟨b, hb⟩ := blkOf hx
  have hbo:=hck.bok hb
  have h1:cntB x≤cntC c:=sums_memU (f:=cntB) hx
  unfold cntB at h1
  have:=hbo.jump
  omega
 ·obtain ⟨b, hb⟩ := blkOf hx
  exact argsU hu ((hck.bok hb).ins y hy)
section
variable {u:Unit_} {k m:Int} {c f:Code_} {b i:Nat} {X:Block_} {Y:Ins_} {zl:List Int}
theorem reI_blk {z:Block_} {j:Nat} (h:(reI c f b i X Y zl).blocks[j]?=some z):∃ y,(blI c f b i X Y zl)[j]?=some y∧z.phis.length=y.phis.length∧z.ins=y.ins∧z.jump=y.jump∧z.on=y.on∧z.next_=y.next_:=by
 unfold reI atS at h
 rw [List.getElem?_mapIdx] at h
 obtain ⟨y,hy,rfl⟩:=Option.map_eq_some_iff.1 h
 refine ⟨y,hy,?_⟩
 split
 ·exact ⟨by simp [finS],rfl,rfl,rfl,rfl⟩
 ·exact ⟨rfl,rfl,rfl,rfl,rfl⟩
theorem reI_small (hc : ∀ x ∈ c.blocks, x.phis.length ≤ 800 ∧ x.ins.length ≤ 800 ∧ x.next_.length ≤ 2) (hf : ∀ x ∈ f.blocks, x.phis.length ≤ 800 ∧ x.ins.length ≤ 800 ∧ x.next_.length ≤ 2) (hX : c.blocks[b]? = some X) (hYa : Y.args.length ≤ 3) (hz : zl.length ≤ 300) :
  ∀ z∈(reI c f b i X Y zl).blocks,z.phis.length≤1048576∧z.ins.length≤1048576∧z.next_.length≤1048576:=λz hz=>by
 obtain ⟨j,hj⟩:=List.getElem?_of_mem hz
 obtain ⟨y,hy,e1,e2,_,_,e5⟩:=reI_blk hj
 rw [e1,e2,e5]
 have hXm:=hc X (List.mem_of_getElem? hX)
 rcases blI_cases hX hy with ⟨h1,⟨h2,rfl⟩ | ⟨h2,h3⟩⟩ | ⟨q,y0,h1,h2,rfl⟩ | ⟨h1,rfl⟩
 ·refine ⟨?_, ?_, ?_⟩
  ·show X.phis.length≤_;omega
  ·show (X.ins.take i ++ cpI c.regs Y.args ++ zrI c.regs zl).length ≤ _
   simp [cpI,zrI];omega
  ·simp [hbI]
 ·have:=hc y (List.mem_of_getElem? h3);omega
 ·have := hf y0 (List.mem_of_getElem? h2)
  unfold nbI
  split
  ·simp;omega
  ·simp;omega
 ·refine ⟨by simp [lbI], ?_, ?_⟩
  ·show (X.ins.drop (i + 1)).length ≤ _
   simp;omega
  ·show X.next_.length≤_;omega
end
theorem inlineCall_ok (u : Unit_) (hs : Small u) (k b i : Int) : ∃ r bo, impl_InlineCall u k b i = some (r, bo) ∧ spec_InlineCall u k b i = some (r, bo) ∧ ((bo = false ∧ r = ⟨[]⟩) ∨ (bo = true ∧ Ok r ∧
  ∃ c f X Y zl,getI u.codes k=some c∧getI c.blocks b=some X∧getI X.ins i=some Y∧Y.op=14∧getI u.codes Y.n_=some f∧Y.n_<k∧r=⟨u.codes.set k.toNat (reI c f b.toNat i.toNat X Y zl)⟩)):=by
 unfold impl_InlineCall spec_InlineCall
 rw [codeAt_ok u hs,has_ok u hs,obS,obS]
 cases ha:atB u k with
 | false=>exact ⟨_,_,rfl,rfl,.inl ⟨rfl,rfl⟩⟩
 | true =>
 have hat:=ha
 unfold atB at hat
 rw [Bool.and_eq_true,inB_iff] at hat
 have hu:Ok u:=⟨hat.1,hs⟩
 have hcl:=hu.codes
 obtain ⟨c,hc,hc2,hcm⟩:=getI_in (xs:=u.codes) (j:=k) hat.2.1 (by omega)
 obtain ⟨hck,hcs,hcf⟩:=few_I hu hc
 simp only [Bool.not_true,Bool.false_eq_true,if_false,hc,obS,within_ok,l1In_ok]
 by_cases hb:inB b 0 ((c.blocks.length:Int) - 1)=true
 rotate_left
 ·rw [Bool.not_eq_true] at hb
  simp only [hb,Bool.not_false,if_true,obS]
  exact ⟨_,_,rfl,rfl,.inl ⟨rfl,rfl⟩⟩
 have hb2:=inB_iff.1 hb
 obtain ⟨X,hX,hX2,hXm⟩:=getI_in (xs:=c.blocks) (j:=b) hb2.1 (by omega)
 simp only [hb,Bool.not_true,Bool.false_eq_true,if_false,hX,obS]
 by_cases hi:inB i 0 ((X.ins.length:Int) - 1)=true
 rotate_left
 ·rw [Bool.not_eq_true] at hi
  simp only [hi,Bool.not_false,if_true,obS]
  exact ⟨_,_,rfl,rfl,.inl ⟨rfl,rfl⟩⟩
 have hi2:=inB_iff.1 hi
 obtain ⟨Y,hY,hY2,hYm⟩:=getI_in (xs:=X.ins) (j:=i) hi2.1 (by omega)
 simp only [hi,Bool.not_true,Bool.false_eq_true,if_false,hY,obS]
 by_cases hop:Y.op=14
 rotate_left
 ·simp only [hop, ne_eq, not_false_eq_true, decide_true, if_true]
  exact ⟨_,_,rfl,rfl,.inl ⟨rfl,rfl⟩⟩
 have hio:=iok ((hck.bok hX).ins Y hYm)
 have hcall:=hio.call hop
 obtain ⟨f,hf,hf2,hfm⟩:=getI_in (xs:=u.codes) (j:=Y.n_) hcall.1 (by omega)
 obtain ⟨hfk,hfs,hff⟩:=few_I hu hf
 have hall:∀ c∈u.codes,c.blocks.length≤1048576∧∀ b∈c.blocks,SmB b:=λd hd=>by
  obtain ⟨n,hn⟩:=List.getElem?_of_mem hd
  obtain ⟨h1,h2,_⟩:=few_I hu (getI_some.2 ⟨by omega,by simpa using hn⟩:getI u.codes (n:Int)=some d)
  have:=h1.nb
  exact ⟨by omega,h2⟩
 simp only [hop,ne_eq,not_true_eq_false,decide_false,Bool.false_eq_true,if_false,cloneUnit_I (u:=u) (by omega) hall,copyUnit_I (u:=u) (by omega) hall,obS,hc,hf]
 obtain ⟨zl,e1,e2,e3,e4⟩:=inl_both (b:=b.toNat) (i:=i.toNat) hck hfk hcs hfs hX2 hY2 (λx hx p hp=>by have:=(hff x hx).2 p hp;omega)
 rw [show ((b.toNat:Nat):Int)=b by omega,show ((i.toNat:Nat):Int)=i by omega] at e1 e2
 rw [e1,e2]
 simp only [obS,hc]
 have hsm:Small ⟨u.codes.set k.toNat (reI c f b.toNat i.toNat X Y zl)⟩:=λd hd z hz=>by
  rcases List.mem_or_eq_of_mem_set hd with h | h
  ·exact hs d h z hz
  ·subst h
   exact reI_small (λx hx=>(hcf x hx).1) (λx hx=>(hff x hx).1) hX2 ((hcf X hXm).2 Y hYm) e4 z hz
 unfold impl_onlyValid
 rw [implValid_ok _ hsm,specValid_ok _ hsm]
 cases hv:unitB ⟨u.codes.set k.toNat (reI c f b.toNat i.toNat X Y zl)⟩ with
 | false=>exact ⟨_,_,rfl,rfl,.inl ⟨rfl,rfl⟩⟩
 | true=>exact ⟨_,_,rfl,rfl,.inr ⟨rfl,⟨hv,hsm⟩,c,f,X,Y,zl,rfl,hX,hY,hop,hf,hcall.2.1,rfl⟩⟩
end Unt
end Go.Wk
namespace Go.Wk
open Go
namespace Unt
set_option maxRecDepth 10000
def plI (b:Nat) (ins:List Ins_):List (List Int):=((ins.mapIdx λi y=>(y,[(b:Int),(i:Int)])).filter λq=>decide (q.1.op=14)).map (·.2)
def plC (c:Code_):List (List Int):=(c.blocks.mapIdx λb x=>plI b x.ins).flatten
theorem plI_snoc {b:Nat} {l:List Ins_} {x:Ins_}:plI b (l++[x])=if x.op=14 then plI b l++[[(b:Int),(l.length:Int)]] else plI b l:=by
 unfold plI
 rw [List.mapIdx_concat,List.filter_append,List.map_append]
 by_cases h:x.op=14<;>simp [h]
theorem plI_len {b:Nat} {l:List Ins_}:(plI b l).length≤l.length:=by
 unfold plI
 rw [List.length_map]
 exact Nat.le_trans (List.length_filter_le _ _) (by simp)
theorem plC_snoc {l:List Block_} {x:Block_}:((l++[x]).mapIdx λb x=>plI b x.ins).flatten=(l.mapIdx λb x=>plI b x.ins).flatten++plI l.length x.ins:=by
 rw [List.mapIdx_concat];simp
theorem plC_len:∀ {n:Nat} {l:List Block_},l.length=n→((l.mapIdx λb x=>plI b x.ins).flatten).length≤sums cntB l:=by
 intro n
 induction n with
 | zero=>intro l h;have:=List.eq_nil_of_length_eq_zero h;subst this;simp [sums]
 | succ n ih =>
  intro l h
  rcases List.eq_nil_or_concat l with rfl | ⟨l,x,rfl⟩
  ·simp at h
  rw [List.concat_eq_append] at h ⊢
  rw [plC_snoc,List.length_append,sums_append]
  have h1:=plI_len (b:=l.length) (l:=x.ins)
  have h2:sums cntB [x]=cntB x:=by simp [sums]
  have h3:cntB x=x.phis.length+x.ins.length:=rfl
  have:=ih (l:=l) (by simp at h;omega)
  omega
theorem plC_mem {c:Code_} {p:List Int} (h:p∈plC c):∃ (b i:Nat) (X:Block_) (Y:Ins_),p=[(b:Int),(i:Int)]∧c.blocks[b]?=some X∧X.ins[i]?=some Y∧Y.op=14:=by
 unfold plC at h
 obtain ⟨ys,h1,h2⟩:=List.mem_flatten.1 h
 obtain ⟨b,hb,rfl⟩:=List.mem_mapIdx.1 h1
 unfold plI at h2
 obtain ⟨q,h3,rfl⟩:=List.mem_map.1 h2
 obtain ⟨h4,h5⟩:=List.mem_filter.1 h3
 obtain ⟨i,hi,rfl⟩:=List.mem_mapIdx.1 h4
 exact ⟨b,i,_,_,rfl,List.getElem?_eq_getElem hb,List.getElem?_eq_getElem hi,by simpa using h5⟩
section
variable {c:Code_} (hc:sums cntB c.blocks≤800) (hb:c.blocks.length≤160)
include hc hb
theorem ins_le {l r:List Block_} {x:Block_} (he:c.blocks=l++x::r):x.ins.length≤800:=by
 have h:cntB x≤sums cntB c.blocks:=sums_memU (by rw [he];simp)
 have h3:cntB x=x.phis.length+x.ins.length:=rfl
 have:=hb
 omega
theorem plC_le {l r:List Block_} (he:c.blocks=l++r):((l.mapIdx λb x=>plI b x.ins).flatten).length≤800:=by
 have h:=plC_len (l:=l) rfl
 rw [he,sums_append] at hc
 have:=hb
 omega
theorem places_impl:impl_callPlaces c=some (plC c):=by
 unfold impl_callPlaces
 rcases forN_list (xs:=c.blocks) (body:=(λ(i1_1:Int) (xs1_1:(List (List Int)))=>(Option.bind (getI c.blocks i1_1) λx1_1=>Option.bind (forN (S:=(List (List Int))) (X:=Empty) (λi2_1 xs2_1=>Option.bind (Option.bind (getI x1_1.ins i2_1) λx3_1=>Option.bind (if decide (x3_1.op=14) then Option.bind (appM xs2_1 ([([i1_1,i2_1]:List Int)]:List (List Int))) λys4_1=>some ys4_1 else some xs2_1:Option ((List (List Int)))) λs3_1=>some s3_1:Option ((List (List Int)))) λs2_1=>some (.inl s2_1)) (((x1_1.ins.length:Int):Int) - 0).toNat 0 xs1_1) (Sum.elim (λxs1_2=>some (.inl xs1_2)) (λ(e0:Empty)=>nomatch e0)):Option (((List (List Int))) ⊕ (Empty))))) (s:=([]:List (List Int))) (λl s=>s=(l.mapIdx λb x=>plI b x.ins).flatten) (λ_=>False) rfl (λl x r s he hI=>by
  subst hI
  have h8:=ins_le hc hb he
  have hl:=plC_le hc hb he
  refine .inl ⟨_,?_,plC_snoc.symm⟩
  rw [he,getI_mid,obS]
  rcases forN_list (xs:=x.ins) (body:=(λ(i2_1:Int) (xs2_1:(List (List Int)))=>(Option.bind (Option.bind (getI x.ins i2_1) λx3_1=>Option.bind (if decide (x3_1.op=14) then Option.bind (appM xs2_1 ([([(l.length:Int),i2_1]:List Int)]:List (List Int))) λys4_1=>some ys4_1 else some xs2_1:Option ((List (List Int)))) λs3_1=>some s3_1:Option ((List (List Int)))) λs2_1=>some (.inl s2_1):Option (((List (List Int))) ⊕ (Empty))))) (s:=(l.mapIdx λb x=>plI b x.ins).flatten) (λl2 s=>s=(l.mapIdx λb x=>plI b x.ins).flatten++plI l.length l2) (λ_=>False) (by simp [plI]) (λl2 y r2 s he2 hI=>by
   subst hI
   have hl2:=plI_len (b:=l.length) (l:=l2)
   have hlen:=congrArg List.length he2
   simp at hlen
   refine .inl ⟨_,?_,rfl⟩
   rw [he2,getI_mid,obS,plI_snoc]
   by_cases hop:y.op=14
   ·simp only [hop, decide_true, if_true]
    rw [appM_ok (by rw [List.length_append,List.length_singleton];omega),obS,obS,obS,List.append_assoc]
   ·simp only [hop, decide_false, Bool.false_eq_true, if_false]
    rw [obS,obS]) with ⟨s,h1,rfl⟩ | ⟨_,_,h⟩
  ·exact bindt h1 rfl
  ·exact h.elim) with ⟨s,h1,rfl⟩ | ⟨_,_,h⟩
 ·exact bindt h1 rfl
 ·exact h.elim
omit hc hb in
theorem places_in {x : Block_} {b : Nat} (hx : getI c.blocks (b : Int) = some x) (h8 : x.ins.length ≤ 800) {base : List (List Int)} (hbl : base.length ≤ 800) : ∀ (r l : List Ins_), x.ins = l ++ r →
  loopM (λ(xs3_1:(List (List Int)) × Int)=>(Option.bind (getI c.blocks (b:Int)) λx3_1=>if decide (xs3_1.2<((x3_1.ins.length:Int))) then Option.bind (Option.bind (getI x3_1.ins xs3_1.2) λx4_1=>Option.bind (if decide (x4_1.op=14) then Option.bind (appM xs3_1.1 ([([(b:Int),xs3_1.2]:List Int)]:List (List Int))) λys5_1=>some ys5_1 else some xs3_1.1:Option ((List (List Int)))) λs4_1=>some s4_1:Option ((List (List Int)))) λs3_1=>some (.inl (s3_1,w64 (xs3_1.2+1))) else some (.inr xs3_1.1):Option (((List (List Int)) × Int) ⊕ ((List (List Int)))))) (base++plI b l,(l.length:Int))=some (base++plI b x.ins):=by
 intro r
 induction r with
 | nil =>
  intro l he
  refine loopM_inr ?_
  dsimp only
  rw [hx,obS,he,if_neg (by simp)]
  simp
 | cons y r ih =>
  intro l he
  have hlen:=congrArg List.length he
  simp at hlen
  have hl2:=plI_len (b:=b) (l:=l)
  have:=ih (l++[y]) (by rw [he];simp)
  rw [← this]
  refine loopM_inl ?_
  dsimp only
  rw [hx,obS,if_pos (by simp;omega),he,getI_mid,obS,w64_id (by omega) (by omega),plI_snoc]
  by_cases hop:y.op=14
  ·simp only [hop, decide_true, if_true]
   rw [appM_ok (by rw [List.length_append,List.length_singleton];omega),obS,obS,obS,List.append_assoc]
   simp
  ·simp only [hop, decide_false, Bool.false_eq_true, if_false]
   rw [obS,obS]
   simp
theorem places_spec {u:Unit_} {k:Int} (hs:Small u) (ha:atB u k=true) (hk:getI u.codes k=some c):spec_CallPlaces u k=some (plC c):=by
 unfold spec_CallPlaces
 rw [has_ok u hs,ha,obS]
 simp only [Bool.not_true,Bool.false_eq_true,if_false,hk,obS]
 rcases forN_list (xs:=c.blocks) (body:=(λ(i1_1:Int) (xs1_1:(List (List Int)))=>(Option.bind (Option.bind (loopM (S:=(List (List Int)) × Int) (X:=(List (List Int))) (λxs3_1=>Option.bind (getI c.blocks i1_1) λx3_1=>if decide (xs3_1.2<((x3_1.ins.length:Int))) then Option.bind (Option.bind (getI x3_1.ins xs3_1.2) λx4_1=>Option.bind (if decide (x4_1.op=14) then Option.bind (appM xs3_1.1 ([([i1_1,xs3_1.2]:List Int)]:List (List Int))) λys5_1=>some ys5_1 else some xs3_1.1:Option ((List (List Int)))) λs4_1=>some s4_1:Option ((List (List Int)))) λs3_1=>some (.inl (s3_1,w64 (xs3_1.2+1))) else some (.inr xs3_1.1)) (xs1_1,0)) (λe0=>some e0):Option ((List (List Int)))) λs1_1=>some (.inl s1_1):Option (((List (List Int))) ⊕ (Empty))))) (s:=([]:List (List Int))) (λl s=>s=(l.mapIdx λb x=>plI b x.ins).flatten) (λ_=>False) rfl (λl x r s he hI=>by
  subst hI
  have h8:=ins_le hc hb he
  have hl:=plC_le hc hb he
  refine .inl ⟨_,?_,plC_snoc.symm⟩
  have:=places_in (c:=c) (x:=x) (b:=l.length) (by rw [he,getI_mid]) h8 hl x.ins [] rfl
  simp only [plI,List.mapIdx_nil,List.filter_nil,List.map_nil,List.append_nil,List.length_nil] at this
  exact bindt (bindt this rfl) rfl) with ⟨s,h1,rfl⟩ | ⟨_,_,h⟩
 ·exact bindt h1 rfl
 ·exact h.elim
omit hb in
theorem size_spec:spec_l19Size c=some (cntC c:Int):=by
 unfold spec_l19Size
 rcases forN_list (xs:=c.blocks) (body:=(λ(i1_1:Int) (xs1_1:Int)=>(Option.bind (getI c.blocks i1_1) λx1_1=>some (.inl (w64 ((w64 (xs1_1+((x1_1.ins.length:Int))))+((x1_1.phis.length:Int))))):Option ((Int) ⊕ (Empty))))) (s:=(0:Int)) (λl s=>s=(sums cntB l:Int)) (λ_=>False) rfl (λl x r s he hI=>by
  subst hI
  have h:=hc
  rw [he,sums_append] at h
  have h2:sums cntB [x]=cntB x:=by simp [sums]
  have h3:sums cntB (x::r)=cntB x+sums cntB r:=rfl
  have h4:cntB x=x.phis.length+x.ins.length:=rfl
  refine .inl ⟨_,?_,rfl⟩
  have e1:w64 ((sums cntB l:Int)+(x.ins.length:Int))=(sums cntB l:Int)+(x.ins.length:Int):=w64_id (by omega) (by omega)
  rw [he,getI_mid,obS,sums_append,h2,e1,w64_id (by omega) (by omega)]
  congr 2
  omega) with ⟨s,h1,rfl⟩ | ⟨_,_,h⟩
 ·exact bindt h1 rfl
 ·exact h.elim
end
end Unt
end Go.Wk
namespace Go.Wk
open Go
namespace Unt
set_option maxRecDepth 10000
def wI (y:Ins_):Nat:=if y.op=14 then 801 ^ y.n_.toNat else 0
def wJ (x:Block_):Nat:=sums wI x.ins
def wK (c:Code_):Nat:=sums wJ c.blocks
theorem wI_zero {l:List Ins_} (h:∀ y∈l,y.op≠14):sums wI l=0:=by
 have:=sums_boundU (f:=wI) (B:=0) (l:=l) λy hy=>by unfold wI;rw [if_neg (h y hy)];exact Nat.le_refl _
 omega
theorem wI_map {g : Int → Int} : ∀ {l : List Ins_}, sums wI (l.map (mapIns g)) = sums wI l
 | []=>rfl
 | y::l=>by
  show wI (mapIns g y)+sums wI (l.map (mapIns g))=wI y+sums wI l
  rw [wI_map];rfl
theorem wJ_nb {R B rest to:Int} {y:Block_}:wJ (nbI R B rest to y)=wJ y:=by
 unfold wJ nbI
 split
 ·show sums wI (y.ins.map (mapIns (· + R)) ++ [⟨2, to, [y.on + R], 0⟩]) = _
  rw [sums_append,wI_map,wI_zero (l:=[⟨2,to,[y.on+R],0⟩]) (by simp)];rfl
 ·exact wI_map
theorem wJ_nbs {R B rest to : Int} : ∀ {l : List Block_}, sums wJ (l.map (nbI R B rest to)) = sums wJ l
 | []=>rfl
 | y::l=>by
  show wJ (nbI R B rest to y)+sums wJ (l.map (nbI R B rest to))=wJ y+sums wJ l
  rw [wJ_nbs,wJ_nb]
theorem sums_setW {α : Type} (f : α → Nat) : ∀ {l : List α} {i : Nat} {x y : α}, l[i]? = some x → sums f (l.set i y) + f x = sums f l + f y
 | [],_,_,_,h=>by simp at h
 | a::l,0,x,y,h=>by simp at h;subst h;simp [sums];omega
 | a::l,i+1,x,y,h=>by
  have:=sums_setW f (l:=l) (i:=i) (x:=x) (y:=y) (by simpa using h)
  simp [sums];omega
theorem sums_atW {α : Type} {f : α → Nat} : ∀ {l l' : List α}, l'.length = l.length → (∀ (j : Nat) x y, l[j]? = some x → l'[j]? = some y → f y = f x) → sums f l' = sums f l
 | [],[],_,_=>rfl
 | a::l,b::l',h,g=>by
  have h0:=g 0 a b rfl rfl
  have:=sums_atW (f:=f) (l:=l) (l':=l') (by simpa using h) (λj x y hx hy=>g (j+1) x y (by simpa using hx) (by simpa using hy))
  simp [sums];omega
 | [],b::l',h,_=>by simp at h
 | a::l,[],h,_=>by simp at h
theorem wK_re {c f:Code_} {b i:Nat} {X:Block_} {Y:Ins_} {zl:List Int} (hX:c.blocks[b]?=some X) (hY:X.ins[i]?=some Y):wK (reI c f b i X Y zl)+wI Y=wK c+wK f:=by
 have h1:wK (reI c f b i X Y zl)=sums wJ (blI c f b i X Y zl):=by
  refine sums_atW (by simp [reI,atS]) λj x y hx hy=>?_
  obtain ⟨x',hx',_,e,_⟩:=reI_blk hy
  rw [hx] at hx';cases hx'
  unfold wJ;rw [e]
 rw [h1]
 unfold blI
 rw [sums_append,sums_append,wJ_nbs]
 have h2:=sums_setW wJ (y:=hbI c X i Y.args zl) hX
 have h3:wJ (hbI c X i Y.args zl)=sums wI (X.ins.take i):=by
  show sums wI (X.ins.take i++cpI c.regs Y.args++zrI c.regs zl)=_
  rw [sums_append,sums_append,wI_zero (l:=cpI c.regs Y.args),wI_zero (l:=zrI c.regs zl)]
  ·rfl
  ·intro y hy;unfold zrI at hy;obtain ⟨r,_,rfl⟩:=List.mem_map.1 hy;show (1:Int)≠14;decide
  ·intro y hy;unfold cpI at hy;obtain ⟨q,hq,rfl⟩:=List.mem_mapIdx.1 hy;show (2:Int)≠14;decide
 have h4:sums wJ [lbI X i]=sums wI (X.ins.drop (i+1)):=by simp [sums,wJ,lbI]
 have h5:wJ X=sums wI (X.ins.take i)+(wI Y+sums wI (X.ins.drop (i+1))):=by
  unfold wJ
  obtain ⟨hi,e⟩:=lgE.1 hY
  rw [← e]
  conv=>lhs;rw [← List.take_append_drop i X.ins]
  rw [sums_append,List.drop_eq_getElem_cons hi];rfl
 have h6:wK f=sums wJ f.blocks:=rfl
 have h7:wK c=sums wJ c.blocks:=rfl
 omega
theorem wK_lt {u:Unit_} {m:Int} {f:Code_} (hu:Ok u) (hf:getI u.codes m=some f) (hm:0≤m):wK f<801 ^ m.toNat:=by
 obtain ⟨hfk,_,_⟩:=few_I hu hf
 have hcnt:cntU u≤800:=by
  have:=hu.valid
  simp only [unitB,Bool.and_eq_true,decide_eq_true_eq] at this
  exact this.2.2
 have hcf:cntC f≤800:=Nat.le_trans (sums_memU (f:=cntC) (List.mem_of_getElem? (getI_some.1 hf).2)) hcnt
 have hI:∀ x∈f.blocks,∀ y∈x.ins,y.op=14→0≤y.n_∧y.n_<m:=λx hx y hy ho=>by
  obtain ⟨b,hb⟩:=blkOf hx
  have:=(iok ((hfk.bok hb).ins y hy)).call ho
  exact ⟨this.1,this.2.1⟩
 rcases Int.lt_or_eq_of_le hm with h | h
 ·obtain ⟨q, hq⟩ : ∃ q, m.toNat = q + 1 := ⟨m.toNat - 1, by omega⟩
  have h1:∀ x∈f.blocks,wJ x≤cntB x*801 ^ q:=λx hx=>by
   have:wJ x≤x.ins.length*801 ^ q:=sums_boundU λy hy=>by
    unfold wI
    split
    ·rename_i ho
     have:=hI x hx y hy ho
     exact Nat.pow_le_pow_right (by decide) (by omega)
    ·exact Nat.zero_le _
   exact Nat.le_trans this (Nat.mul_le_mul_right _ (Nat.le_add_left _ _))
  have h2:∀ l:List Block_,(∀ x∈l,wJ x≤cntB x*801 ^ q)→sums wJ l≤sums cntB l*801 ^ q:=by
   intro l
   induction l with
   | nil=>intro _;simp [sums]
   | cons x l ih =>
    intro h
    have h3:=ih λy hy=>h y (by simp [hy])
    have h4:=h x (by simp)
    show wJ x+sums wJ l≤(cntB x+sums cntB l)*801 ^ q
    rw [Nat.add_mul];omega
  have h3:wK f≤cntC f*801 ^ q:=h2 f.blocks h1
  have h4:cntC f*801 ^ q≤800*801 ^ q:=Nat.mul_le_mul_right _ hcf
  have h5:0<801 ^ q:=Nat.pow_pos (by decide)
  rw [hq,Nat.pow_succ];omega
 ·have h1:∀ x∈f.blocks,wJ x=0:=λx hx=>wI_zero λy hy ho=>by
   have:=hI x hx y hy ho
   omega
  have h2:=sums_boundU (f:=wJ) (B:=0) (l:=f.blocks) λx hx=>by rw [h1 x hx];exact Nat.le_refl _
  have h3:wK f=sums wJ f.blocks:=rfl
  rw [← h]
  simp only [Int.toNat_zero,Nat.pow_zero]
  omega
end Unt
end Go.Wk
namespace Go.Wk
open Go
namespace Unt
set_option maxRecDepth 10000
theorem idxFunc_ok {s_ : List (List Int)} {f : List Int → Option Bool} {p : List Int → Bool} (h : ∀ x ∈ s_, f x = some (p x)) : (s_.any p = false ∧ slices_IndexFunc_S_S_int_S_int s_ f = some (-1)) ∨
  ∃ (l:List (List Int)) (x:List Int) (r:List (List Int)),s_=l++x::r∧l.any p=false∧p x=true∧slices_IndexFunc_S_S_int_S_int s_ f=some (l.length:Int):=by
 unfold slices_IndexFunc_S_S_int_S_int
 rcases forN_find (xs:=s_) (body:=(λ(i1_1:Int) (xs1_1:Unit)=>(Option.bind (getI s_ i1_1) λx1_1=>Option.bind (f x1_1) λr1_1=>if r1_1 then some (.inr i1_1) else some (.inl ()):Option ((Unit) ⊕ (Int))))) p (λi=>i) (λl x r he=>by
  rw [he,getI_mid,obS,h x (by rw [he];simp),obS]) with ⟨h1,h2⟩ | ⟨l,x,r,h1,h2,h3,h4⟩
 ·exact .inl ⟨h1,bindt h2 rfl⟩
 ·exact .inr ⟨l,x,r,h1,h2,h3,bindt h4 rfl⟩
section
variable {cs:List Code_} {most:Int} {c:Code_} (hu:Ok ⟨cs⟩) (hne:cs≠[]) (hc:getI cs ((cs.length:Int) - 1)=some c)
def smP (cs:List Code_) (c:Code_) (most:Int) (p:List Int):Bool :=
 match (getI p 0).bind (λb=>getI c.blocks b),getI p 1 with
 | some X,some i=>match (getI X.ins i).bind (λy=>getI cs y.n_) with
  | some f=>decide ((cntC f:Int)≤most)
  | none=>false
 | _,_=>false
include hu hc in
theorem one_place {p:List Int} (hp:p∈plC c):∃ (b i:Nat) (X:Block_) (Y:Ins_) (f:Code_),p=[(b:Int),(i:Int)]∧getI c.blocks (b:Int)=some X∧getI X.ins (i:Int)=some Y∧Y.op=14∧getI cs Y.n_=some f∧cntC f≤800∧f.blocks.length≤160∧smP cs c most p=decide ((cntC f:Int)≤most):=by
 obtain ⟨b,i,X,Y,rfl,hX,hY,hop⟩:=plC_mem hp
 obtain ⟨hck,_,_⟩:=few_I hu hc
 have hX2:getI c.blocks (b:Int)=some X:=by rw [getI_nat];exact hX
 have hY2:getI X.ins (i:Int)=some Y:=by rw [getI_nat];exact hY
 have hcall:=(iok ((hck.bok hX2).ins Y (List.mem_of_getElem? hY))).call hop
 have hcl:=hu.codes
 obtain ⟨f,hf,_,hfm⟩:=getI_in (xs:=cs) (j:=Y.n_) hcall.1 (by have:=hcall.2.1;omega)
 obtain ⟨hfk,_,_⟩:=few_I hu hf
 have hcnt:cntU ⟨cs⟩≤800:=by
  have:=hu.valid
  simp only [unitB,Bool.and_eq_true,decide_eq_true_eq] at this
  exact this.2.2
 have h2:cntC f≤cntU ⟨cs⟩:=sums_memU (f:=cntC) hfm
 have hnb:=hfk.nb
 refine ⟨b,i,X,Y,f,rfl,hX2,hY2,hop,hf,by omega,by omega,?_⟩
 unfold smP
 simp [getI,hX,hY]
 have:=hf
 unfold getI at this
 split at this
 ·rename_i h0;rw [if_pos h0,this]
 ·cases this
noncomputable def nxI (cs:List Code_) (c:Code_) (most:Int) (r:List (List Int)):Option (List Code_) :=
 match r.find? (smP cs c most) with
 | none=>none
 | some p=>match impl_InlineCall ⟨cs⟩ ((cs.length:Int) - 1) (p.getD 0 0) (p.getD 1 0) with
  | some (rr,true)=>some rr.codes
  | _=>none
theorem find_parts {α:Type} {p:α→Bool} {l r:List α} {x:α} (h:l.any p=false) (hx:p x=true):(l++x::r).find? p=some x:=by
 have:l.find? p=none:=List.find?_eq_none.2 λy hy=>by
  have:=List.any_eq_false.1 h y hy
  simpa using this
 rw [List.find?_append,this,List.find?_cons_of_pos hx];rfl
include hu hc in
theorem nx_ok {r:List (List Int)} (hr:∀ p∈r,p∈plC c) {cs':List Code_} (h:nxI cs c most r=some cs'):Ok ⟨cs'⟩∧cs'.length=cs.length∧∃ c',getI cs' ((cs'.length:Int) - 1)=some c'∧wK c'<wK c:=by
 unfold nxI at h
 split at h
 ·cases h
 ·rename_i p hp
  obtain ⟨b,i,X,Y,f,rfl,hX,hY,hop,hf,_,_,_⟩:=one_place (most:=most) hu hc (hr p (List.mem_of_find?_eq_some hp))
  obtain ⟨rr,bo,h1,_,h3⟩:=inlineCall_ok ⟨cs⟩ hu.small ((cs.length:Int) - 1) (b:Int) (i:Int)
  simp only [List.getD_cons_zero,List.getD_cons_succ] at h
  rw [h1] at h
  rcases h3 with ⟨rfl,_⟩ | ⟨rfl,h4,c1,f1,X1,Y1,zl,g1,g2,g3,g4,g5,g6,rfl⟩
  ·cases h
  ·simp only [osI] at h
   subst h
   rw [hc] at g1;cases g1
   rw [hX] at g2;cases g2
   rw [hY] at g3;cases g3
   rw [hf] at g5;cases g5
   have hl:=(getI_some.1 hc)
   have hlt:=(lgE.1 hl.2).1
   refine ⟨h4,by simp,reI c f b i X Y zl,?_,?_⟩
   ·rw [List.length_set]
    refine getI_some.2 ⟨hl.1,?_⟩
    rw [List.getElem?_set_self hlt]
    simp
   ·have h0 : 0 ≤ Y.n_ := (getI_some.1 hf).1
    have e1:=wK_re (c:=c) (f:=f) (b:=b) (i:=i) (zl:=zl) (by simpa [getI] using hX) (by simpa [getI] using hY)
    have e2:=wK_lt hu hf h0
    have e3:wI Y=801 ^ Y.n_.toNat:=if_pos hop
    omega
include hu hc in
theorem round_impl {u : Unit_} (hn : u.codes.length = cs.length) :
  (λ(xs1_1:(List Code_))=>(Option.bind (getI xs1_1 (((u.codes.length:Int)) - 1)) λx1_1=>Option.bind (impl_callPlaces x1_1) λr1_2=>Option.bind (slices_IndexFunc_S_S_int_S_int r1_2 (λy0=>impl_InlineSmall_1 y0 (⟨xs1_1⟩:Unit_) x1_1 most)) λr1_3=>if decide (r1_3<0) then some (.inr ((⟨xs1_1⟩:Unit_),true)) else Option.bind (getI r1_2 r1_3) λx1_2=>Option.bind (Option.bind (getI x1_2 0) λpb2_1=>Option.bind (getI x1_2 1) λpb2_2=>Option.bind (impl_InlineCall (⟨xs1_1⟩:Unit_) (((u.codes.length:Int)) - 1) pb2_1 pb2_2) λpb2_3=>some (pb2_3.1.codes,pb2_3.2):Option ((List Code_) × Bool)) λs1_1=>if !(s1_1.2) then some (.inr ((⟨xs1_1⟩:Unit_),true)) else some (.inl s1_1.1):Option (((List Code_)) ⊕ (Unit_ × Bool)))) cs=match nxI cs c most (plC c) with | none=>some (.inr (⟨cs⟩,true)) | some cs'=>some (.inl cs'):=by
 obtain ⟨hck,_,_⟩:=few_I hu hc
 have hcnt:cntU ⟨cs⟩≤800:=by
  have:=hu.valid
  simp only [unitB,Bool.and_eq_true,decide_eq_true_eq] at this
  exact this.2.2
 have hcc:sums cntB c.blocks≤800:=Nat.le_trans (sums_memU (f:=cntC) (List.mem_of_getElem? (getI_some.1 hc).2)) hcnt
 have hnb:=hck.nb
 rw [hn]
 dsimp only
 rw [hc,obS,places_impl hcc (by omega),obS]
 have hone:∀ p∈plC c,impl_InlineSmall_1 p ⟨cs⟩ c most=some (smP cs c most p):=λp hp=>by
  obtain ⟨b,i,X,Y,f,rfl,hX,hY,hop,hf,h1,h2,h3⟩:=one_place (most:=most) hu hc hp
  unfold impl_InlineSmall_1
  have e0:getI [(b:Int),(i:Int)] 0=some (b:Int):=rfl
  have e1:getI [(b:Int),(i:Int)] 1=some (i:Int):=rfl
  rw [e0,e1,obS,obS,hX,obS,hY,obS,hf,obS,count_ok f (by omega) (λx hx=>by
   have h4:cntB x≤cntC f:=sums_memU hx
   have h5:cntB x=x.phis.length+x.ins.length:=rfl
   omega),obS,h3]
 rcases idxFunc_ok hone with ⟨h1,h2⟩ | ⟨l,p,r,h1,h2,h3,h4⟩
 ·rw [h2, obS]
  have:(plC c).find? (smP cs c most)=none:=List.find?_eq_none.2 λy hy=>by
   have:=List.any_eq_false.1 h1 y hy
   simpa using this
  unfold nxI
  rw [this]
  rfl
 ·have hlen := congrArg List.length h1
  simp at hlen
  rw [h4,obS]
  rw [if_neg (by simp),h1,getI_mid,obS]
  unfold nxI
  rw [find_parts h2 h3]
  obtain ⟨b,i,X,Y,f,rfl,hX,hY,hop,hf,_,_,_⟩:=one_place (most:=most) hu hc (p:=p) (by rw [h1];simp)
  have e0:getI [(b:Int),(i:Int)] 0=some (b:Int):=rfl
  have e1:getI [(b:Int),(i:Int)] 1=some (i:Int):=rfl
  obtain ⟨rr,bo,g1,_,_⟩:=inlineCall_ok ⟨cs⟩ hu.small ((cs.length:Int) - 1) (b:Int) (i:Int)
  rw [e0,e1]
  simp only [obS,List.getD_cons_zero,List.getD_cons_succ,g1]
  cases bo<;>rfl
end
end Unt
end Go.Wk
namespace Go.Wk
open Go
namespace Unt
set_option maxRecDepth 10000
section
variable {cs:List Code_} {most:Int} {c:Code_} (hu:Ok ⟨cs⟩) (hc:getI cs ((cs.length:Int) - 1)=some c)
include hu hc
theorem inner_spec {xs : List Code_ × Bool} (hxs : xs.1.length = cs.length) {ls : List (List Int)} (hls : ls = plC c) (h8 : ls.length ≤ 800) : ∀ (r l : List (List Int)), plC c = l ++ r →
  (∃ cs',nxI cs c most r=some cs'∧loopM (λ(xs4_1:(List Code_) × Bool × Int)=>(Option.bind (if decide (xs4_1.2.2<((ls.length:Int))) then some (!(xs4_1.2.1)) else some false:Option (Bool)) λs4_1=>if s4_1 then Option.bind (Option.bind (getI xs4_1.1 (((xs.1.length:Int)) - 1)) λx5_1=>Option.bind (getI ls xs4_1.2.2) λx5_2=>Option.bind (getI x5_2 0) λx5_3=>Option.bind (getI x5_2 1) λx5_4=>Option.bind (getI x5_1.blocks x5_3) λx5_5=>Option.bind (getI x5_5.ins x5_4) λx5_6=>Option.bind (some ():Option (Unit)) λs5_1=>Option.bind (getI xs4_1.1 x5_6.n_) λx5_7=>Option.bind (spec_l19Size x5_7) λr5_1=>if decide (most<r5_1) then some (.inl (xs4_1.1,xs4_1.2.1)) else Option.bind (getI ls xs4_1.2.2) λx5_8=>Option.bind (Option.bind (getI x5_8 0) λpb6_1=>Option.bind (getI x5_8 1) λpb6_2=>Option.bind (spec_InlineCall (⟨xs4_1.1⟩:Unit_) (((xs.1.length:Int)) - 1) pb6_1 pb6_2) λpb6_3=>some (pb6_3.1.codes,pb6_3.2):Option ((List Code_) × Bool)) λs5_2=>if !(s5_2.2) then some (.inr ((⟨xs4_1.1⟩:Unit_),true)) else some (.inl (s5_2.1,true)):Option (((List Code_) × Bool) ⊕ (Unit_ × Bool))) (Sum.elim (λs4_2=>some (.inl (s4_2.1,s4_2.2,w64 (xs4_1.2.2+1)))) (λe0=>some (.inr (.inl e0)))) else some (.inr (.inr (xs4_1.1,xs4_1.2.1))):Option (((List Code_) × Bool × Int) ⊕ ((Unit_ × Bool) ⊕ ((List Code_) × Bool))))) (cs,false,(l.length:Int))=some (.inr (cs',true))) ∨
  (nxI cs c most r=none∧(loopM (λ(xs4_1:(List Code_) × Bool × Int)=>(Option.bind (if decide (xs4_1.2.2<((ls.length:Int))) then some (!(xs4_1.2.1)) else some false:Option (Bool)) λs4_1=>if s4_1 then Option.bind (Option.bind (getI xs4_1.1 (((xs.1.length:Int)) - 1)) λx5_1=>Option.bind (getI ls xs4_1.2.2) λx5_2=>Option.bind (getI x5_2 0) λx5_3=>Option.bind (getI x5_2 1) λx5_4=>Option.bind (getI x5_1.blocks x5_3) λx5_5=>Option.bind (getI x5_5.ins x5_4) λx5_6=>Option.bind (some ():Option (Unit)) λs5_1=>Option.bind (getI xs4_1.1 x5_6.n_) λx5_7=>Option.bind (spec_l19Size x5_7) λr5_1=>if decide (most<r5_1) then some (.inl (xs4_1.1,xs4_1.2.1)) else Option.bind (getI ls xs4_1.2.2) λx5_8=>Option.bind (Option.bind (getI x5_8 0) λpb6_1=>Option.bind (getI x5_8 1) λpb6_2=>Option.bind (spec_InlineCall (⟨xs4_1.1⟩:Unit_) (((xs.1.length:Int)) - 1) pb6_1 pb6_2) λpb6_3=>some (pb6_3.1.codes,pb6_3.2):Option ((List Code_) × Bool)) λs5_2=>if !(s5_2.2) then some (.inr ((⟨xs4_1.1⟩:Unit_),true)) else some (.inl (s5_2.1,true)):Option (((List Code_) × Bool) ⊕ (Unit_ × Bool))) (Sum.elim (λs4_2=>some (.inl (s4_2.1,s4_2.2,w64 (xs4_1.2.2+1)))) (λe0=>some (.inr (.inl e0)))) else some (.inr (.inr (xs4_1.1,xs4_1.2.1))):Option (((List Code_) × Bool × Int) ⊕ ((Unit_ × Bool) ⊕ ((List Code_) × Bool))))) (cs,false,(l.length:Int))=some (.inr (cs,false))∨loopM (λ(xs4_1:(List Code_) × Bool × Int)=>(Option.bind (if decide (xs4_1.2.2<((ls.length:Int))) then some (!(xs4_1.2.1)) else some false:Option (Bool)) λs4_1=>if s4_1 then Option.bind (Option.bind (getI xs4_1.1 (((xs.1.length:Int)) - 1)) λx5_1=>Option.bind (getI ls xs4_1.2.2) λx5_2=>Option.bind (getI x5_2 0) λx5_3=>Option.bind (getI x5_2 1) λx5_4=>Option.bind (getI x5_1.blocks x5_3) λx5_5=>Option.bind (getI x5_5.ins x5_4) λx5_6=>Option.bind (some ():Option (Unit)) λs5_1=>Option.bind (getI xs4_1.1 x5_6.n_) λx5_7=>Option.bind (spec_l19Size x5_7) λr5_1=>if decide (most<r5_1) then some (.inl (xs4_1.1,xs4_1.2.1)) else Option.bind (getI ls xs4_1.2.2) λx5_8=>Option.bind (Option.bind (getI x5_8 0) λpb6_1=>Option.bind (getI x5_8 1) λpb6_2=>Option.bind (spec_InlineCall (⟨xs4_1.1⟩:Unit_) (((xs.1.length:Int)) - 1) pb6_1 pb6_2) λpb6_3=>some (pb6_3.1.codes,pb6_3.2):Option ((List Code_) × Bool)) λs5_2=>if !(s5_2.2) then some (.inr ((⟨xs4_1.1⟩:Unit_),true)) else some (.inl (s5_2.1,true)):Option (((List Code_) × Bool) ⊕ (Unit_ × Bool))) (Sum.elim (λs4_2=>some (.inl (s4_2.1,s4_2.2,w64 (xs4_1.2.2+1)))) (λe0=>some (.inr (.inl e0)))) else some (.inr (.inr (xs4_1.1,xs4_1.2.1))):Option (((List Code_) × Bool × Int) ⊕ ((Unit_ × Bool) ⊕ ((List Code_) × Bool))))) (cs,false,(l.length:Int))=some (.inl (⟨cs⟩,true)))):=by
 intro r
 induction r with
 | nil =>
  intro l he
  refine .inr ⟨rfl,.inl (loopM_inr ?_)⟩
  dsimp only
  rw [if_neg (by rw [hls,he];simp),obS]
  rfl
 | cons p r ih =>
  intro l he
  have hlen:=congrArg List.length he
  rw [List.length_append,List.length_cons,← hls] at hlen
  obtain ⟨b,i,X,Y,f,rfl,hX,hY,hop,hf,h1,h2,h3⟩:=one_place (most:=most) hu hc (p:=p) (by rw [he];simp)
  have e0:getI [(b:Int),(i:Int)] 0=some (b:Int):=rfl
  have e1:getI [(b:Int),(i:Int)] 1=some (i:Int):=rfl
  have hg:getI ls (l.length:Int)=some [(b:Int),(i:Int)]:=by rw [hls,he,getI_mid]
  have hcond:decide ((l.length:Int)<(ls.length:Int))=true:=by simp;omega
  have hsz:=size_spec (c:=f) h1
  by_cases hbig:most<(cntC f:Int)
  ·have hn:nxI cs c most ([(b:Int),(i:Int)]::r)=nxI cs c most r:=by
    unfold nxI
    rw [List.find?_cons_of_neg (by rw [h3];simp;omega)]
   have hstep:(λ(xs4_1:(List Code_) × Bool × Int)=>(Option.bind (if decide (xs4_1.2.2<((ls.length:Int))) then some (!(xs4_1.2.1)) else some false:Option (Bool)) λs4_1=>if s4_1 then Option.bind (Option.bind (getI xs4_1.1 (((xs.1.length:Int)) - 1)) λx5_1=>Option.bind (getI ls xs4_1.2.2) λx5_2=>Option.bind (getI x5_2 0) λx5_3=>Option.bind (getI x5_2 1) λx5_4=>Option.bind (getI x5_1.blocks x5_3) λx5_5=>Option.bind (getI x5_5.ins x5_4) λx5_6=>Option.bind (some ():Option (Unit)) λs5_1=>Option.bind (getI xs4_1.1 x5_6.n_) λx5_7=>Option.bind (spec_l19Size x5_7) λr5_1=>if decide (most<r5_1) then some (.inl (xs4_1.1,xs4_1.2.1)) else Option.bind (getI ls xs4_1.2.2) λx5_8=>Option.bind (Option.bind (getI x5_8 0) λpb6_1=>Option.bind (getI x5_8 1) λpb6_2=>Option.bind (spec_InlineCall (⟨xs4_1.1⟩:Unit_) (((xs.1.length:Int)) - 1) pb6_1 pb6_2) λpb6_3=>some (pb6_3.1.codes,pb6_3.2):Option ((List Code_) × Bool)) λs5_2=>if !(s5_2.2) then some (.inr ((⟨xs4_1.1⟩:Unit_),true)) else some (.inl (s5_2.1,true)):Option (((List Code_) × Bool) ⊕ (Unit_ × Bool))) (Sum.elim (λs4_2=>some (.inl (s4_2.1,s4_2.2,w64 (xs4_1.2.2+1)))) (λe0=>some (.inr (.inl e0)))) else some (.inr (.inr (xs4_1.1,xs4_1.2.1))):Option (((List Code_) × Bool × Int) ⊕ ((Unit_ × Bool) ⊕ ((List Code_) × Bool))))) (cs,false,(l.length:Int))=some (.inl (cs,false,((l++[[(b:Int),(i:Int)]]).length:Int))):=by
    dsimp only
    rw [hcond]
    simp only [if_true,Bool.not_false,obS,hxs,hc,hg,e0,e1,hX,hY,hf,hsz,hbig,decide_true]
    rw [show (Sum.elim (α:=List Code_ × Bool) (β:=Unit_ × Bool) _ _ (Sum.inl (cs,false)):Option ((List Code_ × Bool × Int) ⊕ ((Unit_ × Bool) ⊕ (List Code_ × Bool))))=_ from rfl,w64_id (by omega) (by omega)]
    simp
   rw [hn,loopM_inl hstep]
   exact ih (l++[[(b:Int),(i:Int)]]) (by rw [he];simp)
  ·obtain ⟨rr, bo, g1, g2, _⟩ := inlineCall_ok ⟨cs⟩ hu.small ((cs.length : Int) - 1) (b : Int) (i : Int)
   have hn:nxI cs c most ([(b:Int),(i:Int)]::r)=if bo then some rr.codes else none:=by
    unfold nxI
    rw [List.find?_cons_of_pos (by rw [h3];simp;omega)]
    simp only [List.getD_cons_zero,List.getD_cons_succ,g1]
    cases bo<;>rfl
   rw [hn]
   cases bo with
   | false =>
    refine .inr ⟨rfl,.inr (loopM_inr ?_)⟩
    dsimp only
    rw [hcond]
    simp only [if_true,Bool.not_false,obS,hxs,hc,hg,e0,e1,hX,hY,hf,hsz,hbig,decide_false,Bool.false_eq_true,if_false,g2]
    rfl
   | true =>
    refine .inl ⟨_,rfl,?_⟩
    rw [loopM_inl (s':=(rr.codes,true,w64 ((l.length:Int)+1)))]
    ·refine loopM_inr ?_
     dsimp only
     split<;>rfl
    ·dsimp only
     rw [hcond]
     simp only [if_true,Bool.not_false,obS,hxs,hc,hg,e0,e1,hX,hY,hf,hsz,hbig,decide_false,Bool.false_eq_true,if_false,g2,Bool.not_true]
     rfl
theorem round_spec :
  (∃ cs',nxI cs c most (plC c)=some cs'∧(λ(xs2_1:(List Code_) × Bool)=>(if xs2_1.2 then Option.bind (spec_CallPlaces (⟨xs2_1.1⟩:Unit_) (((xs2_1.1.length:Int)) - 1)) λr2_1=>Option.bind (Option.bind (loopM (S:=(List Code_) × Bool × Int) (X:=(Unit_ × Bool) ⊕ ((List Code_) × Bool)) (λxs4_1=>Option.bind (if decide (xs4_1.2.2<((r2_1.length:Int))) then some (!(xs4_1.2.1)) else some false:Option (Bool)) λs4_1=>if s4_1 then Option.bind (Option.bind (getI xs4_1.1 (((xs2_1.1.length:Int)) - 1)) λx5_1=>Option.bind (getI r2_1 xs4_1.2.2) λx5_2=>Option.bind (getI x5_2 0) λx5_3=>Option.bind (getI x5_2 1) λx5_4=>Option.bind (getI x5_1.blocks x5_3) λx5_5=>Option.bind (getI x5_5.ins x5_4) λx5_6=>Option.bind (some ():Option (Unit)) λs5_1=>Option.bind (getI xs4_1.1 x5_6.n_) λx5_7=>Option.bind (spec_l19Size x5_7) λr5_1=>if decide (most<r5_1) then some (.inl (xs4_1.1,xs4_1.2.1)) else Option.bind (getI r2_1 xs4_1.2.2) λx5_8=>Option.bind (Option.bind (getI x5_8 0) λpb6_1=>Option.bind (getI x5_8 1) λpb6_2=>Option.bind (spec_InlineCall (⟨xs4_1.1⟩:Unit_) (((xs2_1.1.length:Int)) - 1) pb6_1 pb6_2) λpb6_3=>some (pb6_3.1.codes,pb6_3.2):Option ((List Code_) × Bool)) λs5_2=>if !(s5_2.2) then some (.inr ((⟨xs4_1.1⟩:Unit_),true)) else some (.inl (s5_2.1,true)):Option (((List Code_) × Bool) ⊕ (Unit_ × Bool))) (Sum.elim (λs4_2=>some (.inl (s4_2.1,s4_2.2,w64 (xs4_1.2.2+1)))) (λe0=>some (.inr (.inl e0)))) else some (.inr (.inr (xs4_1.1,xs4_1.2.1)))) (xs2_1.1,false,0)) (Sum.elim (λe0=>some (.inr e0)) (λe1=>some (.inl e1))):Option (((List Code_) × Bool) ⊕ (Unit_ × Bool))) (Sum.elim (λs2_1=>some (.inl (s2_1.1,s2_1.2))) (λe0=>some (.inr (.inl e0)))) else some (.inr (.inr xs2_1.1)):Option (((List Code_) × Bool) ⊕ ((Unit_ × Bool) ⊕ (List Code_))))) (cs,true)=some (.inl (cs',true))) ∨
  (nxI cs c most (plC c)=none∧((λ(xs2_1:(List Code_) × Bool)=>(if xs2_1.2 then Option.bind (spec_CallPlaces (⟨xs2_1.1⟩:Unit_) (((xs2_1.1.length:Int)) - 1)) λr2_1=>Option.bind (Option.bind (loopM (S:=(List Code_) × Bool × Int) (X:=(Unit_ × Bool) ⊕ ((List Code_) × Bool)) (λxs4_1=>Option.bind (if decide (xs4_1.2.2<((r2_1.length:Int))) then some (!(xs4_1.2.1)) else some false:Option (Bool)) λs4_1=>if s4_1 then Option.bind (Option.bind (getI xs4_1.1 (((xs2_1.1.length:Int)) - 1)) λx5_1=>Option.bind (getI r2_1 xs4_1.2.2) λx5_2=>Option.bind (getI x5_2 0) λx5_3=>Option.bind (getI x5_2 1) λx5_4=>Option.bind (getI x5_1.blocks x5_3) λx5_5=>Option.bind (getI x5_5.ins x5_4) λx5_6=>Option.bind (some ():Option (Unit)) λs5_1=>Option.bind (getI xs4_1.1 x5_6.n_) λx5_7=>Option.bind (spec_l19Size x5_7) λr5_1=>if decide (most<r5_1) then some (.inl (xs4_1.1,xs4_1.2.1)) else Option.bind (getI r2_1 xs4_1.2.2) λx5_8=>Option.bind (Option.bind (getI x5_8 0) λpb6_1=>Option.bind (getI x5_8 1) λpb6_2=>Option.bind (spec_InlineCall (⟨xs4_1.1⟩:Unit_) (((xs2_1.1.length:Int)) - 1) pb6_1 pb6_2) λpb6_3=>some (pb6_3.1.codes,pb6_3.2):Option ((List Code_) × Bool)) λs5_2=>if !(s5_2.2) then some (.inr ((⟨xs4_1.1⟩:Unit_),true)) else some (.inl (s5_2.1,true)):Option (((List Code_) × Bool) ⊕ (Unit_ × Bool))) (Sum.elim (λs4_2=>some (.inl (s4_2.1,s4_2.2,w64 (xs4_1.2.2+1)))) (λe0=>some (.inr (.inl e0)))) else some (.inr (.inr (xs4_1.1,xs4_1.2.1)))) (xs2_1.1,false,0)) (Sum.elim (λe0=>some (.inr e0)) (λe1=>some (.inl e1))):Option (((List Code_) × Bool) ⊕ (Unit_ × Bool))) (Sum.elim (λs2_1=>some (.inl (s2_1.1,s2_1.2))) (λe0=>some (.inr (.inl e0)))) else some (.inr (.inr xs2_1.1)):Option (((List Code_) × Bool) ⊕ ((Unit_ × Bool) ⊕ (List Code_))))) (cs,true)=some (.inl (cs,false))∨(λ(xs2_1:(List Code_) × Bool)=>(if xs2_1.2 then Option.bind (spec_CallPlaces (⟨xs2_1.1⟩:Unit_) (((xs2_1.1.length:Int)) - 1)) λr2_1=>Option.bind (Option.bind (loopM (S:=(List Code_) × Bool × Int) (X:=(Unit_ × Bool) ⊕ ((List Code_) × Bool)) (λxs4_1=>Option.bind (if decide (xs4_1.2.2<((r2_1.length:Int))) then some (!(xs4_1.2.1)) else some false:Option (Bool)) λs4_1=>if s4_1 then Option.bind (Option.bind (getI xs4_1.1 (((xs2_1.1.length:Int)) - 1)) λx5_1=>Option.bind (getI r2_1 xs4_1.2.2) λx5_2=>Option.bind (getI x5_2 0) λx5_3=>Option.bind (getI x5_2 1) λx5_4=>Option.bind (getI x5_1.blocks x5_3) λx5_5=>Option.bind (getI x5_5.ins x5_4) λx5_6=>Option.bind (some ():Option (Unit)) λs5_1=>Option.bind (getI xs4_1.1 x5_6.n_) λx5_7=>Option.bind (spec_l19Size x5_7) λr5_1=>if decide (most<r5_1) then some (.inl (xs4_1.1,xs4_1.2.1)) else Option.bind (getI r2_1 xs4_1.2.2) λx5_8=>Option.bind (Option.bind (getI x5_8 0) λpb6_1=>Option.bind (getI x5_8 1) λpb6_2=>Option.bind (spec_InlineCall (⟨xs4_1.1⟩:Unit_) (((xs2_1.1.length:Int)) - 1) pb6_1 pb6_2) λpb6_3=>some (pb6_3.1.codes,pb6_3.2):Option ((List Code_) × Bool)) λs5_2=>if !(s5_2.2) then some (.inr ((⟨xs4_1.1⟩:Unit_),true)) else some (.inl (s5_2.1,true)):Option (((List Code_) × Bool) ⊕ (Unit_ × Bool))) (Sum.elim (λs4_2=>some (.inl (s4_2.1,s4_2.2,w64 (xs4_1.2.2+1)))) (λe0=>some (.inr (.inl e0)))) else some (.inr (.inr (xs4_1.1,xs4_1.2.1)))) (xs2_1.1,false,0)) (Sum.elim (λe0=>some (.inr e0)) (λe1=>some (.inl e1))):Option (((List Code_) × Bool) ⊕ (Unit_ × Bool))) (Sum.elim (λs2_1=>some (.inl (s2_1.1,s2_1.2))) (λe0=>some (.inr (.inl e0)))) else some (.inr (.inr xs2_1.1)):Option (((List Code_) × Bool) ⊕ ((Unit_ × Bool) ⊕ (List Code_))))) (cs,true)=some (.inr (.inl (⟨cs⟩,true))))):=by
 obtain ⟨hck,_,_⟩:=few_I hu hc
 have hcnt:cntU ⟨cs⟩≤800:=by
  have:=hu.valid
  simp only [unitB,Bool.and_eq_true,decide_eq_true_eq] at this
  exact this.2.2
 have hcc:sums cntB c.blocks≤800:=Nat.le_trans (sums_memU (f:=cntC) (List.mem_of_getElem? (getI_some.1 hc).2)) hcnt
 have hnb:=hck.nb
 have hcl:=hu.codes
 have hat:atB ⟨cs⟩ ((cs.length:Int) - 1)=true:=by
  unfold atB
  rw [Bool.and_eq_true,inB_iff]
  have hcl2:1≤(cs.length:Int):=hcl.1
  exact ⟨hu.valid,by omega,Int.le_refl _⟩
 have hpl:=places_spec hcc (by omega) (u:=⟨cs⟩) hu.small hat hc
 have h8:(plC c).length≤800:=Nat.le_trans (plC_len rfl) hcc
 dsimp only
 simp only [if_true]
 rw [hpl,obS]
 rcases inner_spec (most:=most) hu hc (xs:=(cs,true)) rfl rfl h8 (plC c) [] rfl with ⟨cs',g1,g2⟩ | ⟨g1,g2 | g2⟩
 ·exact .inl ⟨cs',g1,bindt (bindt g2 rfl) rfl⟩
 ·exact .inr ⟨g1,.inl (bindt (bindt g2 rfl) rfl)⟩
 ·exact .inr ⟨g1,.inr (bindt (bindt g2 rfl) rfl)⟩
end
theorem rounds {u : Unit_} {most : Int} : ∀ (n : Nat) (cs : List Code_) (c : Code_), Ok ⟨cs⟩ → u.codes.length = cs.length → getI cs ((cs.length : Int) - 1) = some c → wK c < n →
  ∃ r,Ok r∧loopM (λ(xs1_1:(List Code_))=>(Option.bind (getI xs1_1 (((u.codes.length:Int)) - 1)) λx1_1=>Option.bind (impl_callPlaces x1_1) λr1_2=>Option.bind (slices_IndexFunc_S_S_int_S_int r1_2 (λy0=>impl_InlineSmall_1 y0 (⟨xs1_1⟩:Unit_) x1_1 most)) λr1_3=>if decide (r1_3<0) then some (.inr ((⟨xs1_1⟩:Unit_),true)) else Option.bind (getI r1_2 r1_3) λx1_2=>Option.bind (Option.bind (getI x1_2 0) λpb2_1=>Option.bind (getI x1_2 1) λpb2_2=>Option.bind (impl_InlineCall (⟨xs1_1⟩:Unit_) (((u.codes.length:Int)) - 1) pb2_1 pb2_2) λpb2_3=>some (pb2_3.1.codes,pb2_3.2):Option ((List Code_) × Bool)) λs1_1=>if !(s1_1.2) then some (.inr ((⟨xs1_1⟩:Unit_),true)) else some (.inl s1_1.1):Option (((List Code_)) ⊕ (Unit_ × Bool)))) cs=some (r,true)∧∃ y,loopM (λ(xs2_1:(List Code_) × Bool)=>(if xs2_1.2 then Option.bind (spec_CallPlaces (⟨xs2_1.1⟩:Unit_) (((xs2_1.1.length:Int)) - 1)) λr2_1=>Option.bind (Option.bind (loopM (S:=(List Code_) × Bool × Int) (X:=(Unit_ × Bool) ⊕ ((List Code_) × Bool)) (λxs4_1=>Option.bind (if decide (xs4_1.2.2<((r2_1.length:Int))) then some (!(xs4_1.2.1)) else some false:Option (Bool)) λs4_1=>if s4_1 then Option.bind (Option.bind (getI xs4_1.1 (((xs2_1.1.length:Int)) - 1)) λx5_1=>Option.bind (getI r2_1 xs4_1.2.2) λx5_2=>Option.bind (getI x5_2 0) λx5_3=>Option.bind (getI x5_2 1) λx5_4=>Option.bind (getI x5_1.blocks x5_3) λx5_5=>Option.bind (getI x5_5.ins x5_4) λx5_6=>Option.bind (some ():Option (Unit)) λs5_1=>Option.bind (getI xs4_1.1 x5_6.n_) λx5_7=>Option.bind (spec_l19Size x5_7) λr5_1=>if decide (most<r5_1) then some (.inl (xs4_1.1,xs4_1.2.1)) else Option.bind (getI r2_1 xs4_1.2.2) λx5_8=>Option.bind (Option.bind (getI x5_8 0) λpb6_1=>Option.bind (getI x5_8 1) λpb6_2=>Option.bind (spec_InlineCall (⟨xs4_1.1⟩:Unit_) (((xs2_1.1.length:Int)) - 1) pb6_1 pb6_2) λpb6_3=>some (pb6_3.1.codes,pb6_3.2):Option ((List Code_) × Bool)) λs5_2=>if !(s5_2.2) then some (.inr ((⟨xs4_1.1⟩:Unit_),true)) else some (.inl (s5_2.1,true)):Option (((List Code_) × Bool) ⊕ (Unit_ × Bool))) (Sum.elim (λs4_2=>some (.inl (s4_2.1,s4_2.2,w64 (xs4_1.2.2+1)))) (λe0=>some (.inr (.inl e0)))) else some (.inr (.inr (xs4_1.1,xs4_1.2.1)))) (xs2_1.1,false,0)) (Sum.elim (λe0=>some (.inr e0)) (λe1=>some (.inl e1))):Option (((List Code_) × Bool) ⊕ (Unit_ × Bool))) (Sum.elim (λs2_1=>some (.inl (s2_1.1,s2_1.2))) (λe0=>some (.inr (.inl e0)))) else some (.inr (.inr xs2_1.1)):Option (((List Code_) × Bool) ⊕ ((Unit_ × Bool) ⊕ (List Code_))))) (cs,true)=some y∧(y=.inl (r,true)∨y=.inr r.codes):=by
 intro n
 induction n with
 | zero=>intro cs c _ _ _ h;omega
 | succ n ih =>
  intro cs c hu hn hc hw
  have h1:=round_impl (most:=most) hu hc hn
  rcases round_spec (most:=most) hu hc with ⟨cs',g1,g2⟩ | ⟨g1,g2 | g2⟩
  ·rw [g1] at h1
   obtain ⟨k1,k2,c',k3,k4⟩:=nx_ok hu hc (λ_ h=>h) g1
   obtain ⟨r,r1,r2,y,r3,r4⟩:=ih cs' c' k1 (by omega) k3 (by omega)
   exact ⟨r,r1,(loopM_inl h1).trans r2,y,(loopM_inl g2).trans r3,r4⟩
  ·rw [g1] at h1
   refine ⟨⟨cs⟩,hu,loopM_inr h1,.inr cs,(loopM_inl g2).trans (loopM_inr rfl),.inr rfl⟩
  ·rw [g1] at h1
   exact ⟨⟨cs⟩,hu,loopM_inr h1,_,loopM_inr g2,.inl rfl⟩
theorem inlineSmall_ok (u:Unit_) (hs:Small u) (most:Int):∃ r bo,impl_InlineSmall u most=some (r,bo)∧spec_InlineSmall u most=some (r,bo)∧(r=⟨[]⟩∨Ok r):=by
 unfold impl_InlineSmall spec_InlineSmall
 rw [implValid_ok u hs,specValid_ok u hs]
 cases hv:unitB u with
 | false=>exact ⟨_,_,rfl,rfl,.inl rfl⟩
 | true =>
 simp only [Bool.not_true,Bool.false_eq_true,if_false,obS]
 by_cases hm:most<0
 ·simp only [hm, decide_true, if_true]
  exact ⟨_,_,rfl,rfl,.inl rfl⟩
 have hu:Ok u:=⟨hv,hs⟩
 have hcl:=hu.codes
 have hall:∀ c∈u.codes,c.blocks.length≤1048576∧∀ b∈c.blocks,SmB b:=λd hd=>by
  obtain ⟨n,hn⟩:=List.getElem?_of_mem hd
  obtain ⟨h1,h2,_⟩:=few_I hu (getI_some.2 ⟨by omega,by simpa using hn⟩:getI u.codes (n:Int)=some d)
  have:=h1.nb
  exact ⟨by omega,h2⟩
 simp only [hm,decide_false,Bool.false_eq_true,if_false,cloneUnit_I (u:=u) (by omega) hall,copyUnit_I (u:=u) (by omega) hall,obS]
 obtain ⟨c,hc,_,_⟩:=getI_in (xs:=u.codes) (j:=(u.codes.length:Int) - 1) (by omega) (by omega)
 obtain ⟨r,h1,h2,y,h3,h4⟩:=rounds (u:=u) (most:=most) (wK c+1) u.codes c hu rfl hc (Nat.lt_succ_self _)
 refine ⟨r,true,bindt h2 rfl,?_,.inr h1⟩
 rcases h4 with rfl | rfl
 ·exact bindt (bindt h3 rfl) rfl
 ·exact bindt (bindt h3 rfl) rfl
theorem lawInlineSmall (u:Unit_) (most:Int) (hl:LUnit u):laws_FnExactInlineSmall u most=some true:=by
 unfold laws_FnExactInlineSmall
 rw [szUnit_ok u hl (by decide) (by decide),obS,lt0 (by decide)]
 by_cases hn:(nUnit u:Int)≤1048576
 rotate_left
 ·simp [hn]
 have hf:Fits u:=by unfold Fits;omega
 have hw:=w_le u
 obtain ⟨r,bo,h1,h2,h3⟩:=inlineSmall_ok u hf.small most
 have h3:(wCodeS r.codes:Int)≤900000000:=by
  rcases h3 with rfl | h
  ·decide
  ·exact valid_w h
 have hm1:=markUnit_ok u 1 (by decide) (by unfold BM;omega)
 have hm2:=markUnit_ok r 1 (by decide) (by unfold BM;omega)
 have hh2:=heldUnit_ok r 1 (by decide) (by unfold BM;omega)
 have e1:¬ (1+(wCodeS u.codes:Int)<0):=by omega
 have e2:¬ (1+(wCodeS r.codes:Int)<0):=by omega
 simp only [hn,decide_true,Bool.not_true,Bool.false_eq_true,if_false,toUnit_ok u hf,obS,h1,h2,eqUnit_ok,hm1,hm2,hh2,e1,e2,decide_false,ne_eq,not_true_eq_false]
end Unt
end Go.Wk
