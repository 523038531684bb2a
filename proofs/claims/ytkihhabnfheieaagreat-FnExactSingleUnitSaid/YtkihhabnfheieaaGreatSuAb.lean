/- A part of the proof of FnExactSingleUnitSaid. -/
import Derived.Test.YtkihhabnfheieaaGreatSuA
namespace Go.Wk
open Go
namespace Unt
set_option maxRecDepth 10000
section
variable {u:kU} {k:Int} {c:jv} (hc:COk u k c) (hs:∀ x∈c.b,x.a.length<=1048576/\x.i.length<=1048576)
include hc hs
theorem cc8 {K H : List (List Bool)} (hI : tz c K H) : ∃ q : List (List Bool) × List (List Bool) × Bool, kx (fun (e : (List (List Bool)) × (List (List Bool)) × Bool × Int) => (if decide (0 <= e.2.2.2) then ((kx (S := (List (List Bool)) × Bool × Int) (X := (List (List Bool)) × Bool) (fun L => (jr c.b e.2.2.2).bind fun uI => if decide (L.2.2 < ((uI.n.length : Int))) then ((jr uI.n L.2.2).bind fun uQ => (nL c (⟨e.1, L.1⟩ : n4) e.2.2.2 uQ).bind fun uG => if uG.1 then some (uG.2, true) else some (uG.2, L.2.1) : Option ((List (List Bool)) × Bool)).bind fun uJ => some (.inl (uJ.1, uJ.2, w64 (L.2.2 + 1))) else some (.inr (L.1, L.2.1))) (e.2.1, e.2.2.1, 0)).bind (fun N => some N) : Option ((List (List Bool)) × Bool)).bind fun uH => (nJ c (⟨e.1, uH.1⟩ : n4) e.2.2.2 (-1)).bind fun uR => ((kx (S := (List Bool) × Int) (X := (List Bool)) (fun M => (jr c.b e.2.2.2).bind fun uL => if decide (M.2 < ((uL.a.length : Int))) then (jr uL.a M.2).bind fun uN => (jr M.1 uN.to).bind fun uZ => some (.inl ((M.1.set (uN.to).toNat false), w64 (M.2 + 1))) else some (.inr M.1)) (uR, 0)).bind (fun N => some N) : Option ((List Bool))).bind fun uO => (tv c.r).bind fun _ => (kO (S := Bool) (X := Empty) (fun uP uS => (if uS then some true else (jr uO uP).bind fun uU => (jr e.1 e.2.2.2).bind fun uV => (jr uV uP).bind fun uW => some (decide (uU ≠ uW)) : Option (Bool)).bind fun uX => some (.inl uX)) ((c.r : Int) - 0).toNat 0 uH.2).bind (Sum.elim (fun uY => (jr e.1 e.2.2.2).bind fun vA => some (.inl ((e.1.set (e.2.2.2).toNat uO), uH.1, uY, w64 (e.2.2.2 - 1)))) (fun (N : Empty) => nomatch N)) else some (.inr (e.1, e.2.1, e.2.2.1)) : Option (((List (List Bool)) × (List (List Bool)) × Bool × Int) ⊕ ((List (List Bool)) × (List (List Bool)) × Bool)))) (K, H, false, ((c.b.length : Int)) - 1) = some q /\ tz c q.1 q.2.1 /\ nT K + nT H <= nT q.1 + nT q.2.1 /\
  (q.2.2=true->nT K+nT H<nT q.1+nT q.2.1)/\(q.2.2=false->∀ b,0<=b->b<(c.b.length:Int)->tH c q.1 q.2.1 b):=by
 have hnb:=hc.nb
 refine lp (b1 := (fun (e : (List (List Bool)) × (List (List Bool)) × Bool × Int) => (if decide (0 <= e.2.2.2) then ((kx (S := (List (List Bool)) × Bool × Int) (X := (List (List Bool)) × Bool) (fun L => (jr c.b e.2.2.2).bind fun uI => if decide (L.2.2 < ((uI.n.length : Int))) then ((jr uI.n L.2.2).bind fun uQ => (nL c (⟨e.1, L.1⟩ : n4) e.2.2.2 uQ).bind fun uG => if uG.1 then some (uG.2, true) else some (uG.2, L.2.1) : Option ((List (List Bool)) × Bool)).bind fun uJ => some (.inl (uJ.1, uJ.2, w64 (L.2.2 + 1))) else some (.inr (L.1, L.2.1))) (e.2.1, e.2.2.1, 0)).bind (fun N => some N) : Option ((List (List Bool)) × Bool)).bind fun uH => (nJ c (⟨e.1, uH.1⟩ : n4) e.2.2.2 (-1)).bind fun uR => ((kx (S := (List Bool) × Int) (X := (List Bool)) (fun M => (jr c.b e.2.2.2).bind fun uL => if decide (M.2 < ((uL.a.length : Int))) then (jr uL.a M.2).bind fun uN => (jr M.1 uN.to).bind fun uZ => some (.inl ((M.1.set (uN.to).toNat false), w64 (M.2 + 1))) else some (.inr M.1)) (uR, 0)).bind (fun N => some N) : Option ((List Bool))).bind fun uO => (tv c.r).bind fun _ => (kO (S := Bool) (X := Empty) (fun uP uS => (if uS then some true else (jr uO uP).bind fun uU => (jr e.1 e.2.2.2).bind fun uV => (jr uV uP).bind fun uW => some (decide (uU ≠ uW)) : Option (Bool)).bind fun uX => some (.inl uX)) ((c.r : Int) - 0).toNat 0 uH.2).bind (Sum.elim (fun uY => (jr e.1 e.2.2.2).bind fun vA => some (.inl ((e.1.set (e.2.2.2).toNat uO), uH.1, uY, w64 (e.2.2.2 - 1)))) (fun (N : Empty) => nomatch N)) else some (.inr (e.1, e.2.1, e.2.2.1)) : Option (((List (List Bool)) × (List (List Bool)) × Bool × Int) ⊕ ((List (List Bool)) × (List (List Bool)) × Bool))))) (fun s : List (List Bool) × List (List Bool) × Bool × Int => (-1 <= s.2.2.2 /\ s.2.2.2 < (c.b.length : Int)) /\ tz c s.1 s.2.1 /\ nT K + nT H <= nT s.1 + nT s.2.1 /\ (s.2.2.1 = true -> nT K + nT H < nT s.1 + nT s.2.1) /\ (s.2.2.1 = false -> ∀ b, s.2.2.2 < b -> b < (c.b.length : Int) -> tH c s.1 s.2.1 b))
  (λq:List (List Bool) × List (List Bool) × Bool=>tz c q.1 q.2.1/\nT K+nT H<=nT q.1+nT q.2.1/\(q.2.2=true->nT K+nT H<nT q.1+nT q.2.1)/\(q.2.2=false->∀ b,0<=b->b<(c.b.length:Int)->tH c q.1 q.2.1 b)) (λs=>(s.2.2.2+1).toNat) (λs a1=>?_) (c.b.length+1) (K,H,false,((c.b.length:Int)) - 1)
  ⟨⟨by dsimp only;omega,by dsimp only;omega⟩,hI,Nat.le_refl _,(λh=>by cases h),λ_ b h1 h2=>by dsimp only at h1;omega⟩ (by dsimp only;omega)
 obtain ⟨ins,outs,ag,b⟩:=s;obtain ⟨⟨g1,g2⟩,g3,g4,g5,g6⟩:=a1;dsimp only at g1 g2 g3 g4 g5 g6;by_cases hb:0<=b
 ·left;obtain ⟨a0,O,a3,e1,e2,_,e4,e5,e6⟩:=ce2 hc hs g3 ag hb g2;refine ⟨(a0,O,a3,b - 1),e1,⟨⟨by dsimp only;omega,by dsimp only;omega⟩,e2,by dsimp only;omega,λh=>?_,λh b' h1 h2=>?_⟩,by dsimp only;omega⟩
  ·dsimp only at h ⊢;rcases e4 h with h | h
   ·have:=g5 h;omega
   ·omega
  ·dsimp only at h h1 ⊢;obtain ⟨q1,q2,q3⟩:=e6 h
   have a2:ag=false:=by cases ag with
    | false=>rfl
    | true=>have:=e5 rfl;rw [h] at this;cases this
   rcases Int.lt_or_eq_of_le (show b<=b' by omega) with h4 | h4
   ·have:=g6 a2 b' h4 h2;have W:∀ r,lz O b' r↔lz outs b' r:=λr=>by unfold lz;rw [q2 b' (by omega)]
    rw [q1];refine ⟨λr hr=>(W r).2 (this.1 r hr),λr hr=>this.2 r (wv (λr h=>(W r).1 h) hr)⟩
   ·subst h4;exact q3
 ·right;exact ⟨(ins,outs,ag),by dsimp only;rw [if_neg (by simpa using hb)],g3,g4,g5,λh b' h1 h2=>g6 h b' (by omega) h2⟩
theorem bq2:∃ ins outs,nq c=some ⟨ins,outs⟩/\tz c ins outs/\vu c (lz ins)/\∀ b r,0<=b->b<(c.b.length:Int)->(lz outs b r↔qk c (lz ins) b r):=by
 have hnb:=hc.nb;have a0:=hc.r;unfold nq
 rcases np (body:=(λ(_:Int) (uL:(List (List Bool)) × (List (List Bool)))=>((oJ (false:Bool) c.r).bind λuU=>(k8 uL.1 ([uU]:List (List Bool))).bind λuV=>(oJ (false:Bool) c.r).bind λuW=>(k8 uL.2 ([uW]:List (List Bool))).bind λuX=>some (.inl (uV,uX)):Option (((List (List Bool)) × (List (List Bool))) ⊕ (Empty))))) (k:=(((c.b.length:Int)) - 0).toNat) (i:=0) (s:=(([]:List (List Bool)),([]:List (List Bool)))) (λi s=>s.1=List.replicate i.toNat (List.replicate c.r.toNat false)/\s.2=List.replicate i.toNat (List.replicate c.r.toNat false)) (λ_=>False) ⟨rfl,rfl⟩ (λj s h1 h2 hI=>by
  left;refine ⟨(List.replicate (j+1).toNat (List.replicate c.r.toNat false),List.replicate (j+1).toNat (List.replicate c.r.toNat false)),?_,rfl,rfl⟩;have e:List.replicate (j+1).toNat (List.replicate c.r.toNat false)=List.replicate j.toNat (List.replicate c.r.toNat false)++[List.replicate c.r.toNat false]:=by rw [show (j+1).toNat=j.toNat+1 by omega,List.replicate_succ']
  rw [nW a0.1 (by omega),obS,hI.1,hI.2,ka (by simp;omega),obS,obS,ka (by simp;omega),obS,e]) with ⟨⟨i0,o0⟩,h,hi0,ho0⟩ | ⟨e,_,h⟩
 rotate_left
 ·exact h.elim
 dsimp only at hi0 ho0
 have hz:∀ (xs:List (List Bool)) (n:Nat),xs=List.replicate n (List.replicate c.r.toNat false)->(∀ b r,¬ lz xs b r)/\∀ b l,jr xs b=some l->(l.length:Int)=c.r:=λxs n e=>by
  have hm:∀ b l,jr xs b=some l->l=List.replicate c.r.toNat false:=λb l M=>by
   have:=List.mem_of_getElem? (jz.1 M).2;rw [e] at this;exact (List.mem_replicate.1 this).2
  refine ⟨?_,λb l M=>by rw [hm b l M];simp;omega⟩;rintro b r ⟨l,M,K⟩;rw [hm b l M] at K;have:=List.mem_of_getElem? (qs.1 K).2;have:=(List.mem_replicate.1 this).2;cases this
 have W:=hz i0 _ hi0;have a1:=hz o0 _ ho0;have a3:tz c i0 o0:=⟨by rw [hi0];simp,by rw [ho0];simp,W.2,a1.2,λb r h=>(W.1 b r h).elim,λb r h=>(a1.1 b r h).elim,λJ _ b r h=>(W.1 b r h).elim⟩
 have hB:∀ xs:List (List Bool),xs.length=c.b.length->(∀ b l,jr xs b=some l->(l.length:Int)=c.r)->nT xs<=c.b.length*c.r.toNat:=λxs M K=>by
  rw [<- M];refine cl6 λm hm=>?_
  obtain ⟨n,hn⟩:=List.getElem?_of_mem hm;have:=K (n:Int) m (jz.2 ⟨by omega,by simpa using hn⟩);omega
 obtain ⟨⟨ins, outs⟩, h2, h3, h4⟩ := lp (b1 := (fun (uG : (List (List Bool)) × (List (List Bool)) × Bool) => (if uG.2.2 then ((kx (S := (List (List Bool)) × (List (List Bool)) × Bool × Int) (X := (List (List Bool)) × (List (List Bool)) × Bool) (fun H => if decide (0 <= H.2.2.2) then ((kx (S := (List (List Bool)) × Bool × Int) (X := (List (List Bool)) × Bool) (fun O => (jr c.b H.2.2.2).bind fun uN => if decide (O.2.2 < ((uN.n.length : Int))) then ((jr uN.n O.2.2).bind fun uY => (nL c (⟨H.1, O.1⟩ : n4) H.2.2.2 uY).bind fun uH => if uH.1 then some (uH.2, true) else some (uH.2, O.2.1) : Option ((List (List Bool)) × Bool)).bind fun uO => some (.inl (uO.1, uO.2, w64 (O.2.2 + 1))) else some (.inr (O.1, O.2.1))) (H.2.1, H.2.2.1, 0)).bind (fun N => some N) : Option ((List (List Bool)) × Bool)).bind fun uI => (nJ c (⟨H.1, uI.1⟩ : n4) H.2.2.2 (-1)).bind fun uZ => ((kx (S := (List Bool) × Int) (X := (List Bool)) (fun uE => (jr c.b H.2.2.2).bind fun uP => if decide (uE.2 < ((uP.a.length : Int))) then (jr uP.a uE.2).bind fun uQ => (jr uE.1 uQ.to).bind fun _ => some (.inl ((uE.1.set (uQ.to).toNat false), w64 (uE.2 + 1))) else some (.inr uE.1)) (uZ, 0)).bind (fun N => some N) : Option ((List Bool))).bind fun uR => (tv c.r).bind fun _ => (kO (S := Bool) (X := Empty) (fun uS vA => (if vA then some true else (jr uR uS).bind fun vB => (jr H.1 H.2.2.2).bind fun vC => (jr vC uS).bind fun vD => some (decide (vB ≠ vD)) : Option (Bool)).bind fun vE => some (.inl vE)) ((c.r : Int) - 0).toNat 0 uI.2).bind (Sum.elim (fun vF => (jr H.1 H.2.2.2).bind fun _ => some (.inl ((H.1.set (H.2.2.2).toNat uR), uI.1, vF, w64 (H.2.2.2 - 1)))) (fun (N : Empty) => nomatch N)) else some (.inr (H.1, H.2.1, H.2.2.1))) (uG.1, uG.2.1, false, ((c.b.length : Int)) - 1)).bind (fun N => some N) : Option ((List (List Bool)) × (List (List Bool)) × Bool)).bind fun uJ => some (.inl (uJ.1, uJ.2.1, uJ.2.2)) else some (.inr (uG.1, uG.2.1)) : Option (((List (List Bool)) × (List (List Bool)) × Bool) ⊕ ((List (List Bool)) × (List (List Bool))))))) (fun s : List (List Bool) × List (List Bool) × Bool => tz c s.1 s.2.1 /\ (s.2.2 = false -> ∀ b, 0 <= b -> b < (c.b.length : Int) -> tH c s.1 s.2.1 b))
  (λq:List (List Bool) × List (List Bool)=>tz c q.1 q.2/\∀ b,0<=b->b<(c.b.length:Int)->tH c q.1 q.2 b) (λs=>2*(2*(c.b.length*c.r.toNat) - (nT s.1+nT s.2.1))+(if s.2.2 then 1 else 0)) (λs a2=>by
   obtain ⟨ins,outs,ag⟩:=s;obtain ⟨L,g2⟩:=a2;dsimp only at L g2 ⊢;cases ag with
   | false=>exact .inr ⟨(ins,outs),by simp,L,g2 rfl⟩
   | true =>
    left;obtain ⟨⟨q1,q2,q3⟩,e1,e2,e3,e4,e5⟩:=cc8 hc hs L;dsimp only at e2 e3 e4 e5;refine ⟨(q1,q2,q3),by rw [if_pos rfl];exact kN (kN e1 rfl) rfl,⟨e2,e5⟩,?_⟩;have b1:=hB q1 e2.li e2.ri;have b2:=hB q2 e2.lo e2.ro;have b3:=hB ins L.li L.ri;have b4:=hB outs L.lo L.ro;dsimp only;cases q3 with
    | false=>simp;omega
    | true=>have:=e4 rfl;simp;omega) _ (i0,o0,true) ⟨a3,λh=>by cases h⟩ (Nat.lt_succ_self _)
 dsimp only at h3 h4;refine ⟨ins,outs,kN h (kN (kN h2 rfl) rfl),h3,⟨λb r K=>?_,λb r h0 h1=>⟨λK=>bc5.2 (wv (h3.upO b) (h3.upI b r K)),λK=>(h4 b h0 h1).2 r (wv ((h4 b h0 h1).1) (bc5.1 K))⟩,h3.least⟩,λb r h0 h1=>⟨h3.upO b r,(h4 b h0 h1).1 r⟩⟩;obtain ⟨l,M,_⟩:=K;obtain ⟨_,L⟩:=jz.1 M;have:=(lgE.1 L).1;rw [h3.li] at this;omega
end
end Unt
end Go.Wk
namespace Go.Wk
open Go
namespace Unt
set_option maxRecDepth 10000
end Unt
end Go.Wk
namespace Go.Wk
open Go
namespace Unt
set_option maxRecDepth 10000
end Unt
end Go.Wk
namespace Go.Wk
open Go
namespace Unt
theorem av4 {c:jv} {x:jq} (h:x∈c.b):∃ b,jr c.b b=some x:=by
 obtain ⟨n,e⟩:=List.getElem?_of_mem h;exact ⟨(n:Int),jz.2 ⟨by omega,by simpa using e⟩⟩
end Unt
end Go.Wk
namespace Go.Wk
open Go
namespace Unt
set_option maxRecDepth 10000
def ag9 (x:kA):Nat:=x.A.length
def ag4 (x:kD):Nat:=x.A.length
def xe (l:List kA):Nat:=l.length+lD ag9 l
def y3 (l:List kD):Nat:=l.length+lD ag4 l
def oL (b:jq):Nat:=xe b.a+y3 b.i+b.n.length
def sW (l:List jq):Nat:=l.length+lD oL l
def wi (c:jv):Nat:=sW c.b
def wx (l:List jv):Nat:=l.length+lD wi l
def xa (u:kU):Nat:=wx u.C
def LPhi (x:kA):Prop:=x.A.length<=140737488355328
def LIns (x:kD):Prop:=x.A.length<=140737488355328
def bp8 (b:jq):Prop:=b.a.length<=140737488355328/\b.i.length<=140737488355328/\b.n.length<=140737488355328/\(∀ x∈b.a,LPhi x)/\∀ x∈b.i,LIns x
def ci7 (c:jv):Prop:=c.b.length<=140737488355328/\∀ b∈c.b,bp8 b
def cr7 (u:kU):Prop:=u.C.length<=140737488355328/\∀ c∈u.C,ci7 c
theorem ad5 (l:List Int) (H:l.length<=140737488355328) {left:Int} (h0:0<=left) (e:left<=1048576):qJ l left=some (if (l.length:Int)<=left then left - l.length else -1):=by
 unfold qJ;rw [kv (by omega) (by omega)];by_cases q:left - (l.length:Int)<0
 ·simp only [q,decide_true,if_true];rw [if_neg (by omega)]
 ·simp only [q,decide_false,Bool.false_eq_true,if_false];rw [if_pos (by omega)]
theorem lt0 {n l:Int} (h0:0<=l):(decide ((if n<=l then l - n else -1)<0))=!decide (n<=l):=by
 by_cases q:n<=l
 ·have : ¬ l - n < 0 := by omega
  simp [q,this]
 ·simp [q]
theorem cj8 (x:kA) (H:LPhi x) {left:Int} (h0:0<=left) (e:left<=1048576):sH x left=some (if (ag9 x:Int)<=left then left - ag9 x else -1):=by
 unfold sH;rw [ad5 _ H h0 e,obS,lt0 h0];by_cases q:(x.A.length:Int)<=left
 ·simp [q,ag9]
 ·simp [q,ag9]
theorem ch9 (x:kD) (H:LIns x) {left:Int} (h0:0<=left) (e:left<=1048576):sF x left=some (if (ag4 x:Int)<=left then left - ag4 x else -1):=by
 unfold sF;rw [ad5 _ H h0 e,obS,lt0 h0];by_cases q:(x.A.length:Int)<=left
 ·simp [q,ag4]
 ·simp [q,ag4]
theorem bx8 (l:List kA) (H:l.length<=140737488355328) (K:∀ x∈l,LPhi x) {left:Int} (h0:0<=left) (e:left<=1048576):ur l left=some (if (xe l:Int)<=left then left - xe l else -1) :=
 az6 sH ag9 H (λx h l a b=>cj8 x (K x h) a b) h0 e (λa x r s h=>by rw [h,kK];rfl)
theorem bz6 (l:List kD) (H:l.length<=140737488355328) (K:∀ x∈l,LIns x) {left:Int} (h0:0<=left) (e:left<=1048576):ue l left=some (if (y3 l:Int)<=left then left - y3 l else -1) :=
 az6 sF ag4 H (λx h l a b=>ch9 x (K x h) a b) h0 e (λa x r s h=>by rw [h,kK];rfl)
theorem bm1 (x:jq) (hx:bp8 x) {left:Int} (h0:0<=left) (N:left<=1048576):qY x left=some (if (oL x:Int)<=left then left - oL x else -1):=by
 obtain ⟨L,M,O,K,W⟩:=hx;unfold qY;rw [bx8 _ L K h0 N,obS,lt0 h0];by_cases q:(xe x.a:Int)<=left
 rotate_left
 ·have : ¬ (oL x : Int) <= left := by unfold oL; omega
  simp [q,this]
 simp only [q,decide_true,Bool.not_true,Bool.false_eq_true,if_false,if_true];rw [bz6 _ M W (by omega) (by omega),obS,lt0 (by omega)];by_cases H:(y3 x.i:Int)<=left - xe x.a
 rotate_left
 ·have : ¬ (oL x : Int) <= left := by unfold oL; omega
  simp [H,this]
 simp only [H,decide_true,Bool.not_true,Bool.false_eq_true,if_false,if_true];rw [ad5 _ O (by omega) (by omega),obS,lt0 (by omega)];by_cases e:(x.n.length:Int)<=left - xe x.a - y3 x.i
 ·have : (oL x : Int) <= left := by unfold oL; omega
  simp only [e,this,decide_true,Bool.not_true,Bool.false_eq_true,if_false,if_true]
  congr 1
  unfold oL;omega
 ·have : ¬ (oL x : Int) <= left := by unfold oL; omega
  simp [e,this]
theorem bg0 (l:List jq) (H:l.length<=140737488355328) (K:∀ x∈l,bp8 x) {left:Int} (h0:0<=left) (e:left<=1048576):sX l left=some (if (sW l:Int)<=left then left - sW l else -1) :=
 az6 qY oL H (λx h l a b=>bm1 x (K x h) a b) h0 e (λa x r s h=>by rw [h,kK];rfl)
theorem bu9 (x:jv) (e:ci7 x) {left:Int} (h0:0<=left) (H:left<=1048576):rI x left=some (if (wi x:Int)<=left then left - wi x else -1):=by
 unfold rI;rw [bg0 _ e.1 e.2 h0 H,obS,lt0 h0];by_cases q:(sW x.b:Int)<=left
 ·simp [q,wi]
 ·simp [q,wi]
theorem bo2 (l:List jv) (H:l.length<=140737488355328) (K:∀ x∈l,ci7 x) {left:Int} (h0:0<=left) (e:left<=1048576):tN l left=some (if (wx l:Int)<=left then left - wx l else -1) :=
 az6 rI wi H (λx h l a b=>bu9 x (K x h) a b) h0 e (λa x r s h=>by rw [h,kK];rfl)
theorem bz3 (x:kU) (e:cr7 x) {left:Int} (h0:0<=left) (H:left<=1048576):sf x left=some (if (xa x:Int)<=left then left - xa x else -1):=by
 unfold sf;rw [bo2 _ e.1 e.2 h0 H,obS,lt0 h0];by_cases q:(wx x.C:Int)<=left
 ·simp [q,xa]
 ·simp [q,xa]
theorem su {α:Type} {f:α->Nat} {xs:List α} {x:α} (h:x∈xs):f x<=lD f xs:=by
 induction xs with
 | nil=>cases h
 | cons y r e =>
  rcases List.mem_cons.1 h with rfl | h
  ·simp only [lD];omega
  ·have:=e h;simp only [lD];omega
def xN (u:kU):Prop:=xa u<=1048576
theorem xN.C {u:kU} (h:xN u):u.C.length<=1048576:=by unfold xN xa wx at h;omega
theorem xN.code {u:kU} (h:xN u) {c:jv} (hc:c∈u.C):sW c.b<=1048576:=by
 have:=su (f:=wi) hc;have e:wi c=sW c.b:=rfl;unfold xN xa wx at h;omega
theorem xN.block {u:kU} (h:xN u) {c:jv} (hc:c∈u.C) {b:jq} (H:b∈c.b):oL b<=1048576:=by
 have e:=h.code hc;have:=su (f:=oL) H;unfold sW at e;omega
theorem xN.small {u:kU} (h:xN u):av9 u:=λc hc b e=>by
 have:=h.block hc e;unfold oL xe y3 at this;omega
theorem aa3 (l:List Int) (h:l.length<=1048576):rJ l=some l :=
 toList (λx=>some x) (by omega) (λ_ _=>rfl) (λa x r s h=>by rw [h,kK])
theorem ce0 (x:kA) (h:x.A.length<=1048576):sJ x=some x:=by unfold sJ;rw [aa3 _ h];rfl
theorem ce7 (x:kD) (h:x.A.length<=1048576):sB x=some x:=by unfold sB;rw [aa3 _ h];rfl
theorem bu4 (l:List kA) (h:xe l<=1048576):ug l=some l:=by
 unfold xe at h;exact toList sJ (by omega) (λx H=>ce0 x (by have:=su (f:=ag9) H;have e:ag9 x=x.A.length:=rfl;omega)) (λa x r s h=>by rw [h,kK];rfl)
theorem bv3 (l:List kD) (h:y3 l<=1048576):uf l=some l:=by
 unfold y3 at h;exact toList sB (by omega) (λx H=>ce7 x (by have:=su (f:=ag4) H;have e:ag4 x=x.A.length:=rfl;omega)) (λa x r s h=>by rw [h,kK];rfl)
theorem bo6 (x:jq) (h:oL x<=1048576):q8 x=some x:=by
 unfold oL at h;unfold q8;rw [bu4 _ (by omega),obS,bv3 _ (by omega),obS,aa3 _ (by omega)];rfl
theorem bj2 (l:List jq) (h:sW l<=1048576):sU l=some l:=by
 unfold sW at h;exact toList q8 (by omega) (λx e=>bo6 x (by have:=su (f:=oL) e;omega)) (λa x r s h=>by rw [h,kK];rfl)
theorem by8 (x:jv) (h:wi x<=1048576):rK x=some x:=by unfold rK;rw [bj2 _ h];rfl
theorem bx6 (x:kU) (h:xN x):pB x=some x:=by
 unfold xN xa wx at h;unfold pB;have:tS x.C=some x.C:=toList rK (by omega) (λy e=>by8 y (by have:=su (f:=wi) e;omega)) (λa x r s h=>by rw [h,kK];rfl);rw [this];rfl
theorem as9 {α:Type} {xs ys:List α} {x y:α} {l r l' L:List α} (e:xs=l++x::r) (H:ys=l'++y::L) (K:l.length=l'.length):jr xs (l.length:Int)=some x/\jr ys (l.length:Int)=some y:=by
 rw [e,kK,K,H,kK];exact ⟨rfl,rfl⟩
theorem aa4 (a b:List Int):rR a b=some (decide (a=b)) :=
 ao1 (λx y=>some (decide (x=y))) (λ_ _ _ _=>rfl) (λl x r l' y _ s K H L=>by
  rw [(as9 K H L).1,(as9 K H L).2]
  by_cases e:x=y<;>simp [e])
theorem ck4 (a b:kA):sC a b=some (decide (a=b)):=by
 unfold sC;rw [aa4];cases a;cases b;simp only [kA.mk.injEq];rename_i L H b1 b2;by_cases e:L=b1<;>by_cases K:H=b2<;>simp [e,K]
theorem cd5 (a b:kD):sQ a b=some (decide (a=b)):=by
 unfold sQ;rw [aa4];cases a;cases b;simp only [kD.mk.injEq];rename_i H M a3 e b1 b2 b3 O;by_cases N:H=b1<;>by_cases K:M=b2<;>by_cases W:a3=b3<;>by_cases L:e=O<;>simp [N,K,W,L]
theorem bu8 (a b:List kA):uw a b=some (decide (a=b)) :=
 ao1 sC (λx _ y _=>ck4 x y) (λl x r l' y _ s H e K=>by rw [(as9 H e K).1,(as9 H e K).2];rfl)
theorem bz4 (a b:List kD):uj a b=some (decide (a=b)) :=
 ao1 sQ (λx _ y _=>cd5 x y) (λl x r l' y _ s H e K=>by rw [(as9 H e K).1,(as9 H e K).2];rfl)
theorem bo7 (a b:jq):qW a b=some (decide (a=b)):=by
 unfold qW;rw [bu8,bz4,aa4];cases a;cases b;simp only [jq.mk.injEq];rename_i K M a3 e a5 b1 b2 b3 b4 H;by_cases O:K=b1<;>by_cases L:M=b2<;>by_cases h3:a3=b3<;>by_cases N:e=b4<;>by_cases W:a5=H<;>simp [O,L,h3,N,W]
theorem bd1 (a b:List jq):sc a b=some (decide (a=b)) :=
 ao1 qW (λx _ y _=>bo7 x y) (λl x r l' y _ s H e K=>by rw [(as9 H e K).1,(as9 H e K).2];rfl)
theorem bz2 (a b:jv):rL a b=some (decide (a=b)):=by
 unfold rL;rw [bd1];cases a;cases b;simp only [jv.mk.injEq];rename_i e K N b1 b2 O;by_cases L:e=b1<;>by_cases H:K=b2<;>by_cases M:N=O<;>simp [L,H,M]
theorem bm2 (a b:List jv):tR a b=some (decide (a=b)) :=
 ao1 rL (λx _ y _=>bz2 x y) (λl x r l' y _ s H e K=>by rw [(as9 H e K).1,(as9 H e K).2];rfl)
theorem bu3 (a b:kU):pD a b=some (decide (a=b)):=by
 unfold pD;rw [bm2];cases a;cases b;simp only [kU.mk.injEq];rename_i H b1;by_cases e:H=b1<;>simp [e]
end Unt
end Go.Wk
namespace Go.Wk
open Go
namespace Unt
set_option maxRecDepth 10000
def ru (a:List Int) (k:Int):List Int:=mkL (λk _=>k) (λ_=>1) a k
def ay4 (x:kA):Nat:=1+x.A.length
def ba3 (x:kD):Nat:=3+x.A.length
def qH (l:List kA):Nat:=lD ay4 l
def rN (l:List kD):Nat:=lD ba3 l
def tj (x:jq):Nat:=qH x.a+rN x.i+2+x.n.length
def tM (l:List jq):Nat:=lD tj l
def xM (x:jv):Nat:=2+tM x.b
def rE (l:List jv):Nat:=lD xM l
def an4 (k:Int) (x:kA):kA:=⟨k,ru x.A (k+1)⟩
def yt (l:List kA) (k:Int):List kA:=mkL an4 ay4 l k
def zT (k:Int) (x:kD):kD:=⟨k,k+1,ru x.A (k+2),k+2+x.A.length⟩
def y7 (l:List kD) (k:Int):List kD:=mkL zT ba3 l k
def sS (k:Int) (x:jq):jq:=⟨yt x.a k,y7 x.i (k+qH x.a),k+qH x.a+rN x.i,k+qH x.a+rN x.i+1,ru x.n (k+qH x.a+rN x.i+2)⟩
def sq (l:List jq) (k:Int):List jq:=mkL sS tj l k
def xJ (k:Int) (x:jv):jv:=⟨k,k+1,sq x.b (k+2)⟩
def wR (l:List jv) (k:Int):List jv:=mkL xJ xM l k
def BM:Int:=1000000000
theorem xh {α:Type} {body:Int->List α × Int->Option ((List α × Int) ⊕ Empty)} (f:Int->α->α) (w:α->Nat) {a:List α} {k:Int} (H:0<=k) (L:k+lD w a<=BM)
  (K:∀ (l:List α) x r (k:Int),0<=k->k+w x<=BM->body (l.length:Int) (l++x::r,k)=some (.inl (l++f k x::r,k+w x))) :
  (kO body ((a.length:Int) - 0).toNat 0 (a,k)).bind (Sum.elim (λx=>some (x.2,x.1)) (λ(e:Empty)=>nomatch e))=some (k+lD w a,mkL f w a k):=by
 rw [by9 f w BM H L K];rfl
theorem xH (a:List Int) (k:Int) (L:0<=k) (M:k+a.length<=BM):nE a k=some (k+a.length,ru a k):=by
 have h:=as1 1 a
 have:=xh (body:=(λ(H:Int) (e:(List Int) × Int)=>((jr e.1 H).bind λ_=>some (.inl ((e.1.set (H).toNat e.2),w64 (e.2+1))):Option (((List Int) × Int) ⊕ (Empty))))) (λk _=>k) (λ_=>1) (a:=a) L (by rw [h];omega) (λl x r k h0 K=>by
  simp only [kK,obS,Int.toNat_natCast,nH];rw [kv (by unfold BM at K;omega) (by unfold BM at K;omega)]
  rfl)
 unfold nE;rw [h,Nat.one_mul] at this;exact this
theorem be2 (a:List kA) (k:Int) (M:0<=k) (O:k+qH a<=BM):qo a k=some (k+qH a,yt a k):=by
 exact xh (body:=(λ(H:Int) (e:(List kA) × Int)=>((jr e.1 H).bind λL=>(nE L.A (w64 (e.2+1))).bind λK=>some (.inl (((e.1.set (H).toNat (⟨e.2,L.A⟩:kA)).set (H).toNat (⟨e.2,K.2⟩:kA)),K.1)):Option (((List kA) × Int) ⊕ (Empty))))) an4 ay4 (a:=a) M O (λl x r k h0 N=>by
  have W:ay4 x=1+x.A.length:=rfl;unfold BM at N;simp only [kK,obS,Int.toNat_natCast,nH];rw [kv (by omega) (by omega),xH x.A (k+1) (by omega) (by unfold BM;omega)];simp only [obS,an4]
  congr 3
  omega)
theorem be4 (a:List kD) (k:Int) (N:0<=k) (W:k+rN a<=BM):qj a k=some (k+rN a,y7 a k):=by
 exact xh (body:=(λ(K:Int) (e:(List kD) × Int)=>((jr e.1 K).bind λH=>(nE H.A (w64 ((w64 (e.2+1))+1))).bind λL=>(jr (((e.1.set (K).toNat (⟨e.2,H.to,H.A,H.N⟩:kD)).set (K).toNat (⟨e.2,w64 (e.2+1),H.A,H.N⟩:kD)).set (K).toNat (⟨e.2,w64 (e.2+1),L.2,H.N⟩:kD)) K).bind λM=>some (.inl (((((e.1.set (K).toNat (⟨e.2,H.to,H.A,H.N⟩:kD)).set (K).toNat (⟨e.2,w64 (e.2+1),H.A,H.N⟩:kD)).set (K).toNat (⟨e.2,w64 (e.2+1),L.2,H.N⟩:kD)).set (K).toNat (⟨M.op,M.to,M.A,L.1⟩:kD)),w64 (L.1+1))):Option (((List kD) × Int) ⊕ (Empty))))) zT ba3 (a:=a) N W (λl x r k h0 O=>by
  have hw:ba3 x=3+x.A.length:=rfl;unfold BM at O;simp only [kK,obS,Int.toNat_natCast,nH];rw [kv (n:=k+1) (by omega) (by omega),kv (n:=k+1+1) (by omega) (by omega),xH x.A (k+1+1) (by omega) (by unfold BM;omega)];simp only [obS,zT,kK,nH];rw [kv (by omega) (by omega)]
  congr 3
  ·simp only [show k+1+1=k+2 by omega]
  ·omega)
theorem at0 (a:List jq) (k:Int) (hk:0<=k) (hB:k+tM a<=BM):pO a k=some (k+tM a,sq a k):=by
 exact xh (body:=(λ(H:Int) (N:(List jq) × Int)=>((jr N.1 H).bind λe=>(qo e.a N.2).bind λO=>(jr (N.1.set (H).toNat (⟨O.2,e.i,e.j,e.on,e.n⟩:jq)) H).bind λL=>(qj L.i O.1).bind λM=>(jr ((N.1.set (H).toNat (⟨O.2,e.i,e.j,e.on,e.n⟩:jq)).set (H).toNat (⟨L.a,M.2,L.j,L.on,L.n⟩:jq)) H).bind λK=>(nE K.n (w64 ((w64 (M.1+1))+1))).bind λW=>some (.inl ((((((N.1.set (H).toNat (⟨O.2,e.i,e.j,e.on,e.n⟩:jq)).set (H).toNat (⟨L.a,M.2,L.j,L.on,L.n⟩:jq)).set (H).toNat (⟨K.a,K.i,M.1,K.on,K.n⟩:jq)).set (H).toNat (⟨K.a,K.i,M.1,w64 (M.1+1),K.n⟩:jq)).set (H).toNat (⟨K.a,K.i,M.1,w64 (M.1+1),W.2⟩:jq)),W.1)):Option (((List jq) × Int) ⊕ (Empty))))) sS tj (a:=a) hk hB (λl x r k h0 h1=>by
  have hw:tj x=qH x.a+rN x.i+2+x.n.length:=rfl;unfold BM at h1;simp only [kK,obS,Int.toNat_natCast,nH];rw [be2 x.a k (by omega) (by unfold BM;omega)];simp only [obS,kK,nH];rw [be4 x.i _ (by omega) (by unfold BM;omega)];simp only [obS,kK,nH];rw [kv (n:=k+(qH x.a:Int)+(rN x.i:Int)+1) (by omega) (by omega),kv (n:=k+(qH x.a:Int)+(rN x.i:Int)+1+1) (by omega) (by omega),xH x.n _ (by omega) (by unfold BM;omega)];simp only [obS,sS]
  congr 3
  ·simp only [show k+(qH x.a:Int)+(rN x.i:Int)+1+1=k+(qH x.a:Int)+(rN x.i:Int)+2 by omega]
  ·omega)
theorem bc9 (a:List jv) (k:Int) (M:0<=k) (O:k+rE a<=BM):rm a k=some (k+rE a,wR a k):=by
 exact xh (body:=(λ(H:Int) (e:(List jv) × Int)=>((jr e.1 H).bind λK=>(pO K.b (w64 ((w64 (e.2+1))+1))).bind λL=>some (.inl ((((e.1.set (H).toNat (⟨e.2,K.r,K.b⟩:jv)).set (H).toNat (⟨e.2,w64 (e.2+1),K.b⟩:jv)).set (H).toNat (⟨e.2,w64 (e.2+1),L.2⟩:jv)),L.1)):Option (((List jv) × Int) ⊕ (Empty))))) xJ xM (a:=a) M O (λl x r k h0 N=>by
  have W:xM x=2+tM x.b:=rfl;unfold BM at N;simp only [kK,obS,Int.toNat_natCast,nH];rw [kv (n:=k+1) (by omega) (by omega),kv (n:=k+1+1) (by omega) (by omega),at0 x.b _ (by omega) (by unfold BM;omega)];simp only [obS,xJ]
  congr 3
  ·simp only [show k+1+1=k+2 by omega]
  ·omega)
theorem ae9 (u:kU) (k:Int) (e:0<=k) (H:k+rE u.C<=BM):pU u k=some (k+rE u.C,wR u.C k):=by
 unfold pU;rw [bc9 _ _ e H];rfl
theorem yC {α:Type} {f g:α->Nat} {c:Nat} {xs:List α} (h:∀ x∈xs,f x<=c+3*g x):lD f xs<=c*xs.length+3*lD g xs:=by
 induction xs with
 | nil=>simp [lD]
 | cons x r e =>
  have L:=h x (by simp);have K:=e λy H=>h y (by simp [H])
  simp only [lD,List.length_cons,Nat.mul_add];omega
theorem dc4 (u:kU):rE u.C<=3*xa u:=by
 have K:∀ x:kA,ay4 x<=1+3*ag9 x:=λx=>by unfold ay4 ag9;omega
 have e:∀ x:kD,ba3 x<=3+3*ag4 x:=λx=>by unfold ba3 ag4;omega
 have L:∀ x:jq,tj x<=2+3*oL x:=λx=>by
  have a:=yC (c:=1) (xs:=x.a) (λy _=>K y);have b:=yC (c:=3) (xs:=x.i) (λy _=>e y);unfold tj qH rN oL xe y3;omega
 have H:∀ x:jv,xM x<=2+3*wi x:=λx=>by
  have a:=yC (c:=2) (xs:=x.b) (λy _=>L y);unfold xM tM wi sW;omega
 have a:=yC (c:=2) (xs:=u.C) (λy _=>H y);unfold rE xa wx;omega
theorem xA (a:List Int) (k:Int) (L:0<=k) (O:k+a.length<=BM):nF (ru a k) k=some (k+a.length):=by
 have h:=as1 1 a;unfold nF
 have:=vj (X:=Int) (body:=(λ(K:Int) (H:Int)=>((jr (ru a k) K).bind λN=>if decide (N≠H) then some (.inr (-1)) else some (.inl (w64 (H+1))):Option ((Int) ⊕ (Int))))) (λk _=>k) (λ_=>1) BM (a:=a) L (by rw [h];omega) (λl x r j M h0 e=>by
  have:jr (ru a k) (l.length:Int)=some j:=by unfold ru;rw [M,kK]
  rw [this];simp only [obS,ne_eq,not_true_eq_false,decide_false,Bool.false_eq_true,if_false];rw [kv (by unfold BM at e;omega) (by unfold BM at e;omega)]
  rfl)
 change (kO _ (((mkL (λk _=>k) (λ_=>1) a k).length:Int) - 0).toNat 0 k).bind _=_;rw [this,h];simp
end Unt
end Go.Wk
namespace Go.Wk
open Go
namespace Unt
set_option maxRecDepth 10000
theorem sy {α:Type} {f:α->Nat} {B:Nat}:∀ {l:List α},(∀ x∈l,f x<=B)->lD f l<=l.length*B
 | [],_=>Nat.zero_le _
 | x::l,h=>by
  have H:=h x (by simp);have K:=sy (l:=l) λy e=>h y (by simp [e])
  simp only [lD,List.length_cons,Nat.add_mul,Nat.one_mul];omega
theorem td {α:Type} {f:α->Nat} {x:α}:∀ {l:List α},x∈l->f x<=lD f l
 | y::l,h=>by
  rcases List.mem_cons.1 h with e | e
  ·subst e;simp only [lD];omega
  ·have:=td (f:=f) e;simp only [lD];omega
theorem bt3 {u:kU} (hu:Ok u) {k:Int} {c:jv} {y:kD} (h:vd u k c y=true):y.A.length<=3:=by
 have hi:=iok h;by_cases e:y.op=14
 ·have H:=(hi.call e).2.2;unfold bj4 at H;split at H
  ·rename_i c' K;have:=(hu.cok K).P;omega
  ·omega
 ·have H:=hi.plain e;unfold yY at H;split at H
  ·omega
  ·split at H<;>omega
theorem cm4 {u:kU} (hu:Ok u):(rE u.C:Int)<=900000000:=by
 have hcnt:ap8 u<=800:=by
  have:=hu.valid;simp only [tI,Bool.and_eq_true,decide_eq_true_eq] at this;exact this.2.2
 have hc:∀ c∈u.C,xM c<=200000000:=λc H=>by
  obtain ⟨n,W⟩:=List.getElem?_of_mem H;have hck:=hu.cok (jz.2 ⟨by omega,by simpa using W⟩:jr u.C (n:Int)=some c);have hnb:=hck.nb
  have K:∀ x∈c.b,tj x<=1000000:=λx L=>by
   obtain ⟨b,K⟩:=av4 L;have e:=hck.bok K;have O:qV x<=pw c:=td (f:=qV) L;have h2:pw c<=ap8 u:=td (f:=pw) H;unfold qV at O
   have p1:qH x.a<=x.a.length*161:=sy λf M=>by
    have:=(e.a f M).2.2.1;have:=pJ c b;unfold ay4;omega
   have p2:rN x.i<=x.i.length*6:=sy λy N=>by
    have:=bt3 hu (e.i y N);unfold ba3;omega
   have p3:=e.j;unfold tj;omega
  have:=sy (f:=tj) K;unfold xM tM;have h3:c.b.length*1000000<=160*1000000:=Nat.mul_le_mul_right _ (by omega);omega
 have h4:=hu.C;have:=sy (f:=xM) hc;have h5:u.C.length*200000000<=4*200000000:=Nat.mul_le_mul_right _ (by omega);unfold rE;omega
end Unt
end Go.Wk
namespace Go.Wk
open Go
namespace Unt
set_option maxRecDepth 10000
theorem bd2 (a:List kA) (k:Int) (M:0<=k) (hB:k+qH a<=BM):pd (yt a k) k=some (k+qH a):=by
 unfold pd
 have:=vj (X:=Int) (body:=(λ(N:Int) (K:Int)=>((jr (yt a k) N).bind λH=>if decide (H.to≠K) then some (.inr (-1)) else (nF H.A (w64 (K+1))).bind λL=>if decide (L<0) then some (.inr (-1)) else some (.inl L):Option ((Int) ⊕ (Int))))) an4 ay4 BM (a:=a) M hB (λl x r j O h0 h1=>by
  have hg:jr (yt a k) (l.length:Int)=some (an4 j x):=by unfold yt;rw [O,kK]
  have hw:ay4 x=1+x.A.length:=rfl;unfold BM at h1;rw [hg,obS,kv (by omega) (by omega)];have W:=xA x.A (j+1) (by omega) (by unfold BM;omega);have e:(an4 j x).A=ru x.A (j+1):=rfl;rw [e,W,if_neg (by simp [an4]),obS,if_neg (by simp;omega)]
  congr 2
  omega)
 exact kN this rfl
theorem bj0 (a:List kD) (k:Int) (M:0<=k) (hB:k+rN a<=BM):p9 (y7 a k) k=some (k+rN a):=by
 unfold p9
 have:=vj (X:=Int) (body:=(λ(N:Int) (K:Int)=>((jr (y7 a k) N).bind λH=>if decide (H.op≠K) then some (.inr (-1)) else if decide (H.to≠(w64 (K+1))) then some (.inr (-1)) else (nF H.A (w64 ((w64 (K+1))+1))).bind λL=>if decide (L<0) then some (.inr (-1)) else if decide (H.N≠L) then some (.inr (-1)) else some (.inl (w64 (L+1))):Option ((Int) ⊕ (Int))))) zT ba3 BM (a:=a) M hB (λl x r j O h0 h1=>by
  have hg:jr (y7 a k) (l.length:Int)=some (zT j x):=by unfold y7;rw [O,kK]
  have hw:ba3 x=3+x.A.length:=rfl;unfold BM at h1;rw [hg,obS,kv (n:=j+1) (by omega) (by omega),kv (n:=j+1+1) (by omega) (by omega)];have W:=xA x.A (j+1+1) (by omega) (by unfold BM;omega);have e:(zT j x).A=ru x.A (j+1+1):=by show ru x.A (j+2)=_;rw [show j+1+1=j+2 by omega]
  rw [e,W,if_neg (by simp [zT]),if_neg (by simp [zT]),obS,if_neg (by simp;omega),kv (by omega) (by omega),if_neg (by simp [zT];omega)]
  congr 2
  omega)
 exact kN this rfl
theorem as5 (a:List jq) (k:Int) (N:0<=k) (hB:k+tM a<=BM):oM (sq a k) k=some (k+tM a):=by
 unfold oM
 have:=vj (X:=Int) (body:=(λ(M:Int) (uI:Int)=>((jr (sq a k) M).bind λe=>(pd e.a uI).bind λL=>if decide (L<0) then some (.inr (-1)) else (p9 e.i L).bind λH=>if decide (H<0) then some (.inr (-1)) else if decide (e.j≠H) then some (.inr (-1)) else if decide (e.on≠(w64 (H+1))) then some (.inr (-1)) else (nF e.n (w64 ((w64 (H+1))+1))).bind λK=>if decide (K<0) then some (.inr (-1)) else some (.inl K):Option ((Int) ⊕ (Int))))) sS tj BM (a:=a) N hB (λl x r j he h0 h1=>by
  have hg:jr (sq a k) (l.length:Int)=some (sS j x):=by unfold sq;rw [he,kK]
  have hw:tj x=qH x.a+rN x.i+2+x.n.length:=rfl;unfold BM at h1;have h2:=bd2 x.a j (by omega) (by unfold BM;omega);have h3:=bj0 x.i (j+qH x.a) (by omega) (by unfold BM;omega);have h4:=xA x.n (j+qH x.a+rN x.i+1+1) (by omega) (by unfold BM;omega);have O:(sS j x).a=yt x.a j:=rfl;have e2:(sS j x).i=y7 x.i (j+qH x.a):=rfl;have W:(sS j x).n=ru x.n (j+qH x.a+rN x.i+1+1):=by show ru x.n (j+qH x.a+rN x.i+2)=_;congr 1;omega
  rw [hg,obS,O,h2,obS,if_neg (by simp;omega),e2,h3,obS,if_neg (by simp;omega),if_neg (by simp [sS]),kv (n:=j+qH x.a+rN x.i+1) (by omega) (by omega),if_neg (by simp [sS]),kv (by omega) (by omega),W,h4,obS,if_neg (by simp;omega)]
  congr 2
  omega)
 exact kN this rfl
theorem ay1 (a:List jv) (k:Int) (L:0<=k) (hB:k+rE a<=BM):qM (wR a k) k=some (k+rE a):=by
 unfold qM
 have:=vj (X:=Int) (body:=(λ(N:Int) (H:Int)=>((jr (wR a k) N).bind λe=>if decide (e.P≠H) then some (.inr (-1)) else if decide (e.r≠(w64 (H+1))) then some (.inr (-1)) else (oM e.b (w64 ((w64 (H+1))+1))).bind λK=>if decide (K<0) then some (.inr (-1)) else some (.inl K):Option ((Int) ⊕ (Int))))) xJ xM BM (a:=a) L hB (λl x r j O h0 h1=>by
  have hg:jr (wR a k) (l.length:Int)=some (xJ j x):=by unfold wR;rw [O,kK]
  have hw:xM x=2+tM x.b:=rfl;unfold BM at h1;have W:=as5 x.b (j+1+1) (by omega) (by unfold BM;omega);have M:(xJ j x).b=sq x.b (j+1+1):=by show sq x.b (j+2)=_;congr 1;omega
  rw [hg,obS,if_neg (by simp [xJ]),kv (n:=j+1) (by omega) (by omega),if_neg (by simp [xJ]),kv (by omega) (by omega),M,W,obS,if_neg (by simp;omega)]
  congr 2
  omega)
 exact kN this rfl
theorem bk6 (u:kU) (k:Int) (e:0<=k) (H:k+rE u.C<=BM):p8 ⟨wR u.C k⟩ k=some (k+rE u.C):=by
 unfold p8;rw [ay1 _ _ e H,obS,if_neg (by simp;omega)]
theorem rl {α β:Type} {body:Int->List β->Option (List β ⊕ Empty)} (g:α->β) {xs:List α} (M:xs.length<=2147483648)
  (L:∀ (l:List α) x r (s:List β),xs=l++x::r->s.length+1<=2147483648->body (l.length:Int) s=some (.inl (s++[g x]))) :
  kO body ((xs.length:Int) - 0).toNat 0 []=some (.inl (xs.map g)):=by
 rcases lB (xs:=xs) (body:=body) (s:=[]) (λl s=>s=l.map g) (λ_=>False) rfl (λl x r s K H=>by
  refine .inl ⟨s++[g x],L l x r s K ?_,by rw [H];simp⟩;have:=congrArg List.length K;simp at this
  rw [H,List.length_map];omega) with ⟨s,h1,h2⟩ | ⟨e,_,h⟩
 ·rw [h1,h2]
 ·exact h.elim
theorem bt2 {α:Type} {body:Int->List α->Option (List α ⊕ Empty)} (g:α->α) {xs:List α}
  (L:∀ (l:List α) x r,x∈xs->body (l.length:Int) (l++x::r)=some (.inl (l++g x::r))) :
  kO body ((xs.length:Int) - 0).toNat 0 xs=some (.inl (xs.map g)):=by
 have key:∀ (r l:List α),(∀ x∈r,x∈xs)->kO body r.length (l.length:Int) (l++r)=some (.inl (l++r.map g)):=by
  intro r
  induction r with
  | nil=>intro l _;rfl
  | cons x r H =>
   intro l e;show kO body (r.length+1) _ _=_;rw [kO,L l x r (e x (by simp))];have:=H (l++[g x]) (λy K=>e y (by simp [K]));simpa using this
 rw [show ((xs.length:Int) - 0).toNat=xs.length by omega];simpa using key xs [] (λx h=>h)
theorem uq (l:List Int) (h:l.length<=2147483648):ky l=some l:=by
 unfold ky;rw [ka (by simpa using h)];rfl
structure SmB (b:jq):Prop where
 a:b.a.length<=1048576
 i:b.i.length<=1048576
 next:b.n.length<=1048576
 pa:∀ x∈b.a,x.A.length<=1048576
 ia:∀ x∈b.i,x.A.length<=1048576
theorem xN.smb {u:kU} (h:xN u) {c:jv} (hc:c∈u.C) {b:jq} (L:b∈c.b):SmB b:=by
 have:=h.block hc L;unfold oL xe y3 at this;refine ⟨by omega,by omega,by omega,λx H=>?_,λx H=>?_⟩
 ·have K:=su (f:=ag9) H;have e:ag9 x=x.A.length:=rfl;omega
 ·have K:=su (f:=ag4) H;have e:ag4 x=x.A.length:=rfl;omega
theorem bf3 (x:kA) (h:x.A.length<=1048576):oX x=some x:=by
 unfold oX;rw [uq _ (by omega)];rfl
theorem bk5 (x:kD) (h:x.A.length<=1048576):o4 x=some x:=by
 unfold o4;rw [uq _ (by omega)];rfl
theorem yZ (b:jq) (h:SmB b):mr b=some b:=by
 unfold mr mb mc
 have W:=rl (xs:=b.a) (body:=(λ(M:Int) (K:(List kA))=>((jr b.a M).bind λN=>(oX N).bind λL=>(k8 K ([L]:List kA)).bind λH=>some (.inl H):Option (((List kA)) ⊕ (Empty))))) (λx=>x) (by have:=h.a;omega) (λl x r s e hs=>by
  rw [e,kK,obS,bf3 x (h.pa x (by rw [e];simp)),obS,ka (by simpa using hs)];rfl)
 have O:=rl (xs:=b.i) (body:=(λ(M:Int) (K:(List kD))=>((jr b.i M).bind λN=>(o4 N).bind λL=>(k8 K ([L]:List kD)).bind λH=>some (.inl H):Option (((List kD)) ⊕ (Empty))))) (λx=>x) (by have:=h.i;omega) (λl x r s e hs=>by
  rw [e,kK,obS,bk5 x (h.ia x (by rw [e];simp)),obS,ka (by simpa using hs)];rfl)
 rw [List.map_id'] at W O;refine kN (a:=b.a) (kN W rfl) ?_;refine kN (a:=b.i) (kN O rfl) ?_;rw [uq _ (by have:=h.next;omega)];rfl
theorem zc (c:jv) (W:c.b.length<=1048576) (h:∀ b∈c.b,SmB b):om c=some c:=by
 unfold om mH
 have H:=rl (xs:=c.b) (body:=(λ(N:Int) (K:(List jq))=>((jr c.b N).bind λO=>(mr O).bind λM=>(k8 K ([M]:List jq)).bind λL=>some (.inl L):Option (((List jq)) ⊕ (Empty))))) (λx=>x) (by omega) (λl x r s e hs=>by
  rw [e,kK,obS,yZ x (h x (by rw [e];simp)),obS,ka (by simpa using hs)];rfl)
 rw [List.map_id'] at H;exact kN (a:=c.b) (kN H rfl) rfl
theorem xC (b:jq) (h:SmB b):mz b=some b:=by
 unfold mz
 have M:=rl (xs:=b.a) (body:=(λ(uE:Int) (O:(List kA))=>((jr b.a uE).bind λK=>(k8 ([]:List Int) K.A).bind λN=>(k8 O ([(⟨K.to,N⟩:kA)]:List kA)).bind λuI=>some (.inl uI):Option (((List kA)) ⊕ (Empty))))) (λx=>x) (by have:=h.a;omega) (λl x r s e hs=>by
  rw [e,kK,obS,ka (by simp;have:=h.pa x (by rw [e];simp);omega),obS,ka (by simpa using hs)];rfl)
 have L:=rl (xs:=b.i) (body:=(λ(uJ:Int) (uL:(List kD))=>((jr b.i uJ).bind λH=>(k8 ([]:List Int) H.A).bind λW=>(k8 uL ([(⟨H.op,H.to,W,H.N⟩:kD)]:List kD)).bind λuO=>some (.inl uO):Option (((List kD)) ⊕ (Empty))))) (λx=>x) (by have:=h.i;omega) (λl x r s e hs=>by
  rw [e,kK,obS,ka (by simp;have:=h.ia x (by rw [e];simp);omega),obS,ka (by simpa using hs)];rfl)
 rw [List.map_id'] at M L;refine kN (a:=b.n) ?_ ?_
 ·rw [ka (by simp;have:=h.next;omega)];rfl
 ·refine kN M ?_;exact kN L rfl
theorem aw4 (c:jv) (W:c.b.length<=1048576) (h:∀ b∈c.b,SmB b):rQ c=some c:=by
 unfold rQ
 have H:=rl (xs:=c.b) (body:=(λ(N:Int) (K:(List jq))=>((jr c.b N).bind λO=>(mz O).bind λM=>(k8 K ([M]:List jq)).bind λL=>some (.inl L):Option (((List jq)) ⊕ (Empty))))) (λx=>x) (by omega) (λl x r s e hs=>by
  rw [e,kK,obS,xC x (h x (by rw [e];simp)),obS,ka (by simpa using hs)];rfl)
 rw [List.map_id'] at H;exact kN H rfl
end Unt
end Go.Wk
namespace Go.Wk
open Go
namespace Unt
set_option maxRecDepth 10000
theorem cx0 {u:kU} (hu:Ok u) {k:Int} {c:jv} (hck:COk u k c) (hc:pw c<=800):∀ b∈c.b,SmB b:=λx H=>by
 obtain ⟨b,N⟩:=av4 H;have e:=hck.bok N;have hnb:=hck.nb;have M:qV x<=pw c:=td (f:=qV) H;unfold qV at M;have O:=e.j;refine ⟨by omega,by omega,by omega,λf K=>?_,λy L=>?_⟩
 ·have:=(e.a f K).2.2.1;have:=pJ c b;omega
 ·have:=bt3 hu (e.i y L);omega
end Unt
end Go.Wk
namespace Go.Wk
open Go
namespace Unt
set_option maxRecDepth 10000
open Classical
def qv (c c':jv):Prop:=c'.b.map (·.n)=c.b.map (·.n)
section
variable {c c':jv} (h:qv c c')
include h
theorem qv.len:c'.b.length=c.b.length:=by
 have:=congrArg List.length h;simpa using this
theorem qv.next (b:Int):nk c' b=nk c b:=by
 have K:=h.len;unfold nk jr;by_cases h0:0<=b
 ·rw [if_pos h0,if_pos h0];have:=congrArg (λl=>l[b.toNat]?) h;simp only [List.getElem?_map] at this;cases e:c'.b[b.toNat]?<;>cases H:c.b[b.toNat]?<;>rw [e,H] at this<;>simp_all
 ·rw [if_neg h0,if_neg h0]
theorem qv.g (b:Int):kH c' b=kH c b:=zV b 0 h
theorem qv.rt {av:Int->Prop} {s x:Int}:Rt c' av s x↔Rt c av s x:=by
 constructor
 ·intro L
  induction L with
  | refl e=>exact .refl e
  | step _ e K H=>exact .step H (by rw [<- h.next];exact e) K
 ·intro L
  induction L with
  | refl e=>exact .refl e
  | step _ e K H=>exact .step H (by rw [h.next];exact e) K
theorem qv.d {a b:Int}:D c' a b↔D c a b:=not_congr h.rt
theorem qv.inb (b:Int):oW c' b=oW c b:=by
 unfold oW;simp only [h.rt]
theorem qv.inT:Unt.inT c'=Unt.inT c:=by
 unfold Unt.inT;rw [h.len];exact congrArg _ (funext h.inb)
theorem qv.domT:Unt.domT c'=Unt.domT c:=by
 unfold Unt.domT;rw [h.len];refine congrArg _ (funext λa=>congrArg _ (funext λb=>?_));unfold w7;rw [h.inb,h.inb];simp only [h.rt]
theorem qv.symm:qv c' c:=Eq.symm h
theorem qv.trans {e:jv} (H:qv c' e):qv c e:=Eq.trans H h
end
theorem ap1 {u:kU} {k:Int} {c:jv} (hck:COk u k c) (hsz:∀ x∈c.b,x.a.length<=1048576/\x.i.length<=1048576):∃ ins preds li lo,oV c=some ⟨c,ins,preds⟩/\nq c=some ⟨li,lo⟩/\Inv c ins/\tz c li lo/\(∀ b r,nr ins b r↔lz li b r) /\
  vu c (lz li)/\∀ n x,jr c.b n=some x->jr preds n=some (kH c n):=by
 obtain ⟨ins,preds,N,L,O,M⟩:=bv8 hck (λx W=>(hsz x W).2);obtain ⟨li,lo,K,H,e,_⟩:=bq2 hck hsz;exact ⟨ins,preds,li,lo,N,K,L,H,vu.uniq O e,e,M⟩
noncomputable def pE (c:jv) (I:Int->Int->Prop):Nat->List Int
 | 0=>[]
 | k+1=>if c.P<=(k:Int)/\I 0 (k:Int) then pE c I k++[(k:Int)] else pE c I k
theorem tc (c:jv) (I:Int->Int->Prop) (x:Int):∀ k:Nat,x∈pE c I k↔(0<=x/\x<(k:Int))/\c.P<=x/\I 0 x
 | 0=>by
  constructor
  ·intro h;simp [pE] at h
  ·rintro ⟨h,_⟩;omega
 | k+1=>by
  have L:=tc c I x k;unfold pE;by_cases e:c.P<=(k:Int)/\I 0 (k:Int)
  ·rw [if_pos e,List.mem_append,L,List.mem_singleton];constructor
   ·rintro (⟨K,H⟩ | h)
    ·exact ⟨by omega,H⟩
    ·subst h;exact ⟨by omega,e⟩
   ·rintro ⟨K,H⟩;by_cases q:x=(k:Int)
    ·exact .inr q
    ·exact .inl ⟨by omega,H⟩
  ·rw [if_neg e,L];constructor
   ·rintro ⟨K,H⟩;exact ⟨by omega,H⟩
   ·rintro ⟨K,H⟩;by_cases q:x=(k:Int)
    ·rw [q] at H;exact absurd H e
    ·exact ⟨by omega,H⟩
theorem ao3 (c:jv) (I:Int->Int->Prop):∀ k:Nat,(pE c I k).Pairwise (·<·)
 | 0=>List.Pairwise.nil
 | k+1=>by
  have e:=ao3 c I k;unfold pE;split
  ·exact xK e λy H=>((tc c I y k).1 H).1.2
  ·exact e
theorem ta (c:jv) (I:Int->Int->Prop):∀ k:Nat,(pE c I k).length<=k
 | 0=>Nat.le_refl _
 | k+1=>by
  have e:=ta c I k;unfold pE;split
  ·simp;exact e
  ·omega
def zr (r:Int):kD:=⟨1,r,[],0⟩
noncomputable def bl1 (c:jv) (I:Int->Int->Prop) (x:jq):jq:=⟨x.a,(pE c I c.r.toNat).map zr++x.i,x.j,x.on,x.n⟩
noncomputable def o7 (c:jv) (I:Int->Int->Prop):jv:=⟨c.P,c.r,c.b.set 0 (bl1 c I (kX c 0))⟩
section
variable {u:kU} {k:Int} {c:jv} (hck:COk u k c)
include hck
theorem bb1:jr c.b 0=some (kX c 0):=by
 have hnb:=hck.nb;obtain ⟨x,e,_⟩:=kV (xs:=c.b) (j:=0) (Int.le_refl _) (by omega);rw [e,l0 e]
theorem vi (I:Int->Int->Prop):qv c (o7 c I):=by
 have h0:c.b[0]?=some (kX c 0):=(jz.1 (bb1 hck)).2;unfold qv o7;apply List.ext_getElem?;intro j;simp only [List.getElem?_map];by_cases e:j=0
 ·subst e;rw [List.getElem?_set_self (lgE.1 h0).1];rw [h0];rfl
 ·rw [List.getElem?_set_ne (Ne.symm e)]
theorem ay5 (I:Int->Int->Prop) (b:Int):jr (o7 c I).b b=if b=0 then some (bl1 c I (kX c 0)) else jr c.b b:=by
 have h0:c.b[0]?=some (kX c 0):=(jz.1 (bb1 hck)).2;by_cases e:b=0
 ·subst e;rw [if_pos rfl];exact jz.2 ⟨Int.le_refl _,List.getElem?_set_self (lgE.1 h0).1⟩
 ·rw [if_neg e];unfold jr o7;by_cases H:0<=b
  ·rw [if_pos H,if_pos H,List.getElem?_set_ne (by omega)]
  ·rw [if_neg H,if_neg H]
theorem cw7 (I:Int->Int->Prop):COk u k (o7 c I):=by
 have O:=(vi hck I).len;have hp:=(vi hck I).g;have a1:=hck.r;refine ⟨hck.r,hck.P,by rw [O];exact hck.nb,λb x L=>?_⟩;rw [ay5 hck] at L;have K:∀ b f,vg (o7 c I) b f=vg c b f:=λb f=>by unfold vg rq;rw [hp];rfl
 have N:∀ y,vd u k (o7 c I) y=vd u k c y:=λ_=>rfl
 have H:∀ b y,jr c.b b=some y->pf u k (o7 c I) b y=true:=λb y M=>by
  have:=hck.b b y M;unfold pf at this ⊢;rw [O];have W:vg (o7 c I) b=vg c b:=funext λf=>K b f
  rw [W];exact this
 by_cases e:b=0
 ·subst e;rw [if_pos rfl] at L;cases L;have:=H 0 _ (bb1 hck);unfold pf at this ⊢;simp only [Bool.and_eq_true] at this ⊢;obtain ⟨h1,h2,h3,h4,h5⟩:=this;refine ⟨h1,h2,h3,?_,h5⟩;show ((pE c I c.r.toNat).map zr++(kX c 0).i).all _=true;rw [List.all_append,Bool.and_eq_true];refine ⟨?_,h4⟩;rw [List.all_eq_true];intro y M;obtain ⟨r,hr,rfl⟩:=List.mem_map.1 M;have a0:=((tc c I r _).1 hr).1;have:inB r 0 (c.r - 1)=true:=by rw [lO];omega
  show vd u k c (zr r)=true;unfold vd zr;simp only [(by decide:kb 1=true),if_true,this];simp [rq,lO,yY]
 ·rw [if_neg e] at L;exact H b x L
theorem bz7 {I I':Int->Int->Prop} (hI:vu c I) (a0:vu (o7 c I) I') (a1:∀ b r,I b r->0<=r/\r<c.r):(∀ b r,I' b r->I b r)/\∀ r,I' 0 r->r<c.P:=by
 have hl:=(vi hck I).len;have hp:=(vi hck I).g;have hnb:=hck.nb
 have N:∀ b,0<=b->b<(c.b.length:Int)->b≠0->kX (o7 c I) b=kX c b:=λb b0 b1 e=>by
  obtain ⟨x,hx,_⟩:=kV (xs:=c.b) (j:=b) b0 b1;have H:jr (o7 c I).b b=some x:=by rw [ay5 hck,if_neg e];exact hx
  rw [l0 H,l0 hx]
 have L:kX (o7 c I) 0=bl1 c I (kX c 0):=l0 (by rw [ay5 hck,if_pos rfl])
 have M:∀ (J:Int->Int->Prop) b n r,1<=n->n<(c.b.length:Int)->(wm (o7 c I) J b n r↔wm c J b n r):=λJ b n r _ n1=>by
  unfold wm;rw [N n (by omega) n1 (by omega),hp]
 have O:∀ (J:Int->Int->Prop) b r,0<=b->b<(c.b.length:Int)->(qk (o7 c I) J b r↔qk c J b r):=λJ b r b0 b1=>by
  obtain ⟨x,hx,_⟩:=kV (xs:=c.b) (j:=b) b0 b1
  have a3:(kX (o7 c I) b).n=(kX c b).n:=by
   by_cases e:b=0
   ·subst e;rw [L];rfl
   ·rw [N b b0 b1 e]
  unfold qk;rw [a3,l0 hx];constructor
  ·rintro ⟨n,K,H⟩;have:=(hck.bok hx).next n K;exact ⟨n,K,(M J b n r this.1 this.2).1 H⟩
  ·rintro ⟨n,K,H⟩;have:=(hck.bok hx).next n K;exact ⟨n,K,(M J b n r this.1 this.2).2 H⟩
 have hz:∀ (zs:List Int) (l:List kD) (S:Int->Prop) (r:Int),bw (zs.map zr++l) S r->bw l S r/\r ∉ zs:=by
  intro zs
  induction zs with
  | nil=>intro l S r h;exact ⟨h,by simp⟩
  | cons z zs ih =>
   rintro l S r (h | ⟨K,H⟩)
   ·cases h
   ·obtain ⟨i1,i2⟩:=ih l S r K;refine ⟨i1,λhm=>?_⟩;rcases List.mem_cons.1 hm with e | e
    ·exact H ⟨(by decide:kb 1=true),e⟩
    ·exact i2 e
 have h0:∀ (J:Int->Int->Prop) r,inF (o7 c I) J 0 r->inF c J 0 r/\r ∉ pE c I c.r.toNat:=λJ r h=>by
  unfold inF at h ⊢;rw [L] at h;obtain ⟨K,H⟩:=h;unfold al6 at K ⊢;obtain ⟨i1,i2⟩:=hz _ _ _ r K;refine ⟨⟨?_,H⟩,i2⟩;refine ah7 (λr W=>?_) r i1;exact W.imp (O J 0 r (Int.le_refl _) (by omega)).1 id
 have a2:∀ b r,I' b r->I b r:=a0.2.2 I λb r b0 b1 h=>by
  rw [hl] at b1;refine (hI.2.1 b r b0 b1).2 ?_;by_cases e:b=0
  ·subst e;exact (h0 I r h).1
  ·unfold inF at h ⊢;rw [N b b0 b1 e] at h;refine ⟨?_,h.2⟩;unfold al6 at h ⊢;exact ah7 (λr W=>W.imp (O I b r b0 b1).1 id) r h.1
 refine ⟨a2,λr W=>Int.not_le.1 λa4=>?_⟩;have K:=(a0.2.1 0 r (Int.le_refl _) (by rw [hl];omega)).1 W;have H:=a2 0 r W;exact (h0 I' r K).2 ((tc c I r _).2 ⟨by have:=a1 0 r H;omega,a4,H⟩)
variable (hsz:∀ x∈c.b,x.a.length<=1000000/\x.i.length<=1000000)
theorem bp2 {ins:List (jw Bool)} {m:jw Bool} (hm:jr ins 0=some m) (M:∀ b r,nr ins b r->0<=r/\r<c.r) :
  kO (λ(W:Int) (K:(List kD))=>(((jr m.keys W).bind λL=>(if decide (c.P<=L) then (k8 K ([(⟨1,L,[],0⟩:kD)]:List kD)).bind λuG=>some uG else some K:Option ((List kD))).bind λuH=>some uH:Option ((List kD))).bind λuI=>some (.inl uI):Option (((List kD)) ⊕ (Empty)))) ((((m.keys).length:Int):Int) - 0).toNat 0 []=some (.inl ((pE c (nr ins) c.r.toNat).map zr)):=by
 have a2:=hck.r;have H:∀ r∈m.keys,0<=r/\r<((c.r.toNat:Nat):Int):=λr hr=>by have:=M 0 r ⟨m,hm,hr⟩;omega
 have a1:m.keys.length<=300:=by
  have a0:m.keys.length<=c.r.toNat:=sG m.nodup H;omega
 rcases lB (xs:=m.keys) (body:=(λ(W:Int) (K:(List kD))=>(((jr m.keys W).bind λL=>(if decide (c.P<=L) then (k8 K ([(⟨1,L,[],0⟩:kD)]:List kD)).bind λuG=>some uG else some K:Option ((List kD))).bind λuH=>some uH:Option ((List kD))).bind λuI=>some (.inl uI):Option (((List kD)) ⊕ (Empty))))) (s:=([]:List kD)) (λl z=>z=(l.filter λr=>decide (c.P<=r)).map zr) (λ_=>False) rfl (λl r q z he hz=>by
  left;have N:=congrArg List.length he;have a3:=List.length_filter_le (λr=>decide (c.P<=r)) l;simp only [List.length_append,List.length_cons] at N;refine ⟨_,?_,rfl⟩;rw [he,kK,obS,List.filter_append,List.map_append,<- hz];by_cases e:c.P<=r
  ·rw [if_pos (decide_eq_true e), ka (by rw [hz]; simp; omega)];simp [e,zr]
  ·rw [if_neg (by simpa using e)]
   simp [e]) with ⟨z,f1,f2⟩ | ⟨_,_,hf⟩
 ·rw [f1,f2]
  congr 3
  refine u6 (m.keys_sorted.filter _) (ao3 c _ _) λr=>?_
  rw [List.mem_filter,tc];constructor
  ·rintro ⟨h1,O⟩;exact ⟨H r h1,of_decide_eq_true O,m,hm,h1⟩
  ·rintro ⟨_,O,m',h3,h4⟩;rw [hm] at h3;cases h3;exact ⟨h4,decide_eq_true O⟩
 ·exact hf.elim
include hsz
theorem bn5 {c0:jv} (hd:oQ c0=some c) {li lo:List (List Bool)} (hl:nq c=some ⟨li,lo⟩) (hI:tz c li lo):pY c0=some (o7 c (lz li)):=by
 have a2:=hck.r;have a3:=hck.P;have hnb:=hck.nb;unfold pY;rw [hd,obS,hl,obS];obtain ⟨M,H,_⟩:=kV (xs:=li) (j:=0) (Int.le_refl _) (by rw [hI.li];omega);have a4:=hI.ri 0 M H;dsimp only;rw [H,obS]
 obtain ⟨z,W,a1⟩:=lp (b1:=(λ(L:(List kD) × Int)=>(if decide (L.2<c.r) then ((jr M L.2).bind λuD=>(if uD then (k8 L.1 ([(⟨1,L.2,([]:List Int),0⟩:kD)]:List kD)).bind λuE=>some uE else some L.1:Option ((List kD))).bind λuG=>some uG:Option ((List kD))).bind λuH=>some (.inl (uH,w64 (L.2+1))) else some (.inr L.1):Option (((List kD) × Int) ⊕ ((List kD)))))) (λs:List kD × Int=>(c.P<=s.2/\s.2<=c.r)/\s.1=(pE c (lz li) s.2.toNat).map zr) (λz=>z=(pE c (lz li) c.r.toNat).map zr) (λs=>(c.r - s.2).toNat) (λs hs=>by
  obtain ⟨z,i⟩:=s;obtain ⟨⟨i0,i1⟩,hz⟩:=hs;dsimp only at i0 i1 hz ⊢;subst hz;by_cases N:i<c.r
  ·left;obtain ⟨v,hv,_⟩:=kV (xs:=M) (j:=i) (by omega) (by omega);have hw:w64 (i+1)=i+1:=kv (by omega) (by omega)
   have O:pE c (lz li) (i+1).toNat=if lz li 0 i then pE c (lz li) i.toNat++[i] else pE c (lz li) i.toNat:=by
    rw [show (i+1).toNat=i.toNat+1 by omega];show (if c.P<=((i.toNat:Nat):Int)/\lz li 0 ((i.toNat:Nat):Int) then pE c (lz li) i.toNat++[((i.toNat:Nat):Int)] else pE c (lz li) i.toNat)=_;rw [show ((i.toNat:Nat):Int)=i by omega];simp [i0]
   have K:lz li 0 i↔v=true:=by
    rw [rS H];unfold mI;rw [hv];simp
   have a0:=ta c (lz li) i.toNat;refine ⟨((pE c (lz li) (i+1).toNat).map zr,i+1),?_,⟨⟨by dsimp only;omega,by dsimp only;omega⟩,rfl⟩,by dsimp only;omega⟩;rw [if_pos (decide_eq_true N),hv,obS,O,hw];by_cases e:v=true
   ·rw [if_pos e, if_pos (K.2 e), ka (by simp; omega)];simp [zr]
   ·rw [if_neg e,if_neg λh=>e (K.1 h)];rfl
  ·right;refine ⟨_,by rw [if_neg (by simpa using N)],?_⟩
   rw [show i=c.r by omega]) ((c.r - c.P).toNat+1) ([],c.P) ⟨⟨Int.le_refl _,by omega⟩,by
    have:pE c (lz li) c.P.toNat=[]:=List.eq_nil_iff_forall_not_mem.2 λx hx=>by
     obtain ⟨_,_,_⟩:=(tc c _ x _).1 hx;omega
    dsimp only
    rw [this];rfl⟩ (by dsimp only;omega)
 refine kN (kN W rfl) ?_;rw [bb1 hck,obS,a1];have a0:=ta c (lz li) c.r.toNat;have hx:=(hsz (kX c 0) (List.mem_of_getElem? (jz.1 (bb1 hck)).2)).2;rw [ka (by simp;omega)];rfl
end
end Unt
end Go.Wk
namespace Go.Wk
open Go
namespace Unt
def se (m:jw Bool):Prop:=∀ p∈m.es,p.2=true
theorem be6:se jw.mk0:=λp h=>by simp [jw.mk0] at h
theorem zR {m:jw Bool} (h:se m) (k:Int):se (m.i k true):=λp hp=>by
 rcases List.mem_cons.1 (((m.ins_perm k true).mem_iff).2 hp) with e | e
 ·rw [e]
 ·exact h p (List.mem_filter.1 e).1
theorem be8 {m:jw Bool} (h:se m) (k:Int):se (m.del k):=λp hp=>h p (List.mem_filter.1 hp).1
theorem bd9 {m:jw Bool} (h:se m) (r:Int):(m.get r).getD false=true↔m.Has r:=by
 rw [jw.has_iff];constructor
 ·intro H;cases e:m.get r with
  | none=>rw [e] at H;cases H
  | some v=>exact ⟨v,(lx m.nodup).1 e⟩
 ·rintro ⟨v,K⟩;have:m.get r=some v:=(lx m.nodup).2 K;rw [this];exact h _ K
end Unt
end Go.Wk
namespace Go.Wk
open Go
namespace Unt
set_option maxRecDepth 10000
theorem xR {S X:Type} {body:Int->S->Option (S ⊕ X)} (I:S->Prop) (h:∀ j s H,I s->body j s=some (.inl H)->I H):∀ (k:Nat) (i:Int) (s H:S),I s->kO body k i s=some (.inl H)->I H
 | 0,i,s,H,hI,e=>by cases e;exact hI
 | k+1,i,s,H,hI,e=>by
  simp only [kO] at e;split at e
  ·cases e
  ·next s1 h1=>exact xR I h k _ s1 H (h _ _ _ hI h1) e
  ·cases e
theorem ac1 {S X:Type} {body:S->Option (S ⊕ X)} (I:S->Prop) (Q:X->Prop) (h:∀ s L,I s->body s=some (.inl L)->I L) (O:∀ s x,I s->body s=some (.inr x)->Q x) {s:S} {x:X} (M:I s) (e:kx body s=some x):Q x:=by
 obtain ⟨n,H⟩:=qu.1 e;clear e
 induction n generalizing s with
 | zero=>simp [qP] at H
 | succ n N =>
  simp only [qP] at H;cases K:body s with
  | none=>simp [K] at H
  | some r =>
   cases r with
   | inl L=>simp only [K] at H;exact N (h _ _ M K) H
   | inr y=>simp only [K,osI] at H;subst H;exact O _ _ M K
theorem cj7:∀ (es:List (Int × Bool)) (m m':jw Bool),se m->lM (λ(p:Int × Bool) (xs:jw Bool)=>some (jw.i xs p.1 true)) es m=some m'->se m'
 | [],m,m',h,e=>by simp only [lM,osI] at e;subst e;exact h
 | p::es,m,m',h,e=>by
  simp only [lM,obS] at e;exact cj7 es _ m' (zR h _) e
theorem cw5 {m m':jw Bool} {l:List Int} (h:se m) (e:mZ m l=some m'):se m':=by
 unfold mZ at e;obtain ⟨a,H,L⟩:=bnd e;cases a with
 | inr x=>exact nomatch x
 | inl s =>
  cases L;exact xR se (λj s _ hs K=>by obtain ⟨x,_,M⟩:=bnd K;cases M;exact zR hs _) _ _ _ _ h H
theorem cf0 {l:yy} {b:Int} {m:jw Bool} (e:nX l b=some m):se m:=by
 unfold nX at e;obtain ⟨x,_,e⟩:=bnd e;obtain ⟨r,_,e⟩:=bnd e;obtain ⟨a,L,e⟩:=bnd e;cases a with
 | inr x=>exact nomatch x
 | inl s =>
  cases e;refine xR se (λj s N hs H=>?_) _ _ _ _ be6 L;obtain ⟨_,_,H⟩:=bnd H;obtain ⟨_,_,H⟩:=bnd H;obtain ⟨_,M,H⟩:=bnd H;obtain ⟨_,O,M⟩:=bnd M;cases M;have K:=cj7 _ _ _ hs O;obtain ⟨_,_,H⟩:=bnd H;obtain ⟨_,_,H⟩:=bnd H;obtain ⟨_,_,H⟩:=bnd H;obtain ⟨a,L,H⟩:=bnd H;cases a with
  | inr x=>exact nomatch x
  | inl W =>
   cases H;exact xR se (λj s N hs H=>by obtain ⟨_,_,H⟩:=bnd H;obtain ⟨_,_,H⟩:=bnd H;cases H;exact zR hs _) _ _ _ _ K L
theorem ci8 {l:yy} {b i:Int} {m:jw Bool} (e:ll l b i=some m):se m:=by
 unfold ll at e;obtain ⟨_,L,e⟩:=bnd e;obtain ⟨x,_,e⟩:=bnd e;obtain ⟨uo,_,e⟩:=bnd e;obtain ⟨W,M,e⟩:=bnd e;obtain ⟨_,O,e⟩:=bnd e;cases e;obtain ⟨_,N,e⟩:=bnd O;cases e
 have h1:se W:=by
  cases uo
  ·cases M;exact cf0 L
  ·cases M;exact zR (cf0 L) _
 refine ac1 (λs:jw Bool × Int=>se s.1) se (λs _ hs H=>?_) (λs x hs H=>?_) (s:=(W,(x.i.length:Int) - 1)) h1 N
 ·by_cases q:decide (i<s.2)=true
  ·rw [if_pos q] at H;obtain ⟨y,_,H⟩:=bnd H;obtain ⟨t,_,H⟩:=bnd H;obtain ⟨s1,K,H⟩:=bnd H;obtain ⟨s2,h3,H⟩:=bnd H;cases H;refine cw5 ?_ h3;by_cases q2:decide (0<=t)=true
   ·rw [if_pos q2] at K;cases K;exact be8 hs _
   ·rw [if_neg q2] at K;cases K;exact hs
  ·rw [if_neg q] at H;cases H
 ·by_cases q:decide (i<s.2)=true
  ·rw [if_pos q] at H;obtain ⟨y,_,H⟩:=bnd H;obtain ⟨t,_,H⟩:=bnd H;obtain ⟨s1,K,H⟩:=bnd H;obtain ⟨s2,h3,H⟩:=bnd H;cases H
  ·rw [if_neg q] at H;cases H;exact hs
end Unt
end Go.Wk
namespace Go.Wk
open Go
namespace Unt
set_option maxRecDepth 10000
theorem by4:∀ n:Fin 301,sa (IntKind.u64.wrap 1) (IntKind.u64.wrap (n.val:Int))=some (0,(n.val:Int)):=by decide +kernel
theorem by3 (v:Int) {n:Nat} (hn:n<=300):lP [v] (n:Int)=some (List.replicate n v):=by
 unfold lP;rw [if_neg (by simp),show ((([v]:List Int).length:Int))=1 from rfl,by4 ⟨n,by omega⟩,obS];have hw:IntKind.i64.wrap (n:Int)=(n:Int):=kv (by omega) (by omega);simp only [Int.lt_irrefl,decide_false,Bool.false_eq_true,if_false,obS];rw [if_neg (by simp;omega),hw,nW (by omega) (by omega),obS,Int.toNat_natCast]
 have h0:o6 (List.replicate n (0:Int)) [v] 0 (List.replicate n (0:Int)).length=if n=0 then [] else v::List.replicate (n - 1) 0:=by
  cases n with
  | zero=>rfl
  | succ n=>simp [o6,List.replicate_succ]
 have L:(o6 (List.replicate n (0:Int)) [v] 0 (List.replicate n (0:Int)).length).length=n:=by
  rw [h0];split
  ·simp;omega
  ·simp;omega
 obtain ⟨zs,e1,e2⟩:=lp (b1:=(λ(H:(List Int) × Int)=>(if decide (H.2<(((o6 (List.replicate n (0:Int)) ([v]:List Int) 0 (List.replicate n (0:Int)).length).length:Int))) then (tl H.1 H.2 (H.1.length:Int)).bind λ_=>(tl H.1 0 H.2).bind λuD=>some (.inl ((o6 H.1 uD ((H.2).toNat) (((H.1.length:Int)).toNat)),w64 (H.2+(((min uD.length (((H.1.length:Int)).toNat - (H.2).toNat):Nat):Int))))) else some (.inr H.1):Option (((List Int) × Int) ⊕ ((List Int)))))) (λs:List Int × Int=>s.1.length=n/\0<=s.2/\s.2<=(n:Int)/\(n≠0->1<=s.2)/\∀ k:Nat,(k:Int)<s.2->s.1[k]?=some v) (λzs=>zs=List.replicate n v) (λs=>((n:Int) - s.2).toNat) (λs hs=>by
  obtain ⟨zs,m⟩:=s;obtain ⟨W,h2,h3,h4,M⟩:=hs;dsimp only at W h2 h3 h4 M ⊢;rw [L];by_cases e:m<(n:Int)
  ·left;have a2:=h4 (by omega);have a0:tl zs m (zs.length:Int)=some (zs.drop m.toNat):=oN.2 ⟨by omega,by simp⟩;have a1:tl zs 0 m=some (zs.take m.toNat):=oN.2 ⟨by omega,by simp⟩;have K:(zs.take m.toNat).length=m.toNat:=by rw [List.length_take];omega
   have hc:min (zs.take m.toNat).length (((zs.length:Int)).toNat - m.toNat)=min m.toNat (n - m.toNat):=by rw [K,W];simp
   have O:w64 (m+((min (zs.take m.toNat).length (((zs.length:Int)).toNat - m.toNat):Nat):Int))=m+((min m.toNat (n - m.toNat):Nat):Int):=by rw [hc];exact kv (by omega) (by omega)
   refine ⟨(o6 zs (zs.take m.toNat) m.toNat ((zs.length:Int)).toNat,m+((min m.toNat (n - m.toNat):Nat):Int)),?_,⟨?_,by dsimp only;omega,by dsimp only;omega,λ_=>by dsimp only;omega,λk N=>?_⟩,by dsimp only;omega⟩
   ·rw [if_pos (by simpa using e),a0,obS,a1,obS,O]
   ·rw [wT (by omega) (by simp),W]
   ·dsimp only at N ⊢;unfold o6;rw [hc];by_cases k1:k<m.toNat
    ·rw [List.append_assoc, List.getElem?_append_left (by rw [K]; exact k1), List.getElem?_take_of_lt k1];exact M k (by omega)
    ·rw [List.append_assoc, List.getElem?_append_right (by rw [K]; omega), K, List.getElem?_append_left (by rw [List.length_take, K]; omega), List.getElem?_take_of_lt (by omega), List.getElem?_take_of_lt (by omega)];exact M _ (by omega)
  ·right;refine ⟨zs,by rw [if_neg (by simpa using e)],?_⟩;apply List.ext_getElem?;intro k;rw [List.getElem?_replicate];by_cases K:k<n
   ·rw [if_pos K];exact M k (by omega)
   ·rw [if_neg K];exact List.getElem?_eq_none (by omega)) (n+1) (o6 (List.replicate n (0:Int)) [v] 0 (List.replicate n (0:Int)).length,((min ([v]:List Int).length ((List.replicate n (0:Int)).length - 0):Nat):Int)) ⟨L,by dsimp only;omega,by dsimp only;simp;omega,λ_=>by dsimp only;simp;omega,λk K=>by
   dsimp only at K ⊢;rw [h0];simp at K;by_cases e:n=0
   ·omega
   ·rw [if_neg e,show k=0 by omega];rfl⟩ (by dsimp only;omega)
 subst e2;exact kN (kN e1 rfl) rfl
end Unt
end Go.Wk
namespace Go.Wk
open Go
namespace Unt
set_option maxRecDepth 10000
open Classical
theorem cw2 {c:jv} (hnb:c.b.length<=160) {ins:List (jw Bool)} {preds:List (List Int)} (e:oV c=some ⟨c,ins,preds⟩):∀ m∈ins,se m:=by
 unfold oV at e;rw [nW (by omega) (by omega),obS] at e;obtain ⟨a,_,e⟩:=bnd e;cases a with
 | inr x=>exact nomatch x
 | inl a1 =>
  obtain ⟨s,hs,e⟩:=bnd e;have e2:=Option.some.inj e;have e3:s=ins:=congrArg yy.i e2;obtain ⟨t,ht,hs⟩:=bnd hs;have a0:t=s:=Option.some.inj hs;rw [<- e3,<- a0];refine ac1 (λs:List (jw Bool) × Bool=>∀ m∈s.1,se m) (λx=>∀ m∈x,se m) (λs s' L H=>?_) (λs x L H=>?_) ?_ ht
  ·by_cases q:s.2=true
   ·rw [if_pos q] at H;obtain ⟨s1,K,H⟩:=bnd H;obtain ⟨_,h2,K⟩:=bnd K;have e4:=Option.some.inj K;have e5:=Sum.inl.inj (Option.some.inj H);subst e4 e5;have:=ac1 (λs:List (jw Bool) × Bool × Int=>∀ m∈s.1,se m) (λx:List (jw Bool) × Bool=>∀ m∈x.1,se m) (λs s' L H=>?_) (λs x L H=>?_) L h2
    ·exact this
    ·by_cases q:decide (0<=s.2.2)=true
     ·rw [if_pos q] at H;obtain ⟨s1,K,H⟩:=bnd H;obtain ⟨_,N,K⟩:=bnd K;obtain ⟨x,_,K⟩:=bnd K;obtain ⟨a,ha,K⟩:=bnd K;cases a with
      | inr x=>exact nomatch x
      | inl m2 =>
       have O:se m2:=xR se (λj s s' hs H=>by obtain ⟨_,_,H⟩:=bnd H;cases H;exact be8 hs _) _ _ _ _ (ci8 N) ha;obtain ⟨x2,_,K⟩:=bnd K;obtain ⟨_,M,K⟩:=bnd K;have e6:=Option.some.inj K;have e7:=Sum.inl.inj (Option.some.inj H);subst e6 e7;by_cases q2:decide ((jw.len m2)≠(jw.len x2))=true
       ·rw [if_pos q2] at M;have W:=Option.some.inj M;subst W;intro m hm;rcases List.mem_or_eq_of_mem_set hm with h | h
        ·exact L m h
        ·rw [h];exact O
       ·rw [if_neg q2] at M;have W:=Option.some.inj M;subst W;exact L
     ·rw [if_neg q] at H;cases H
    ·by_cases q:decide (0<=s.2.2)=true
     ·rw [if_pos q] at H;obtain ⟨s1,_,H⟩:=bnd H;cases H
     ·rw [if_neg q] at H;have:=Sum.inr.inj (Option.some.inj H);subst this;exact L
   ·rw [if_neg q] at H;cases H
  ·by_cases q:s.2=true
   ·rw [if_pos q] at H;obtain ⟨s1,_,H⟩:=bnd H;cases H
   ·rw [if_neg q] at H;have:=Sum.inr.inj (Option.some.inj H);subst this;exact L
  ·intro m hm;rw [(List.mem_replicate.1 hm).2];exact be6
noncomputable def frF (c:jv) (l:List Int):List Int:=Classical.epsilon λF=>xb c l F
theorem cv7 {c:jv} {l F:List Int} (h:xb c l F):xb c l (frF c l)/\frF c l=F:=by
 have e:xb c l (frF c l):=Classical.epsilon_spec (p:=λF=>xb c l F) ⟨F,h⟩;exact ⟨e,e.uniq h λ_=>Iff.rfl⟩
noncomputable def stI (c:jv) (r:Int):List Int:=(if r<c.P then [0] else [])++(lN c r).map (·.block)
theorem aj2 (r:Int):∀ (l:List jq) (i:Int),(plF r l i).length<=lD qV l
 | [],_=>Nat.le_refl _
 | x::l,i=>by
  have e:=aj2 r l (i+1);have H:=th (r:=r) (b:=i) (l:=x.a);have K:=xT (r:=r) (b:=i) (l:=x.i) (i:=0);unfold plF;simp only [List.length_append,lD];unfold qV at e ⊢;omega
def phW (c:jv) (I:Int->Int->Prop) (b r:Int):Prop:=b∈frF c (stI c r)/\I b r
def mkP (c:jv) (b:Int) (r:Nat):kA:=⟨(r:Int),List.replicate (kH c b).length (r:Int)⟩
noncomputable def phS (c:jv) (I:Int->Int->Prop) (b:Int) (lo n:Nat):List kA:=((List.range' lo n).filter λ(r:Nat)=>decide (phW c I b (r:Int))).map (mkP c b)
theorem ai7 (c:jv) (I:Int->Int->Prop) (b:Int) (lo n:Nat):(phS c I b lo n).length<=n:=by
 unfold phS;have:=List.length_filter_le (λ(r:Nat)=>decide (phW c I b (r:Int))) (List.range' lo n);simp at this ⊢;omega
theorem cy4 (c:jv) (I:Int->Int->Prop) (b:Int) (n:Nat):phS c I b 0 (n+1)=phS c I b 0 n++if phW c I b (n:Int) then [mkP c b n] else []:=by
 unfold phS;rw [List.range'_concat,List.filter_append,List.map_append]
 congr 1
 simp only [Nat.zero_add,Nat.one_mul];by_cases e:phW c I b (n:Int)
 ·rw [if_pos e];simp [e]
 ·rw [if_neg e];simp [e]
theorem cj2 (c:jv) (I:Int->Int->Prop) (b:Int) (lo n:Nat):phS c I b lo (n+1)=(if phW c I b (lo:Int) then [mkP c b lo] else [])++phS c I b (lo+1) n:=by
 unfold phS;rw [List.range'_succ];by_cases e:phW c I b (lo:Int)
 ·rw [if_pos e];simp [e]
 ·rw [if_neg e];simp [e]
noncomputable def az2 (c:jv) (I:Int->Int->Prop) (b:Int):jq :=
 ⟨phS c I b 0 c.r.toNat++(kX c b).a,(kX c b).i,(kX c b).j,(kX c b).on,(kX c b).n⟩
noncomputable def phC (c:jv) (I:Int->Int->Prop):jv:=⟨c.P,c.r,tab c.b.length (az2 c I)⟩
theorem ba5 {α:Type} {n:Nat} {f:Int->α} {l:List α} (H:l.length=n) (h:∀ b,0<=b->b<(n:Int)->jr l b=some (f b)):l=tab n f:=by
 apply List.ext_getElem?;intro j;by_cases e:j<n
 ·have := (jz.1 (h (j : Int) (by omega) (by omega))).2;rw [xz e];simpa using this
 ·rw [List.getElem?_eq_none (by omega),List.getElem?_eq_none (by rw [mn];omega)]
theorem ai8 (c:jv):c.b=tab c.b.length (kX c):=ba5 rfl λb b0 b1=>by
 obtain ⟨x,e,_⟩:=kV (xs:=c.b) (j:=b) b0 b1;rw [e,l0 e]
section
variable {u:kU} {k:Int} {c:jv} (hck:COk u k c) (hall:∀ b:Int,0<=b->b<(c.b.length:Int)->oW c b=true) (hcnt:pw c<=50000)
theorem yQ {b:Int} (b0:0<=b) (b1:b<(c.b.length:Int)):jr c.b b=some (kX c b):=by
 obtain ⟨x,e,_⟩:=kV (xs:=c.b) (j:=b) b0 b1;rw [e,l0 e]
theorem xn (I:Int->Int->Prop):qv c (phC c I):=by
 unfold qv phC
 conv=>rhs;rw [ai8 c]
 simp only [tab,List.map_map];rfl
include hck hcnt
theorem ct9 (r:Int):(stI c r).length<=100000/\∀ x∈stI c r,0<=x/\x<(c.b.length:Int):=by
 have hnb:=hck.nb;have H:(lN c r).length<=pw c:=aj2 r c.b 0;constructor
 ·unfold stI;split
  ·simp;omega
  ·simp;omega
 ·intro x e;unfold stI at e;rcases List.mem_append.1 e with h | h
  ·split at h
   ·rw [List.mem_singleton.1 h];omega
   ·cases h
  ·obtain ⟨p,hp,rfl⟩:=List.mem_map.1 h;have:=bb0 (r:=r) (p:=p) (l:=c.b) (i:=0) hp;omega
include hall
theorem ai5 (r:Int):l7 ⟨c,domT c,inT c⟩ (stI c r)=some (frF c (stI c r))/\xb c (stI c r) (frF c (stI c r))/\∀ l,l.length<=100000->(∀ x,x∈l↔x∈stI c r)->nK c (domT c) l=some (frF c (stI c r)):=by
 have hnb:=hck.nb
 have hs:∀ b,ku c b=some (kH c b):=λb=>rC c b (by omega) λx e=>by
  obtain ⟨b,hb⟩:=av4 e;have:=(hck.bok hb).j;omega
 obtain ⟨h1,K⟩:=ct9 hck hcnt r;obtain ⟨F,O,_,W⟩:=ak2 (by omega) hall hs h1 K;obtain ⟨L,M⟩:=cv7 W;refine ⟨by rw [O,M],L,λl hl H=>?_⟩;obtain ⟨F',_,N,g3⟩:=ak2 (by omega) hall hs hl λx e=>K x ((H x).1 e)
 rw [N,g3.uniq L H]
variable {ins:List (jw Bool)} {preds:List (List Int)} {li lo:List (List Bool)}
theorem bx0 (hI:Inv c ins) (hT:∀ m∈ins,se m) (aC:∀ n x,jr c.b n=some x->jr preds n=some (kH c n)) {c0:jv} {x:jq} {zs:List kD} (aA:(c0.b.set (0:Int).toNat (⟨x.a,zs,x.j,x.on,x.n⟩:jq))=c.b) :
  kO (λ(M:Int) (uZ:(List (List kA)))=>((if decide (M<c.P) then (k8 ([]:List Int) ([0]:List Int)).bind λuW=>some uW else some []:Option ((List Int))).bind λvA=>(jr (tab c.r.toNat (lN c)) M).bind λuX=>(kO (S:=(List Int)) (X:=Empty) (λuG uH=>(jr uX uG).bind λuI=>(k8 uH ([uI.block]:List Int)).bind λuJ=>some (.inl uJ)) (((uX.length:Int):Int) - 0).toNat 0 vA).bind (Sum.elim (λvB=>(l7 (⟨(⟨c.P,c.r,(c0.b.set (0:Int).toNat (⟨x.a,zs,x.j,x.on,x.n⟩:jq))⟩:jv),(domT c),(inT c)⟩:ld) vB).bind λuY=>(kO (S:=(List (List kA))) (X:=Empty) (λuL K=>((jr uY uL).bind λH=>(jr ins H).bind λuN=>(if ((jw.get uN M).getD false) then (jr K H).bind λuO=>(jr preds H).bind λuP=>((lP ([M]:List Int) (uP.length:Int)).bind λuQ=>(k8 uO ([(⟨M,uQ⟩:kA)]:List kA)).bind λuR=>some (K.set (H).toNat uR):Option ((List (List kA)))).bind λuS=>some uS else some K:Option ((List (List kA)))).bind λuU=>some uU:Option ((List (List kA)))).bind λuV=>some (.inl uV)) (((uY.length:Int):Int) - 0).toNat 0 uZ).bind (Sum.elim (λvC=>some (.inl vC)) (λ(O:Empty)=>nomatch O))) (λ(O:Empty)=>nomatch O)):Option (((List (List kA))) ⊕ (Empty)))) ((c.r:Int) - 0).toNat 0 (List.replicate c.b.length ([]:List kA))=some (.inl (tab c.b.length λb=>phS c (nr ins) b 0 c.r.toNat)):=by
 have aI:=hck.r;have hnb:=hck.nb
 obtain ⟨q,e1,e2⟩:=oE (body:=(λ(M:Int) (uZ:(List (List kA)))=>((if decide (M<c.P) then (k8 ([]:List Int) ([0]:List Int)).bind λuW=>some uW else some []:Option ((List Int))).bind λvA=>(jr (tab c.r.toNat (lN c)) M).bind λuX=>(kO (S:=(List Int)) (X:=Empty) (λuG uH=>(jr uX uG).bind λuI=>(k8 uH ([uI.block]:List Int)).bind λuJ=>some (.inl uJ)) (((uX.length:Int):Int) - 0).toNat 0 vA).bind (Sum.elim (λvB=>(l7 (⟨(⟨c.P,c.r,(c0.b.set (0:Int).toNat (⟨x.a,zs,x.j,x.on,x.n⟩:jq))⟩:jv),(domT c),(inT c)⟩:ld) vB).bind λuY=>(kO (S:=(List (List kA))) (X:=Empty) (λuL K=>((jr uY uL).bind λH=>(jr ins H).bind λuN=>(if ((jw.get uN M).getD false) then (jr K H).bind λuO=>(jr preds H).bind λuP=>((lP ([M]:List Int) (uP.length:Int)).bind λuQ=>(k8 uO ([(⟨M,uQ⟩:kA)]:List kA)).bind λuR=>some (K.set (H).toNat uR):Option ((List (List kA)))).bind λuS=>some uS else some K:Option ((List (List kA)))).bind λuU=>some uU:Option ((List (List kA)))).bind λuV=>some (.inl uV)) (((uY.length:Int):Int) - 0).toNat 0 uZ).bind (Sum.elim (λvC=>some (.inl vC)) (λ(O:Empty)=>nomatch O))) (λ(O:Empty)=>nomatch O)):Option (((List (List kA))) ⊕ (Empty))))) (k:=((c.r:Int) - 0).toNat) (i:=0) (s:=List.replicate c.b.length ([]:List kA)) (λk l=>l=tab c.b.length λb=>phS c (nr ins) b 0 k.toNat) (by rw [wQ];rfl) (λr l r0 _ hl=>by
  have aJ:r<c.r:=by omega
  obtain ⟨a7,a0,_⟩:=ai5 hck hall hcnt r;have aF:(lN c r).length<=50000:=Nat.le_trans (aj2 r c.b 0) hcnt;refine ⟨_,?_,rfl⟩
  have a3:(if decide (r<c.P)=true then (k8 ([]:List Int) ([0]:List Int)).bind λuW=>some uW else some []:Option (List Int))=some (if r<c.P then [0] else []):=by
   by_cases e:r<c.P
   ·rw [if_pos (decide_eq_true e),if_pos e];rfl
   ·rw [if_neg (by simpa using e),if_neg e]
  rw [a3,obS,lf r0 (by omega),obS]
  have a9:kO (S:=List Int) (X:=Empty) (λ(uG:Int) (uH:List Int)=>(jr (lN c r) uG).bind λuI=>(k8 uH ([uI.block]:List Int)).bind λuJ=>some (.inl uJ)) ((((lN c r).length:Int):Int) - 0).toNat 0 (if r<c.P then [0] else [])=some (.inl (stI c r)):=by
   rcases lB (xs:=lN c r) (body:=λ(uG:Int) (uH:List Int)=>((jr (lN c r) uG).bind λuI=>(k8 uH ([uI.block]:List Int)).bind λuJ=>some (.inl uJ):Option ((List Int) ⊕ Empty))) (s:=if r<c.P then [0] else []) (λl z=>z=(if r<c.P then [0] else [])++l.map (·.block)) (λ_=>False) (by simp) (λl p a5 z he hz=>by
    left;have a6:=congrArg List.length he;simp only [List.length_append,List.length_cons] at a6;refine ⟨_,?_,rfl⟩
    have aH:z.length<=l.length+1:=by
     rw [hz,List.length_append,List.length_map];split
     ·simp only [List.length_cons,List.length_nil];omega
     ·simp only [List.length_nil];omega
    rw [he,kK,obS,ka (by simp;omega),hz,List.map_append]
    simp) with ⟨z,f1,f2⟩ | ⟨_,_,hf⟩
   ·rw [f1,f2];rfl
   ·exact hf.elim
  refine kN a9 ?_;dsimp only [Sum.elim_inl];rw [aA,a7,obS]
  have aB:kO (S:=List (List kA)) (X:=Empty) (λ(uL:Int) (K:List (List kA))=>((jr (frF c (stI c r)) uL).bind λH=>(jr ins H).bind λuN=>(if ((jw.get uN r).getD false) then (jr K H).bind λuO=>(jr preds H).bind λuP=>((lP ([r]:List Int) (uP.length:Int)).bind λuQ=>(k8 uO ([(⟨r,uQ⟩:kA)]:List kA)).bind λuR=>some (K.set (H).toNat uR):Option ((List (List kA)))).bind λuS=>some uS else some K:Option ((List (List kA)))).bind λuU=>some uU:Option ((List (List kA)))).bind λuV=>some (.inl uV)) ((((frF c (stI c r)).length:Int):Int) - 0).toNat 0 l=some (.inl (tab c.b.length λb=>phS c (nr ins) b 0 (r+1).toNat)):=by
   rcases lB (xs:=frF c (stI c r)) (body:=λ(uL:Int) (K:List (List kA))=>(((jr (frF c (stI c r)) uL).bind λH=>(jr ins H).bind λuN=>(if ((jw.get uN r).getD false) then (jr K H).bind λuO=>(jr preds H).bind λuP=>((lP ([r]:List Int) (uP.length:Int)).bind λuQ=>(k8 uO ([(⟨r,uQ⟩:kA)]:List kA)).bind λuR=>some (K.set (H).toNat uR):Option ((List (List kA)))).bind λuS=>some uS else some K:Option ((List (List kA)))).bind λuU=>some uU:Option ((List (List kA)))).bind λuV=>some (.inl uV):Option ((List (List kA)) ⊕ Empty))) (s:=l) (λps z=>z=tab c.b.length λb=>phS c (nr ins) b 0 r.toNat++if b∈ps/\nr ins b r then [mkP c b r.toNat] else []) (λ_=>False) (by rw [hl];simp) (λps b a5 z he hz=>by
    left;have a8:b∈frF c (stI c r):=by rw [he];simp
    have L:=a0.rng b a8;have a2:=wY a0.so;rw [he,List.nodup_append] at a2;have aD:b ∉ ps:=λh=>a2.2.2 b h b (by simp) rfl
    obtain ⟨m,hm,_⟩:=kV (xs:=ins) (j:=b) L.1 (by rw [hI.len];exact L.2);have a4:=hT m (List.mem_of_getElem? (jz.1 hm).2);have N:nr ins b r↔m.Has r:=⟨λ⟨m',h1,W⟩=>by rw [hm] at h1;cases h1;exact W,λh=>⟨m,hm,h⟩⟩;have aG:=ai7 c (nr ins) b 0 r.toNat;have aE:(kH c b).length<=160:=by have:=pJ c b;omega
    refine ⟨_,?_,rfl⟩;rw [he,kK,obS,hm,obS];by_cases e:nr ins b r
    ·have hv:(m.get r).getD false=true:=(bd9 a4 r).2 (N.1 e);rw [if_pos hv,hz,lf L.1 L.2,obS,aC b _ (yQ L.1 L.2),obS,by3 r (by omega),obS];have a1:¬ (b∈ps/\nr ins b r):=λh=>aD h.1
     rw [if_neg a1,List.append_nil,ka (by simp;omega),obS,obS,qa L.1];refine congrArg some (congrArg Sum.inl (lE λj j0 j1=>?_));by_cases ej:j=b
     ·subst ej;rw [if_pos rfl,if_pos ⟨by simp,e⟩];show _++[(⟨r,List.replicate (kH c j).length r⟩:kA)]=_++[(⟨((r.toNat:Nat):Int),List.replicate (kH c j).length ((r.toNat:Nat):Int)⟩:kA)];rw [show ((r.toNat:Nat):Int)=r by omega]
     ·rw [if_neg ej];have:(j∈ps++[b]/\nr ins j r)↔(j∈ps/\nr ins j r):=by simp [ej]
      simp only [this]
    ·have hv:¬ ((m.get r).getD false=true):=λh=>e (N.2 ((bd9 a4 r).1 h))
     rw [if_neg hv,hz];refine congrArg some (congrArg Sum.inl (lE λj j0 j1=>?_))
     have:(j∈ps++[b]/\nr ins j r)↔(j∈ps/\nr ins j r):=by
      constructor
      ·rintro ⟨h1,W⟩;rcases List.mem_append.1 h1 with h | h
       ·exact ⟨h,W⟩
       ·rw [List.mem_singleton.1 h] at W;exact absurd W e
      ·rintro ⟨h1,W⟩;exact ⟨List.mem_append_left _ h1,W⟩
     simp only [this]) with ⟨z,f1,f2⟩ | ⟨_,_,hf⟩
   ·rw [f1,f2];refine congrArg some (congrArg Sum.inl (lE λj j0 j1=>?_));rw [show (r+1).toNat=r.toNat+1 by omega,cy4]
    congr 1
    unfold phW;rw [show ((r.toNat:Nat):Int)=r by omega];by_cases e:j∈frF c (stI c r)/\nr ins j r
    ·rw [if_pos e,if_pos e]
    ·rw [if_neg e,if_neg e]
   ·exact hf.elim
  refine kN aB ?_
  rfl)
 rw [e1,e2];have:((0:Int)+(((c.r:Int) - 0).toNat:Int)).toNat=c.r.toNat:=by omega
 rw [this]
noncomputable def bkS (c:jv) (I:Int->Int->Prop) (i:Int) (b:Int):jq :=
 ⟨phS c I b i.toNat (c.r - i).toNat++(kX c b).a,(kX c b).i,(kX c b).j,(kX c b).on,(kX c b).n⟩
omit hall hck in
theorem bx2 {i:Int} (i0:0<=i) (i1:i<c.r):∃ K,kx (λ(H:(List Int) × Int)=>((jr (tab c.r.toNat (λr ↦ (lN c r).map pe)) i).bind λL=>if decide (H.2<((L.length:Int))) then (jr L H.2).bind λN=>(jr N 0).bind λO=>(lZ H.1 O).bind λuH=>some (.inl (uH,w64 (H.2+1))) else some (.inr H.1):Option (((List Int) × Int) ⊕ ((List Int))))) ((if i<c.P then [0] else []),0)=some K/\(∀ x,x∈K↔x∈stI c i)/\K.length<=100000:=by
 have hg:jr (tab c.r.toNat λr=>(lN c r).map pe) i=some ((lN c i).map pe):=lf i0 (by omega);have a2:(lN c i).length<=50000:=Nat.le_trans (aj2 i c.b 0) hcnt
 obtain ⟨K,f1,f2,f3⟩:=lp (b1:=(λ(H:(List Int) × Int)=>((jr (tab c.r.toNat (λr ↦ (lN c r).map pe)) i).bind λL=>if decide (H.2<((L.length:Int))) then (jr L H.2).bind λN=>(jr N 0).bind λO=>(lZ H.1 O).bind λuH=>some (.inl (uH,w64 (H.2+1))) else some (.inr H.1):Option (((List Int) × Int) ⊕ ((List Int)))))) (λs:List Int × Int=>(0<=s.2/\s.2<=((lN c i).length:Int))/\s.1.Pairwise (·<·)/\(∀ x,x∈s.1↔x∈(if i<c.P then [(0:Int)] else [])\/x∈((lN c i).take s.2.toNat).map (·.block))/\(s.1.length:Int)<=s.2+1) (λK=>(∀ x,x∈K↔x∈stI c i)/\K.length<=100000) (λs=>(lN c i).length - s.2.toNat) (λs hs=>by
  obtain ⟨z,j⟩:=s;obtain ⟨⟨j0,j1⟩,j2,M,j4⟩:=hs;dsimp only at j0 j1 j2 M j4 ⊢;by_cases e:j<((lN c i).length:Int)
  ·left;obtain ⟨p,hp,W,_⟩:=kV (xs:=lN c i) j0 e
   have a1:jr ((lN c i).map pe) j=some (pe p):=by
    obtain ⟨h0,h1⟩:=jz.1 hp;exact jz.2 ⟨h0,by rw [List.getElem?_map,h1];rfl⟩
   obtain ⟨l',a0,i2,i3,_⟩:=xm (l:=z) (n:=p.block) j2 (by omega);refine ⟨(l',j+1),?_,⟨⟨by dsimp only;omega,by dsimp only;omega⟩,i2,λx=>?_,by dsimp only;omega⟩,by dsimp only;omega⟩
   ·rw [hg,obS,if_pos (by simpa using e),a1,obS,show jr (pe p) 0=some p.block from rfl,obS,a0,obS,kv (by omega) (by omega)]
   ·dsimp only;rw [i3,M,show (j+1).toNat=j.toNat+1 by omega,List.take_add_one,W,List.map_append,List.mem_append];simp only [Option.toList_some,List.map_cons,List.map_nil,List.mem_singleton];constructor
    ·rintro (h | h | h)
     ·exact .inr (.inr h)
     ·exact .inl h
     ·exact .inr (.inl h)
    ·rintro (h | h | h)
     ·exact .inr (.inl h)
     ·exact .inr (.inr h)
     ·exact .inl h
  ·right;refine ⟨z,by rw [hg,obS,if_neg (by simpa using e)],λx=>?_,by omega⟩;rw [M,show j.toNat=(lN c i).length by omega,List.take_length];unfold stI
   rw [List.mem_append]) ((lN c i).length+1) ((if i<c.P then [0] else []),0) ⟨⟨Int.le_refl _,by dsimp only;omega⟩,by dsimp only;split<;>simp,λx=>by simp,by dsimp only;split<;>simp⟩ (by dsimp only;omega)
 exact ⟨K,f1,f2,f3⟩
theorem bw6 (hS:tz c li lo) (hl:nq c=some ⟨li,lo⟩) (hsm:∀ b∈c.b,SmB b):qU c=some (phC c (lz li)):=by
 have aS:=hck.r;have hnb:=hck.nb;have a8:pL c=some (domT c):=av7 (ye hck) (yc hck) (by omega) (by omega);have a9:qT c=some (tab c.r.toNat λr=>(lN c r).map pe):=bv2 hck λx hx=>⟨(hsm x hx).a,(hsm x hx).i⟩
 have a0:∀ b,ku c b=some (kH c b):=λb=>rC c b (by omega) λx hx=>(hsm x hx).next
 unfold qU;rw [aw4 c (by omega) hsm,obS,a8,obS,hl,obS,a9,obS];dsimp only;have aI:w64 (c.r - 1)=c.r - 1:=kv (by omega) (by omega);rw [aI]
 obtain ⟨z,aL,a4⟩:=lp (b1:=(λ(O:(List jq) × Int)=>(if decide (0<=O.2) then (if decide (O.2<c.P) then some ([0]:List Int) else some ([]:List Int):Option ((List Int))).bind λuZ=>((kx (S:=(List Int) × Int) (X:=(List Int)) (λuN=>(jr (tab c.r.toNat (λr ↦ (lN c r).map pe)) O.2).bind λuY=>if decide (uN.2<((uY.length:Int))) then (jr uY uN.2).bind λvA=>(jr vA 0).bind λvB=>(lZ uN.1 vB).bind λvC=>some (.inl (vC,w64 (uN.2+1))) else some (.inr uN.1)) (uZ,0)).bind (λN=>some N):Option ((List Int))).bind λvD=>(nK c (domT c) vD).bind λuX=>(kO (S:=(List jq)) (X:=Empty) (λuI L=>((jr uX uI).bind λuJ=>(jr li uJ).bind λuO=>(jr uO O.2).bind λuP=>if !(uP) then some L else (ku c uJ).bind λuQ=>(kO (S:=(List Int)) (X:=Empty) (λuW W=>(k8 W ([O.2]:List Int)).bind λuH=>some (.inl uH)) (((uQ.length:Int):Int) - 0).toNat 0 ([]:List Int)).bind (Sum.elim (λuR=>((jr uX uI).bind λuL=>(jr L uL).bind λH=>(k8 ([(⟨O.2,uR⟩:kA)]:List kA) H.a).bind λuS=>some (L.set (uL).toNat (⟨uS,H.i,H.j,H.on,H.n⟩:jq)):Option ((List jq))).bind λuU=>some uU) (λ(N:Empty)=>nomatch N)):Option ((List jq))).bind λuV=>some (.inl uV)) (((uX.length:Int):Int) - 0).toNat 0 O.1).bind (Sum.elim (λvE=>some (.inl (vE,w64 (O.2 - 1)))) (λ(N:Empty)=>nomatch N)) else some (.inr O.1):Option (((List jq) × Int) ⊕ ((List jq)))))) (λs:List jq × Int=>(-1<=s.2/\s.2<c.r)/\s.1=tab c.b.length (bkS c (lz li) (s.2+1))) (λz=>z=tab c.b.length (az2 c (lz li))) (λs=>(s.2+1).toNat) (λs hs=>by
  obtain ⟨z,i⟩:=s;obtain ⟨⟨i0,i1⟩,hz⟩:=hs;dsimp only at i0 i1 hz ⊢;by_cases e:0<=i
  ·left;obtain ⟨fl,f1,f2,f3⟩:=bx2 hcnt e i1;obtain ⟨_,a6,aG⟩:=ai5 hck hall hcnt i;have aA:=aG fl f3 f2
   have aD:(if decide (i<c.P)=true then some ([0]:List Int) else some ([]:List Int))=some (if i<c.P then [0] else []):=by
    by_cases e2:i<c.P
    ·rw [if_pos (decide_eq_true e2),if_pos e2]
    ·rw [if_neg (by simpa using e2),if_neg e2]
   refine ⟨(tab c.b.length (bkS c (lz li) i),i - 1),?_,⟨⟨by dsimp only;omega,by dsimp only;omega⟩,by dsimp only;rw [show i - 1+1=i by omega]⟩,by dsimp only;omega⟩;rw [if_pos (decide_eq_true e),aD,obS];refine kN (kN f1 rfl) ?_;rw [aA,obS]
   have aM:kO (λ(uI:Int) (L:(List jq))=>(((jr (frF c (stI c i)) uI).bind λuJ=>(jr li uJ).bind λuO=>(jr uO i).bind λuP=>if !(uP) then some L else (ku c uJ).bind λuQ=>(kO (S:=(List Int)) (X:=Empty) (λuW W=>(k8 W ([i]:List Int)).bind λuH=>some (.inl uH)) (((uQ.length:Int):Int) - 0).toNat 0 ([]:List Int)).bind (Sum.elim (λuR=>((jr (frF c (stI c i)) uI).bind λuL=>(jr L uL).bind λH=>(k8 ([(⟨i,uR⟩:kA)]:List kA) H.a).bind λuS=>some (L.set (uL).toNat (⟨uS,H.i,H.j,H.on,H.n⟩:jq)):Option ((List jq))).bind λuU=>some uU) (λ(N:Empty)=>nomatch N)):Option ((List jq))).bind λuV=>some (.inl uV):Option (((List jq)) ⊕ (Empty)))) ((((frF c (stI c i)).length:Int):Int) - 0).toNat 0 z=some (.inl (tab c.b.length (bkS c (lz li) i))):=by
    rcases lB (xs:=frF c (stI c i)) (body:=(λ(uI:Int) (L:(List jq))=>(((jr (frF c (stI c i)) uI).bind λuJ=>(jr li uJ).bind λuO=>(jr uO i).bind λuP=>if !(uP) then some L else (ku c uJ).bind λuQ=>(kO (S:=(List Int)) (X:=Empty) (λuW W=>(k8 W ([i]:List Int)).bind λuH=>some (.inl uH)) (((uQ.length:Int):Int) - 0).toNat 0 ([]:List Int)).bind (Sum.elim (λuR=>((jr (frF c (stI c i)) uI).bind λuL=>(jr L uL).bind λH=>(k8 ([(⟨i,uR⟩:kA)]:List kA) H.a).bind λuS=>some (L.set (uL).toNat (⟨uS,H.i,H.j,H.on,H.n⟩:jq)):Option ((List jq))).bind λuU=>some uU) (λ(N:Empty)=>nomatch N)):Option ((List jq))).bind λuV=>some (.inl uV):Option (((List jq)) ⊕ (Empty))))) (s:=z) (λps z=>z=tab c.b.length λb=>(⟨(if b∈ps/\lz li b i then [mkP c b i.toNat] else [])++(bkS c (lz li) (i+1) b).a,(kX c b).i,(kX c b).j,(kX c b).on,(kX c b).n⟩:jq)) (λ_=>False) (by rw [hz];simp;rfl) (λps b _ z he hz=>by
     left;have aK:b∈frF c (stI c i):=by rw [he];simp
     have K:=a6.rng b aK;have aC:=wY a6.so;rw [he,List.nodup_append] at aC;have aH:b ∉ ps:=λh=>aC.2.2 b h b (by simp) rfl
     obtain ⟨a7,M,_⟩:=kV (xs:=li) (j:=b) K.1 (by rw [hS.li];exact K.2);have aP:=hS.ri b a7 M;obtain ⟨v,hv,_⟩:=kV (xs:=a7) (j:=i) e (by omega)
     have a2:v=true↔lz li b i:=by
      rw [rS M];unfold mI;rw [hv];simp
     have aO:(kH c b).length<=160:=by have:=pJ c b;omega
     refine ⟨_,?_,rfl⟩;rw [he,kK,obS,M,obS,hv,obS];by_cases a1:v=true
     ·have a5:=a2.1 a1;rw [a1,if_neg (show ¬ (!true)=true by decide),a0,obS]
      have a3:kO (S:=List Int) (X:=Empty) (λ(uW:Int) (W:List Int)=>(k8 W ([i]:List Int)).bind λuH=>some (.inl uH)) ((((kH c b).length:Int):Int) - 0).toNat 0 ([]:List Int)=some (.inl (List.replicate (kH c b).length i)):=by
       rcases lB (xs:=kH c b) (body:=λ(uW:Int) (W:List Int)=>((k8 W ([i]:List Int)).bind λuH=>some (.inl uH):Option ((List Int) ⊕ Empty))) (s:=([]:List Int)) (λl z=>z=List.replicate l.length i) (λ_=>False) rfl (λl p r z aN a4=>by
        left;have aJ:=congrArg List.length aN;simp only [List.length_append,List.length_cons] at aJ;refine ⟨_,?_,rfl⟩;rw [a4,ka (by simp;omega)]
        simp [List.replicate_succ']) with ⟨z,f1,f2⟩ | ⟨_,_,hf⟩
       ·rw [f1,f2]
       ·exact hf.elim
      have aB:¬ (b∈ps/\lz li b i):=λh=>aH h.1
      have aR:=ai7 c (lz li) b (i+1).toNat (c.r - (i+1)).toNat;have aQ:=(hsm (kX c b) (List.mem_of_getElem? (jz.1 (yQ K.1 K.2)).2)).a;refine kN (kN a3 ?_) rfl;dsimp only [Sum.elim_inl];rw [obS,hz,lf K.1 K.2,obS];dsimp only;rw [if_neg aB,List.nil_append,ka (by unfold bkS;simp;omega),obS,obS,qa K.1];refine congrArg some (lE λj j0 j1=>?_);by_cases ej:j=b
      ·subst ej;rw [if_pos rfl,if_pos ⟨by simp,a5⟩];unfold mkP;rw [show ((i.toNat:Nat):Int)=i by omega]
      ·rw [if_neg ej];have:(j∈ps++[b]/\lz li j i)↔(j∈ps/\lz li j i):=by simp [ej]
       simp only [this]
     ·have a5:¬ lz li b i:=λh=>a1 (a2.2 h)
      have aE:v=false:=by cases v with | true=>exact absurd rfl a1 | false=>rfl
      rw [aE,if_pos (show (!false)=true from rfl),obS,hz];refine congrArg some (congrArg Sum.inl (lE λj j0 j1=>?_))
      have:(j∈ps++[b]/\lz li j i)↔(j∈ps/\lz li j i):=by
       constructor
       ·rintro ⟨h1,h2⟩;rcases List.mem_append.1 h1 with h | h
        ·exact ⟨h,h2⟩
        ·rw [List.mem_singleton.1 h] at h2;exact absurd h2 a5
       ·rintro ⟨h1,h2⟩;exact ⟨List.mem_append_left _ h1,h2⟩
      simp only [this]) with ⟨z,f1,f2⟩ | ⟨_,_,hf⟩
    ·rw [f1,f2];refine congrArg some (congrArg Sum.inl (lE λj j0 j1=>?_));unfold bkS;have aF:=cj2 c (lz li) j i.toNat (c.r - (i+1)).toNat;rw [show (c.r - i).toNat=(c.r - (i+1)).toNat+1 by omega,aF,show (i+1).toNat=i.toNat+1 by omega,List.append_assoc];unfold phW;rw [show ((i.toNat:Nat):Int)=i by omega];by_cases e2:j∈frF c (stI c i)/\lz li j i
     ·rw [if_pos e2,if_pos e2]
     ·rw [if_neg e2,if_neg e2]
    ·exact hf.elim
   refine kN aM ?_;rw [Sum.elim_inl,kv (by omega) (by omega)]
  ·right;refine ⟨_,by rw [if_neg (by simpa using e)],?_⟩;rw [hz,show i+1=0 by omega];refine lE λj j0 j1=>?_
   unfold bkS az2;rw [Int.sub_zero]
   rfl) (c.r.toNat+1) (c.b,c.r - 1) ⟨⟨by dsimp only;omega,by dsimp only;omega⟩,by
   dsimp only;rw [show c.r - 1+1=c.r by omega]
   conv=>lhs;rw [ai8 c]
   refine lE λj j0 j1=>?_
   unfold bkS phS;rw [show (c.r - c.r).toNat=0 by omega]
   rfl⟩ (by dsimp only;omega)
 refine kN (kN aL rfl) ?_;rw [a4];rfl
end
end Unt
end Go.Wk
namespace Go.Wk
open Go
namespace Unt
set_option maxRecDepth 10000
open Classical
def upd (m:Int->Int) (r v:Int):Int->Int:=λx=>if x=r then v else m x
def nPh:List kA->(Int->Int)->Int->List kA × (Int->Int) × Int
 | [],m,n=>([],m,n)
 | f::l,m,n=>(⟨n,f.A⟩::(nPh l (upd m f.to n) (n+1)).1,(nPh l (upd m f.to n) (n+1)).2)
def nIn:List kD->(Int->Int)->Int->List kD × (Int->Int) × Int
 | [],m,n=>([],m,n)
 | y::l,m,n=>if kb y.op=true then (⟨y.op,n,y.A.map m,y.N⟩::(nIn l (upd m y.to n) (n+1)).1,(nIn l (upd m y.to n) (n+1)).2) else (⟨y.op,y.to,y.A.map m,y.N⟩::(nIn l m n).1,(nIn l m n).2)
def nBl (x:jq) (m:Int->Int) (n:Int):jq × (Int->Int) × Int :=
 (⟨(nPh x.a m n).1,(nIn x.i (nPh x.a m n).2.1 (nPh x.a m n).2.2).1,x.j,if x.j=2\/x.j=3 then (nIn x.i (nPh x.a m n).2.1 (nPh x.a m n).2.2).2.1 x.on else x.on,x.n⟩,(nIn x.i (nPh x.a m n).2.1 (nPh x.a m n).2.2).2)
theorem xc:∀ (l:List kA) (f:kA) (m:Int->Int) (n:Int),nPh (l++[f]) m n=((nPh l m n).1++[⟨(nPh l m n).2.2,f.A⟩],upd (nPh l m n).2.1 f.to (nPh l m n).2.2,(nPh l m n).2.2+1)
 | [],f,m,n=>rfl
 | g::l,f,m,n=>by
  show (⟨n,g.A⟩::(nPh (l++[f]) (upd m g.to n) (n+1)).1,(nPh (l++[f]) (upd m g.to n) (n+1)).2)=_;rw [xc l f];rfl
theorem pn:∀ (l:List kA) (m:Int->Int) (n:Int),(nPh l m n).1.length=l.length/\(nPh l m n).2.2=n+l.length
 | [],m,n=>⟨rfl,by simp [nPh]⟩
 | f::l,m,n=>by
  obtain ⟨e,H⟩:=pn l (upd m f.to n) (n+1);refine ⟨by simp [nPh,e],?_⟩;show (nPh l (upd m f.to n) (n+1)).2.2=_;rw [H];simp;omega
theorem ak7:∀ (l:List kA) (m:Int->Int) (n:Int),(nPh l m n).1.map (·.A)=l.map (·.A)
 | [],m,n=>rfl
 | f::l,m,n=>by simp [nPh,ak7 l]
theorem zO : ∀ (l : List kD) (y : kD) (m : Int -> Int) (n : Int), nIn (l ++ [y]) m n = if kb y.op = true then ((nIn l m n).1 ++ [⟨y.op, (nIn l m n).2.2, y.A.map (nIn l m n).2.1, y.N⟩], upd (nIn l m n).2.1 y.to (nIn l m n).2.2, (nIn l m n).2.2 + 1) else ((nIn l m n).1 ++ [⟨y.op, y.to, y.A.map (nIn l m n).2.1, y.N⟩], (nIn l m n).2)
 | [],y,m,n=>by
  simp only [List.nil_append,nIn]
 | z::l,y,m,n=>by
  by_cases e:kb z.op=true
  ·simp only [List.cons_append,nIn,if_pos e,zO l y];split<;>rfl
  ·simp only [List.cons_append,nIn,if_neg e,zO l y];split<;>rfl
theorem qz:∀ (l:List kD) (m:Int->Int) (n:Int),(nIn l m n).1.length=l.length/\n<=(nIn l m n).2.2/\(nIn l m n).2.2<=n+l.length
 | [],m,n=>⟨rfl,by simp [nIn],by simp [nIn]⟩
 | y::l,m,n=>by
  by_cases e:kb y.op=true
  ·obtain ⟨H,K,L⟩:=qz l (upd m y.to n) (n+1);simp only [nIn,if_pos e];exact ⟨by simp [H],by omega,by simp;omega⟩
  ·obtain ⟨H,K,L⟩:=qz l m n;simp only [nIn,if_neg e];exact ⟨by simp [H],K,by simp;omega⟩
theorem aj4 {α:Type} {P:List α->Prop} (h0:P []) (hs:∀ l b,P l->P (l++[b])) (l:List α):P l:=by
 have:∀ r:List α,P r.reverse:=by
  intro r
  induction r with
  | nil=>exact h0
  | cons b r e=>rw [List.reverse_cons];exact hs _ b e
 have:=this l.reverse
 rwa [List.reverse_reverse] at this
structure NS where
 B:List jq
 nx:Int
 E:Int->Int->Int
def bf7 (c:jv) (r:Int):Int:=if 0<=r/\r<c.P then r else 0
noncomputable def mR (c:jv) (s:NS) (b:Int):Int->Int:=if 0<=idf c b then s.E (idf c b) else bf7 c
noncomputable def qq (c:jv) (s:NS) (b:Int):NS :=
 ⟨s.B.set b.toNat (nBl (kX c b) (mR c s b) s.nx).1,(nBl (kX c b) (mR c s b) s.nx).2.2,λj=>if j=b then (nBl (kX c b) (mR c s b) s.nx).2.1 else s.E j⟩
noncomputable def kr (c:jv) (l:List Int):NS:=l.foldl (qq c) ⟨c.b,c.P,λ_ _=>0⟩
theorem qR (c:jv) (l:List Int) (b:Int):kr c (l++[b])=qq c (kr c l) b:=by
 unfold kr;rw [List.foldl_append];rfl
theorem xy {c:jv} (hsm:∀ x∈c.b,x.a.length<=40000/\x.i.length<=40000) (hp:0<=c.P/\c.P<=3):∀ (l:List Int),(∀ b∈l,0<=b/\b<(c.b.length:Int))->(kr c l).B.length=c.b.length/\(∀ j,0<=j->j ∉ l->jr (kr c l).B j=jr c.b j)/\0<=(kr c l).nx/\(kr c l).nx<=3+80000*(l.length:Int):=by
 intro l
 induction l using aj4 with
 | h0=>intro _;exact ⟨rfl,λ_ _ _=>rfl,hp.1,by show c.P<=_;simp;exact hp.2⟩
 | hs l b ih =>
  intro N;obtain ⟨W,i2,_,_⟩:=ih λx H=>N x (List.mem_append_left _ H)
  have O:=N b (by simp);rw [qR];obtain ⟨x,H,_⟩:=kV (xs:=c.b) (j:=b) O.1 O.2;have a0:=hsm x (List.mem_of_getElem? (jz.1 H).2);refine ⟨by show (List.set _ _ _).length=_;rw [List.length_set];exact W,λj L M=>?_,?_,?_⟩
  ·show jr (List.set _ _ _) j = _;have K:b.toNat≠j.toNat:=λ_=>M (by simp;right;omega)
   rw [<- i2 j L λh=>M (List.mem_append_left _ h)];unfold jr;rw [if_pos L,if_pos L,List.getElem?_set_ne K]
  ·show 0 <= (nBl (kX c b) (mR c (kr c l) b) (kr c l).nx).2.2;rw [l0 H];have h1:=pn x.a (mR c (kr c l) b) (kr c l).nx;have h2:=qz x.i (nPh x.a (mR c (kr c l) b) (kr c l).nx).2.1 (nPh x.a (mR c (kr c l) b) (kr c l).nx).2.2;show 0<=(nIn x.i _ _).2.2;omega
  ·show (nBl (kX c b) (mR c (kr c l) b) (kr c l).nx).2.2 <= _;rw [l0 H];have h1:=pn x.a (mR c (kr c l) b) (kr c l).nx;have h2:=qz x.i (nPh x.a (mR c (kr c l) b) (kr c l).nx).2.1 (nPh x.a (mR c (kr c l) b) (kr c l).nx).2.2;show (nIn x.i _ _).2.2<=_;simp only [List.length_append,List.length_cons,List.length_nil];omega
theorem bt8 (r n:Int) (m:jw Int) (e:0<=n/\n<=100000000):lJ r n m=some (n,n+1,m.i r n):=by
 unfold lJ;rw [kv (by omega) (by omega)]
theorem ap3 (m:jw Int) (r n x:Int):((m.i r n).get x).getD 0=if x=r then n else (m.get x).getD 0:=by
 rw [qD];split<;>rfl
theorem nH {α:Type} {A B:List α} {x y:α}:(A++x::B).set A.length y=A++y::B:=by
 rw [List.set_append_right _ _ (Nat.le_refl _)];simp
theorem ql {α:Type} {A B:List α} {x:α} {k:Nat} (h:A.length=k):jr (A++x::B) (k:Int)=some x:=by rw [<- h];exact kK
theorem cg8 (xs:List kA) (m0:jw Int) (e:Int) (g:Int->Int) (hg:∀ r,(m0.get r).getD 0=g r) (hn:0<=e/\e<=50000000) (hl:xs.length<=40000) :
  ∃ m',kO (λ(N:Int) (H:(List kA) × Int × (jw Int))=>((jr H.1 N).bind λO=>(lJ O.to H.2.1 H.2.2).bind λK=>some (.inl ((H.1.set (N).toNat (⟨K.1,O.A⟩:kA)),K.2.1,K.2.2)):Option (((List kA) × Int × (jw Int)) ⊕ (Empty)))) (((xs.length:Int):Int) - 0).toNat 0 (xs,e,m0)=some (.inl ((nPh xs g e).1,(nPh xs g e).2.2,m'))/\∀ r,(m'.get r).getD 0=(nPh xs g e).2.1 r:=by
 rcases lB (xs:=xs) (body:=(λ(N:Int) (H:(List kA) × Int × (jw Int))=>((jr H.1 N).bind λO=>(lJ O.to H.2.1 H.2.2).bind λK=>some (.inl ((H.1.set (N).toNat (⟨K.1,O.A⟩:kA)),K.2.1,K.2.2)):Option (((List kA) × Int × (jw Int)) ⊕ (Empty))))) (s:=(xs,e,m0)) (λl z=>(∃ r,xs=l++r/\z.1=(nPh l g e).1++r)/\z.2.1=(nPh l g e).2.2/\∀ r,(z.2.2.get r).getD 0=(nPh l g e).2.1 r) (λ_=>False) ⟨⟨xs,rfl,rfl⟩,rfl,hg⟩ (λl f r z he hI=>by
  left;obtain ⟨z1,z2,z3⟩:=z;obtain ⟨⟨r',h1,M⟩,L,W⟩:=hI;dsimp only at M L W
  have hr:r'=f::r:=by
   rw [he] at h1;exact (List.append_cancel_left h1).symm
  subst hr;have a0:=pn l g e;have a1:=congrArg List.length he;simp only [List.length_append,List.length_cons] at a1;refine ⟨((nPh (l++[f]) g e).1++r,(nPh (l++[f]) g e).2.2,z3.i f.to z2),?_,⟨r,by simpa using he,rfl⟩,rfl,λx=>?_⟩
  ·dsimp only;rw [M,ql a0.1,obS,bt8 _ _ _ (by omega),obS,show ((l.length:Int)).toNat=(nPh l g e).1.length by omega,nH,xc,L];simp
  ·dsimp only
   rw [ap3,W,xc,L];rfl) with ⟨z,f1,⟨r,h1,M⟩,L,W⟩ | ⟨_,_,hf⟩
 ·obtain ⟨z1,z2,z3⟩:=z;dsimp only at M L W
  have hr:r=[]:=by
   have:=congrArg List.length h1;simp at this;exact this
  subst hr;refine ⟨z3,?_,W⟩;rw [f1,M,L,List.append_nil]
 ·exact hf.elim
theorem cj6 (ags:List Int) (m:jw Int) (g:Int->Int) (hg:∀ r,(m.get r).getD 0=g r) :
  kO (λ(H:Int) (e:(List Int))=>((jr e H).bind λN=>some (.inl (e.set (H).toNat ((jw.get m N).getD 0))):Option (((List Int)) ⊕ (Empty)))) (((ags.length:Int):Int) - 0).toNat 0 ags=some (.inl (ags.map g)):=by
 rcases lB (xs:=ags) (body:=(λ(H:Int) (e:(List Int))=>((jr e H).bind λN=>some (.inl (e.set (H).toNat ((jw.get m N).getD 0))):Option (((List Int)) ⊕ (Empty))))) (s:=ags) (λl z=>∃ r,ags=l++r/\z=l.map g++r) (λ_=>False) ⟨ags,rfl,rfl⟩ (λl a r z O W=>by
  left;obtain ⟨r',K,L⟩:=W
  have M:r'=a::r:=by
   rw [O] at K;exact (List.append_cancel_left K).symm
  subst M;refine ⟨(l++[a]).map g++r,?_,r,by simpa using O,rfl⟩;rw [L,ql (by simp),obS,hg,show ((l.length:Int)).toNat=(l.map g).length by simp,nH]
  simp) with ⟨z,f1,r,K,L⟩ | ⟨_,_,hf⟩
 ·have M:r=[]:=by
   have:=congrArg List.length K;simp at this;exact this
  subst M;rw [f1,L,List.append_nil]
 ·exact hf.elim
theorem cn8 (xs:List kD) (m0:jw Int) (K:Int) (g:Int->Int) (hg:∀ r,(m0.get r).getD 0=g r) (hn:0<=K/\K<=50000000) (hl:xs.length<=40000) :
  ∃ m',kO (λ(N:Int) (L:(List kD) × Int × (jw Int))=>(((jr L.1 N).bind λH=>(kO (S:=(List Int)) (X:=Empty) (λuL uN=>(jr uN uL).bind λuO=>some (.inl (uN.set (uL).toNat ((jw.get L.2.2 uO).getD 0)))) (((H.A.length:Int):Int) - 0).toNat 0 H.A).bind (Sum.elim (λuG=>(oB H.op).bind λuP=>(if uP then (lJ H.to L.2.1 L.2.2).bind λuH=>some (((L.1.set (N).toNat (⟨H.op,H.to,uG,H.N⟩:kD)).set (N).toNat (⟨H.op,uH.1,uG,H.N⟩:kD)),uH.2.1,uH.2.2) else some ((L.1.set (N).toNat (⟨H.op,H.to,uG,H.N⟩:kD)),L.2.1,L.2.2):Option ((List kD) × Int × (jw Int))).bind λW=>some (W.1,W.2.1,W.2.2)) (λ(e0:Empty)=>nomatch e0)):Option ((List kD) × Int × (jw Int))).bind λuJ=>some (.inl (uJ.1,uJ.2.1,uJ.2.2)):Option (((List kD) × Int × (jw Int)) ⊕ (Empty)))) (((xs.length:Int):Int) - 0).toNat 0 (xs,K,m0)=some (.inl ((nIn xs g K).1,(nIn xs g K).2.2,m'))/\∀ r,(m'.get r).getD 0=(nIn xs g K).2.1 r:=by
 rcases lB (xs:=xs) (body:=(λ(N:Int) (L:(List kD) × Int × (jw Int))=>(((jr L.1 N).bind λH=>(kO (S:=(List Int)) (X:=Empty) (λuL uN=>(jr uN uL).bind λuO=>some (.inl (uN.set (uL).toNat ((jw.get L.2.2 uO).getD 0)))) (((H.A.length:Int):Int) - 0).toNat 0 H.A).bind (Sum.elim (λuG=>(oB H.op).bind λuP=>(if uP then (lJ H.to L.2.1 L.2.2).bind λuH=>some (((L.1.set (N).toNat (⟨H.op,H.to,uG,H.N⟩:kD)).set (N).toNat (⟨H.op,uH.1,uG,H.N⟩:kD)),uH.2.1,uH.2.2) else some ((L.1.set (N).toNat (⟨H.op,H.to,uG,H.N⟩:kD)),L.2.1,L.2.2):Option ((List kD) × Int × (jw Int))).bind λW=>some (W.1,W.2.1,W.2.2)) (λ(e0:Empty)=>nomatch e0)):Option ((List kD) × Int × (jw Int))).bind λuJ=>some (.inl (uJ.1,uJ.2.1,uJ.2.2)):Option (((List kD) × Int × (jw Int)) ⊕ (Empty))))) (s:=(xs,K,m0)) (λl z=>(∃ r,xs=l++r/\z.1=(nIn l g K).1++r)/\z.2.1=(nIn l g K).2.2/\∀ r,(z.2.2.get r).getD 0=(nIn l g K).2.1 r) (λ_=>False) ⟨⟨xs,rfl,rfl⟩,rfl,hg⟩ (λl y r z he hI=>by
  left;obtain ⟨z1,z2,z3⟩:=z;obtain ⟨⟨r',h1,h2⟩,h3,h4⟩:=hI;dsimp only at h2 h3 h4
  have hr:r'=y::r:=by
   rw [he] at h1;exact (List.append_cancel_left h1).symm
  subst hr;have O:=qz l g K;have a0:=congrArg List.length he;simp only [List.length_append,List.length_cons] at a0;have ha:=cj6 y.A z3 (nIn l g K).2.1 h4;have M:=zO l y g K;by_cases e:kb y.op=true
  ·rw [if_pos e] at M;refine ⟨((nIn (l++[y]) g K).1++r,(nIn (l++[y]) g K).2.2,z3.i y.to z2),?_,⟨r,by simpa using he,rfl⟩,rfl,λx=>?_⟩
   ·dsimp only;rw [h2,ql O.1,obS];refine kN (a:=((nIn (l++[y]) g K).1++r,(nIn (l++[y]) g K).2.2,z3.i y.to z2)) (kN ha ?_) rfl;dsimp only [Sum.elim_inl];rw [zE,obS,e,if_pos rfl,bt8 _ _ _ (by omega),obS,obS,show ((l.length:Int)).toNat=(nIn l g K).1.length by omega,nH,nH,M,h3];simp
   ·dsimp only;rw [ap3,h4,M,h3];rfl
  ·rw [if_neg e] at M;have e':kb y.op=false:=by cases h:kb y.op with | true=>exact absurd h e | false=>rfl
   refine ⟨((nIn (l++[y]) g K).1++r,(nIn (l++[y]) g K).2.2,z3),?_,⟨r,by simpa using he,rfl⟩,rfl,λx=>?_⟩
   ·dsimp only;rw [h2,ql O.1,obS];refine kN (a:=((nIn (l++[y]) g K).1++r,(nIn (l++[y]) g K).2.2,z3)) (kN ha ?_) rfl;dsimp only [Sum.elim_inl];rw [zE,obS,e',if_neg (by decide),obS,show ((l.length:Int)).toNat=(nIn l g K).1.length by omega,nH,M,h3];simp
   ·dsimp only
    rw [h4,M]) with ⟨z,f1,⟨r,h1,h2⟩,h3,h4⟩ | ⟨_,_,hf⟩
 ·obtain ⟨z1,z2,z3⟩:=z;dsimp only at h2 h3 h4
  have hr:r=[]:=by
   have:=congrArg List.length h1;simp at this;exact this
  subst hr;refine ⟨z3,?_,h4⟩;rw [f1,h2,h3,List.append_nil]
 ·exact hf.elim
theorem bs6:∀ (es:List (Int × Int)) (H:jw Int),(es.map (·.1)).Nodup->∃ m',lM (λ(p:Int × Int) (xs:jw Int)=>some (jw.i xs p.1 p.2)) es H=some m'/\∀ r,(∀ v,(r,v)∈es->m'.get r=some v)/\((∀ v,(r,v) ∉ es)->m'.get r=H.get r)
 | [],H,_=>⟨H,rfl,λr=>⟨λv h=>(by cases h),λ_=>rfl⟩⟩
 | p::es,H,hn=>by
  rw [List.map_cons,List.nodup_cons] at hn;obtain ⟨m',N,L⟩:=bs6 es (H.i p.1 p.2) hn.2;refine ⟨m',by simpa [lM] using N,λr=>⟨λv K=>?_,λK=>?_⟩⟩
  ·rcases List.mem_cons.1 K with e | e
   ·subst e;rw [(L r).2 λM h=>hn.1 (List.mem_map.2 ⟨_,h,rfl⟩),qD,if_pos rfl]
   ·exact (L r).1 v e
  ·rw [(L r).2 λM h=>K M (List.mem_cons_of_mem _ h),qD,if_neg];rintro rfl;exact K p.2 (List.mem_cons_self ..)
theorem ch1 {m:jw Int}:∃ m',lM (λ(p:Int × Int) (xs:jw Int)=>some (jw.i xs p.1 p.2)) m.es jw.mk0=some m'/\∀ r,(m'.get r).getD 0=(m.get r).getD 0:=by
 obtain ⟨m',H,e⟩:=bs6 m.es jw.mk0 m.nodup;refine ⟨m',H,λr=>?_⟩;cases h:m.get r with
 | some v=>rw [(e r).1 v ((lx m.nodup).1 h)]
 | none=>rw [(e r).2 (λv K=>by rw [show m.get r=some v from (lx m.nodup).2 K] at h;cases h),w8]
theorem cm8 (c:jv) (hp:0<=c.P/\c.P<=3):∃ m,kO (λ(H:Int) (K:(jw Int))=>(some (.inl (jw.i K H H)):Option (((jw Int)) ⊕ (Empty)))) ((c.P:Int) - 0).toNat 0 (jw.mk0:jw Int)=some (.inl m)/\∀ r,(m.get r).getD 0=bf7 c r:=by
 obtain ⟨m,O,N⟩:=oE (body:=(λ(H:Int) (K:(jw Int))=>(some (.inl (jw.i K H H)):Option (((jw Int)) ⊕ (Empty))))) (k:=((c.P:Int) - 0).toNat) (i:=0) (s:=(jw.mk0:jw Int)) (λi m=>∀ r,(m.get r).getD 0=if 0<=r/\r<i then r else 0) (λr=>by rw [w8,if_neg (by omega)];rfl) (λi m _ _ M=>by
  refine ⟨_,rfl,λr=>?_⟩;rw [ap3,M];by_cases e:r=i
  ·rw [if_pos e,if_pos (by omega)];exact e.symm
  ·rw [if_neg e];by_cases L:0<=r/\r<i
   ·rw [if_pos L,if_pos (by omega)]
   ·rw [if_neg L,if_neg (by omega)])
 refine ⟨m,O,λr=>?_⟩;rw [N];unfold bf7;rw [show (0:Int)+(((c.P:Int) - 0).toNat:Int)=c.P by omega]
end Unt
end Go.Wk
namespace Go.Wk
open Go
namespace Unt
set_option maxRecDepth 10000
open Classical
noncomputable def nM (c:jv):Nat->Int->List Int
 | 0,_=>[]
 | N+1,b=>b::((ma c b c.b.length).map (nM c N)).flatten
def PF (c:jv):(Int->Prop)->List Int->Prop
 | _,[]=>True
 | P,x::l=>(idf c x<0\/P (idf c x))/\PF c (λy=>P y\/y=x) l
theorem zb {c:jv}:∀ {l:List Int} {P Q:Int->Prop},(∀ y,P y->Q y)->PF c P l->PF c Q l
 | [],_,_,_,_=>trivial
 | x::l,P,Q,h,hp=>⟨hp.1.imp id (h _),zb (λy e=>e.imp (h y) id) hp.2⟩
theorem ba0 {c:jv}:∀ {a b:List Int} {P:Int->Prop},PF c P (a++b)↔PF c P a/\PF c (λy=>P y\/y∈a) b
 | [],b,P=>⟨λh=>⟨trivial,zb (λy H=>.inl H) h⟩,λh=>zb (λy H=>H.resolve_right (by simp)) h.2⟩
 | x::a,b,P=>by
  show (_/\PF c _ (a++b))↔(_/\PF c _ a)/\_;rw [ba0 (a:=a)];constructor
  ·rintro ⟨L,K,M⟩;refine ⟨⟨L,K⟩,zb (λy H=>?_) M⟩;rcases H with (h | h) | h
   ·exact .inl h
   ·exact .inr (by rw [h];exact List.mem_cons_self ..)
   ·exact .inr (List.mem_cons_of_mem _ h)
  ·rintro ⟨⟨L,K⟩,M⟩;refine ⟨L,K,zb (λy H=>?_) M⟩;rcases H with h | h
   ·exact .inl (.inl h)
   ·rcases List.mem_cons.1 h with e | e
    ·exact .inl (.inr e)
    ·exact .inr e
theorem bb7 (c:jv):∀ (N:Nat) (b:Int) (P:Int->Prop),(idf c b<0\/P (idf c b))->PF c P (nM c N b)
 | 0,_,_,_=>trivial
 | N+1,b,P,h=>by
  refine ⟨h,?_⟩
  have key:∀ (e:List Int) (Q:Int->Prop),Q b->(∀ k∈e,idf c k=b)->PF c Q ((e.map (nM c N)).flatten):=by
   intro e
   induction e with
   | nil=>intro Q _ _;exact trivial
   | cons k e M =>
    intro Q K H;rw [List.map_cons,List.flatten_cons,ba0];exact ⟨bb7 c N k Q (.inr (by rw [H k (by simp)];exact K)),M _ (.inl K) λq L=>H q (List.mem_cons_of_mem _ L)⟩
  exact key _ _ (.inr rfl) λk H=>((ou c b k _).1 H).2
section
variable {c:jv} (hnb:c.b.length<=160) (hall:∀ b:Int,0<=b->b<(c.b.length:Int)->oW c b=true)
include hall
theorem ux:∀ (N:Nat) (b:Int) (H:List Int),0<=b->b<(c.b.length:Int)->c.b.length - dep c b<N->H.Nodup->(∀ x∈H,0<=x/\x<(c.b.length:Int))->(∀ x∈H,¬ Sub c b x) ->
  (H++nM c N b).Nodup/\∀ x∈nM c N b,(0<=x/\x<(c.b.length:Int))/\Sub c b x:=by
 intro N
 induction N with
 | zero=>intro b H _ _ h;omega
 | succ N ih =>
  intro b H b0 b1 _ aF aD a6;have aC:b ∉ H:=λh=>a6 b h .refl
  have a9:(H++[b]).Nodup:=by
   rw [List.nodup_append];exact ⟨aF,by simp,λx W y hy e=>aC (by rw [List.mem_singleton.1 hy] at e;rw [<- e];exact W)⟩
  have a5:∀ x∈H++[b],0<=x/\x<(c.b.length:Int):=λx W=>by
   rcases List.mem_append.1 W with e | e
   ·exact aD x e
   ·rw [List.mem_singleton.1 e];exact ⟨b0,b1⟩
  have key:∀ (M K:List Int),ma c b c.b.length=M++K->∀ L:List Int,(H++[b]++L).Nodup->(∀ x∈L,(0<=x/\x<(c.b.length:Int))/\∃ k∈M,Sub c k x) ->
    (H++[b]++(L++(K.map (nM c N)).flatten)).Nodup/\∀ x∈L++(K.map (nM c N)).flatten,(0<=x/\x<(c.b.length:Int))/\∃ k∈ma c b c.b.length,Sub c k x:=by
   intro M K
   induction K generalizing M with
   | nil =>
    intro he L h1 h2;rw [List.append_nil] at he;simp only [List.map_nil,List.flatten_nil,List.append_nil];exact ⟨h1,λx W=>by obtain ⟨a,k,hk,hs⟩:=h2 x W;exact ⟨a,k,by rw [he];exact hk,hs⟩⟩
   | cons k K aG =>
    intro he L h1 h2;have aB:k∈ma c b c.b.length:=by rw [he];simp
    obtain ⟨⟨k0,k1⟩,O⟩:=(ou c b k _).1 aB;have aI:=re hall k0 k1 O b0;have aJ:=bc1 (c:=c) k;have a0:=ui c b c.b.length;rw [he,List.nodup_append] at a0
    obtain ⟨f3,f4⟩:=ih k (H++[b]++L) k0 k1 (by omega) h1 (λx W=>by
     rcases List.mem_append.1 W with e | e
     ·exact a5 x e
     ·exact (h2 x e).1) (λx W=>by
     rcases List.mem_append.1 W with e | e
     ·rcases List.mem_append.1 e with e | e
      ·exact λh=>a6 x e (h.kid O k0 k1)
      ·rw [List.mem_singleton.1 e];exact al8 hall O k0 k1 b0
     ·obtain ⟨_,k',a4,aA⟩:=h2 x e;have a7:k'∈ma c b c.b.length:=by rw [he];exact List.mem_append_left _ a4
      obtain ⟨⟨aH,aE⟩,a8⟩:=(ou c b k' _).1 a7
      exact aA.disj hall b0 a8 aH aE O k0 k1 λe=>a0.2.2 k' a4 k (by simp) e)
    have:=aG (M++[k]) (by rw [he];simp) (L++nM c N k) (by rw [<- List.append_assoc];exact f3) (λx W=>by
     rcases List.mem_append.1 W with e | e
     ·obtain ⟨a1,k',a2,a3⟩:=h2 x e;exact ⟨a1,k',by simp [a2],a3⟩
     ·exact ⟨(f4 x e).1,k,by simp,(f4 x e).2⟩)
    rw [List.map_cons,List.flatten_cons,<- List.append_assoc L];exact this
  obtain ⟨g1,g2⟩:=key [] (ma c b c.b.length) rfl [] (by simpa using a9) (by simp);rw [List.nil_append] at g1 g2;refine ⟨?_,λx W=>?_⟩
  ·show (H ++ b :: _).Nodup;rw [show H++b::((ma c b c.b.length).map (nM c N)).flatten=H++[b]++((ma c b c.b.length).map (nM c N)).flatten by simp];exact g1
  ·rcases List.mem_cons.1 W with e | e
   ·rw [e];exact ⟨⟨b0,b1⟩,.refl⟩
   ·obtain ⟨a1,k,a2,a3⟩:=g2 x e;obtain ⟨⟨k0,k1⟩,O⟩:=(ou c b k _).1 a2;exact ⟨a1,a3.kid O k0 k1⟩
include hnb
theorem cq5 {N:Nat} {b:Int} (b0:0<=b) (b1:b<(c.b.length:Int)) (hN:c.b.length - dep c b<N) {H:List Int} (M:H.Nodup) (K:∀ x∈H,0<=x/\x<(c.b.length:Int)) (L:∀ x∈H,¬ Sub c b x):H.length+(nM c N b).length<=160:=by
 obtain ⟨W,O⟩:=ux hall N b H b0 b1 hN M K L
 have:=sG (n:=c.b.length) W λx hx=>by
  rcases List.mem_append.1 hx with e | e
  ·exact K x e
  ·exact (O x e).1
 rw [List.length_append] at this;omega
theorem ce9 {K:jw (List Int)} (hK:∀ b,(K.get b).getD []=ma c b c.b.length):∀ (N:Nat) (b:Int) (H:List Int),0<=b->b<(c.b.length:Int)->c.b.length - dep c b<N->H.Nodup->(∀ x∈H,0<=x/\x<(c.b.length:Int))->(∀ x∈H,¬ Sub c b x) ->
  lq b H K=some (H++nM c N b):=by
 intro N
 induction N with
 | zero=>intro b H _ _ h;omega
 | succ N ih =>
  intro b H b0 b1 hN a8 a0 a2;obtain ⟨g1,g2⟩:=ux hall (N+1) b H b0 b1 hN a8 a0 a2;have M:=cq5 hnb hall b0 b1 hN a8 a0 a2;have O:nM c (N+1) b=b::((ma c b c.b.length).map (nM c N)).flatten:=rfl;rw [O] at g1 g2 M;simp only [List.length_cons] at M;have a5:k8 H ([b]:List Int)=some (H++[b]):=ka (by simp;omega);have a4:=ui c b c.b.length
  rcases lB (xs:=ma c b c.b.length) (body:=(λ(uC:Int) (uD:(List Int))=>((jr ((jw.get K b).getD []) uC).bind λuE=>(lq uE uD K).bind λuG=>some (.inl uG):Option (((List Int)) ⊕ (Empty))))) (s:=H++[b]) (λl z=>z=H++[b]++(l.map (nM c N)).flatten) (λ_=>False) (by simp) (λl k r z he hz=>by
   left;have aB:k∈ma c b c.b.length:=by rw [he];simp
   obtain ⟨⟨k0,k1⟩,L⟩:=(ou c b k _).1 aB;have aH:=re hall k0 k1 L b0;have aI:=bc1 (c:=c) k
   have aF:H++b::((ma c b c.b.length).map (nM c N)).flatten=(H++[b]++(l.map (nM c N)).flatten)++((k::r).map (nM c N)).flatten:=by
    rw [he];simp
   have a9:∀ x∈(l.map (nM c N)).flatten,x∈((ma c b c.b.length).map (nM c N)).flatten:=λx hx=>by
    rw [he,List.map_append,List.flatten_append];exact List.mem_append_left _ hx
   have aG:(H++[b]++(l.map (nM c N)).flatten).Nodup:=by
    rw [aF] at g1;exact (List.nodup_append.1 g1).1
   have:=ih k (H++[b]++(l.map (nM c N)).flatten) k0 k1 (by omega) aG (λx hx=>by
    rcases List.mem_append.1 hx with e | e
    ·rcases List.mem_append.1 e with e | e
     ·exact a0 x e
     ·rw [List.mem_singleton.1 e];exact ⟨b0,b1⟩
    ·exact (g2 x (List.mem_cons_of_mem _ (a9 x e))).1) (λx hx=>by
    rcases List.mem_append.1 hx with e | e
    ·rcases List.mem_append.1 e with e | e
     ·exact λh=>a2 x e (h.kid L k0 k1)
     ·rw [List.mem_singleton.1 e];exact al8 hall L k0 k1 b0
    ·obtain ⟨pl,aD,aA⟩:=List.mem_flatten.1 e;obtain ⟨k',a6,rfl⟩:=List.mem_map.1 aD;have a7:k'∈ma c b c.b.length:=by rw [he];exact List.mem_append_left _ a6
     obtain ⟨⟨a3,a1⟩,W⟩:=(ou c b k' _).1 a7;have aE:=re hall a3 a1 W b0;have aC:=((ux hall N k' [] a3 a1 (by omega) List.nodup_nil (by simp) (by simp)).2 x aA).2;rw [he,List.nodup_append] at a4
     exact aC.disj hall b0 W a3 a1 L k0 k1 λe=>a4.2.2 k' a6 k (by simp) e)
   refine ⟨_,?_,rfl⟩;rw [hK,he,kK,obS,hz,this,List.map_append,List.flatten_append]
   simp) with ⟨z,f1,f2⟩ | ⟨_,_,hf⟩
  ·rw [lq,a5,obS,hK];refine kN (by rw [hK] at f1;exact f1) ?_;show some z=_;rw [f2,O];simp
  ·exact hf.elim
theorem bm3 (a0:0<c.b.length):oU ⟨c,domT c,inT c⟩=some (nM c (c.b.length+1) 0):=by
 have W:(inT c).length=c.b.length:=mn
 obtain ⟨K,e1,e2⟩:=oE (body:=(λ(L:Int) (M:(jw (List Int)))=>(((jr (⟨c,domT c,inT c⟩:ld).I L).bind λuG=>(if uG then (mU (⟨c,domT c,inT c⟩:ld) L).bind λuE=>(k8 ((jw.get M uE).getD []) ([L]:List Int)).bind λuH=>some (jw.i M uE uH) else some M:Option ((jw (List Int)))).bind λuI=>some uI:Option ((jw (List Int)))).bind λuJ=>some (.inl uJ):Option (((jw (List Int))) ⊕ (Empty))))) (k:=(((c.b.length:Int):Int) - 0).toNat) (i:=0) (s:=(jw.mk0:jw (List Int))) (λk m=>∀ b,(m.get b).getD []=ma c b k.toNat) (λb=>by rw [w8];rfl) (λk m N _ hI=>by
  have H:k<(c.b.length:Int):=by omega
  have O:jr (inT c) k=some true:=by unfold inT;rw [lf N H,hall k N H]
  have a1:=ad2 c (idf c k) k.toNat;refine ⟨m.i (idf c k) (ma c (idf c k) k.toNat++[k]),?_,λb=>?_⟩
  ·dsimp only;rw [O,obS,if_pos rfl,aw7 hnb hall N H,obS,hI,ka (by simp;omega)];rfl
  ·rw [qD, show (k + 1).toNat = k.toNat + 1 by omega];show _=if idf c ((k.toNat:Nat):Int)=b then ma c b k.toNat++[((k.toNat:Nat):Int)] else ma c b k.toNat
   rw [show ((k.toNat:Nat):Int)=k by omega];by_cases e:b=idf c k
   ·rw [if_pos e,if_pos e.symm,<- e];rfl
   ·rw [if_neg e,if_neg (Ne.symm e)];exact hI b)
 have:((0:Int)+((((c.b.length:Int):Int) - 0).toNat:Int)).toNat=c.b.length:=by omega
 rw [this] at e2;have f:=ce9 hnb hall e2 (c.b.length+1) 0 [] (Int.le_refl _) (by omega) (by omega) List.nodup_nil (by simp) (by simp);unfold oU;dsimp only;rw [W];refine kN e1 ?_;show (lq 0 ([]:List Int) K).bind _=_;rw [f];rfl
variable {u:kU} {k:Int} (hck:COk u k c) (hsm:∀ x∈c.b,x.a.length<=40000/\x.i.length<=40000)
include hck hsm
theorem bu1 {l:List Int} (hl:∀ b∈l,0<=b/\b<(c.b.length:Int)) (aF:l.Nodup) (a6:PF c (λ_=>False) l) :
  ∃ a0,kO (λ(vH:Int) (N:(List jq) × Int × (List (jw Int)))=>((jr l vH).bind λO=>(mU (⟨c,domT c,inT c⟩:ld) O).bind λuW=>(if decide (0<=uW) then (jr N.2.2 uW).bind λuX=>((lM (λ(uO:Int × Int) (uY:(jw Int))=>some (jw.i uY uO.1 uO.2)) (uX:jw Int).es (jw.mk0:jw Int)).bind (λuZ=>some uZ):Option ((jw Int))).bind λvA=>some vA else (tv c.P).bind λ_=>(kO (S:=(jw Int)) (X:=Empty) (λuP vB=>some (.inl (jw.i vB uP uP))) ((c.P:Int) - 0).toNat 0 (jw.mk0:jw Int)).bind (Sum.elim (λvC=>some vC) (λ(L:Empty)=>nomatch L)):Option ((jw Int))).bind λvI=>(jr N.1 O).bind λK=>(kO (S:=(List kA) × Int × (jw Int)) (X:=Empty) (λvD uJ=>(jr uJ.1 vD).bind λvE=>(lJ vE.to uJ.2.1 uJ.2.2).bind λuQ=>some (.inl ((uJ.1.set (vD).toNat (⟨uQ.1,vE.A⟩:kA)),uQ.2.1,uQ.2.2))) (((K.a.length:Int):Int) - 0).toNat 0 (K.a,N.2.1,vI)).bind (Sum.elim (λuL=>(kO (S:=(List kD) × Int × (jw Int)) (X:=Empty) (λuN M=>((jr M.1 uN).bind λH=>(kO (S:=(List Int)) (X:=Empty) (λvF vG=>(jr vG vF).bind λvJ=>some (.inl (vG.set (vF).toNat ((jw.get M.2.2 vJ).getD 0)))) (((H.A.length:Int):Int) - 0).toNat 0 H.A).bind (Sum.elim (λuR=>(oB H.op).bind λvK=>(if vK then (lJ H.to M.2.1 M.2.2).bind λuS=>some (((M.1.set (uN).toNat (⟨H.op,H.to,uR,H.N⟩:kD)).set (uN).toNat (⟨H.op,uS.1,uR,H.N⟩:kD)),uS.2.1,uS.2.2) else some ((M.1.set (uN).toNat (⟨H.op,H.to,uR,H.N⟩:kD)),M.2.1,M.2.2):Option ((List kD) × Int × (jw Int))).bind λuU=>some (uU.1,uU.2.1,uU.2.2)) (λ(L:Empty)=>nomatch L)):Option ((List kD) × Int × (jw Int))).bind λuV=>some (.inl (uV.1,uV.2.1,uV.2.2))) (((K.i.length:Int):Int) - 0).toNat 0 (K.i,uL.2.1,uL.2.2)).bind (Sum.elim (λW=>(nB K.j).bind λvL=>(if vL then some (N.1.set (O).toNat (⟨uL.1,W.1,K.j,((jw.get W.2.2 K.on).getD 0),K.n⟩:jq)) else some (N.1.set (O).toNat (⟨uL.1,W.1,K.j,K.on,K.n⟩:jq)):Option ((List jq))).bind λvM=>(jr N.2.2 O).bind λvN=>some (.inl (vM,W.2.1,(N.2.2.set (O).toNat W.2.2)))) (λ(L:Empty)=>nomatch L))) (λ(L:Empty)=>nomatch L)):Option (((List jq) × Int × (List (jw Int))) ⊕ (Empty)))) (((l.length:Int):Int) - 0).toNat 0 (c.b,c.P,List.replicate c.b.length (jw.mk0:jw Int))=some (.inl ((kr c l).B,(kr c l).nx,a0))/\a0.length=c.b.length/\∀ j∈l,∃ m,jr a0 j=some m/\∀ r,(m.get r).getD 0=(kr c l).E j r:=by
 have a3:=hck.P
 rcases lB (xs:=l) (body:=(λ(vH:Int) (N:(List jq) × Int × (List (jw Int)))=>((jr l vH).bind λO=>(mU (⟨c,domT c,inT c⟩:ld) O).bind λuW=>(if decide (0<=uW) then (jr N.2.2 uW).bind λuX=>((lM (λ(uO:Int × Int) (uY:(jw Int))=>some (jw.i uY uO.1 uO.2)) (uX:jw Int).es (jw.mk0:jw Int)).bind (λuZ=>some uZ):Option ((jw Int))).bind λvA=>some vA else (tv c.P).bind λ_=>(kO (S:=(jw Int)) (X:=Empty) (λuP vB=>some (.inl (jw.i vB uP uP))) ((c.P:Int) - 0).toNat 0 (jw.mk0:jw Int)).bind (Sum.elim (λvC=>some vC) (λ(L:Empty)=>nomatch L)):Option ((jw Int))).bind λvI=>(jr N.1 O).bind λK=>(kO (S:=(List kA) × Int × (jw Int)) (X:=Empty) (λvD uJ=>(jr uJ.1 vD).bind λvE=>(lJ vE.to uJ.2.1 uJ.2.2).bind λuQ=>some (.inl ((uJ.1.set (vD).toNat (⟨uQ.1,vE.A⟩:kA)),uQ.2.1,uQ.2.2))) (((K.a.length:Int):Int) - 0).toNat 0 (K.a,N.2.1,vI)).bind (Sum.elim (λuL=>(kO (S:=(List kD) × Int × (jw Int)) (X:=Empty) (λuN M=>((jr M.1 uN).bind λH=>(kO (S:=(List Int)) (X:=Empty) (λvF vG=>(jr vG vF).bind λvJ=>some (.inl (vG.set (vF).toNat ((jw.get M.2.2 vJ).getD 0)))) (((H.A.length:Int):Int) - 0).toNat 0 H.A).bind (Sum.elim (λuR=>(oB H.op).bind λvK=>(if vK then (lJ H.to M.2.1 M.2.2).bind λuS=>some (((M.1.set (uN).toNat (⟨H.op,H.to,uR,H.N⟩:kD)).set (uN).toNat (⟨H.op,uS.1,uR,H.N⟩:kD)),uS.2.1,uS.2.2) else some ((M.1.set (uN).toNat (⟨H.op,H.to,uR,H.N⟩:kD)),M.2.1,M.2.2):Option ((List kD) × Int × (jw Int))).bind λuU=>some (uU.1,uU.2.1,uU.2.2)) (λ(L:Empty)=>nomatch L)):Option ((List kD) × Int × (jw Int))).bind λuV=>some (.inl (uV.1,uV.2.1,uV.2.2))) (((K.i.length:Int):Int) - 0).toNat 0 (K.i,uL.2.1,uL.2.2)).bind (Sum.elim (λW=>(nB K.j).bind λvL=>(if vL then some (N.1.set (O).toNat (⟨uL.1,W.1,K.j,((jw.get W.2.2 K.on).getD 0),K.n⟩:jq)) else some (N.1.set (O).toNat (⟨uL.1,W.1,K.j,K.on,K.n⟩:jq)):Option ((List jq))).bind λvM=>(jr N.2.2 O).bind λvN=>some (.inl (vM,W.2.1,(N.2.2.set (O).toNat W.2.2)))) (λ(L:Empty)=>nomatch L))) (λ(L:Empty)=>nomatch L)):Option (((List jq) × Int × (List (jw Int))) ⊕ (Empty))))) (s:=(c.b,c.P,List.replicate c.b.length (jw.mk0:jw Int))) (λl z=>(z.1=(kr c l).B/\z.2.1=(kr c l).nx)/\z.2.2.length=c.b.length/\∀ j∈l,∃ m,jr z.2.2 j=some m/\∀ r,(m.get r).getD 0=(kr c l).E j r) (λ_=>False) ⟨⟨rfl,rfl⟩,by simp,by simp⟩ (λl1 b r z he hI=>by
  left;obtain ⟨z1,z2,z3⟩:=z;obtain ⟨⟨h1,h2⟩,h3,h4⟩:=hI;dsimp only at h1 h2 h3 h4;subst h1 h2;have aD:b∈l:=by rw [he];simp
  have hb:=hl b aD;have a2:∀ x∈l1,0<=x/\x<(c.b.length:Int):=λx hx=>hl x (by rw [he];exact List.mem_append_left _ hx)
  have a1:=aF;rw [he,List.nodup_append] at a1;have aG:b ∉ l1:=λh=>a1.2.2 b h b (by simp) rfl
  have aI:l1.length<=160:=by
   have:=sG (n:=c.b.length) a1.1 a2;omega
  obtain ⟨_,i2,i3,_⟩:=xy hsm ⟨a3.1,a3.2.2⟩ l1 a2
  have aA:idf c b<0\/idf c b∈l1:=by
   rw [he,ba0] at a6;exact a6.2.1.imp id λh=>h.resolve_left id
  obtain ⟨x,hx,_⟩:=kV (xs:=c.b) (j:=b) hb.1 hb.2;have a9:=hsm x (List.mem_of_getElem? (jz.1 hx).2)
  have a8:∃ m1,(if decide (0<=idf c b)=true then (jr z3 (idf c b)).bind λuX=>((lM (λ(uO:Int × Int) (uY:(jw Int))=>some (jw.i uY uO.1 uO.2)) (uX:jw Int).es (jw.mk0:jw Int)).bind (λuZ=>some uZ):Option ((jw Int))).bind λvA=>some vA else (tv c.P).bind λ_=>(kO (λ(uP:Int) (vB:(jw Int))=>(some (.inl (jw.i vB uP uP)):Option (((jw Int)) ⊕ (Empty)))) ((c.P:Int) - 0).toNat 0 (jw.mk0:jw Int)).bind (Sum.elim (λvC=>some vC) (λ(L:Empty)=>nomatch L)):Option (jw Int))=some m1/\∀ r,(m1.get r).getD 0=mR c (kr c l1) b r:=by
   unfold mR;rcases aA with e | e
   ·obtain ⟨m,f1,f2⟩:=cm8 c ⟨a3.1,a3.2.2⟩;refine ⟨m,?_,by rw [if_neg (by omega)];exact f2⟩;rw [if_neg (by simpa using e),show tv c.P=some () from if_pos (by omega),obS];exact kN f1 rfl
   ·have aB:=(a2 _ e).1;obtain ⟨m,f1,f2⟩:=h4 _ e;obtain ⟨m',g1,g2⟩:=ch1 (m:=m);refine ⟨m',?_,λr=>by rw [if_pos aB,g2,f2]⟩;rw [if_pos (decide_eq_true aB),f1,obS];exact kN (kN g1 rfl) rfl
  obtain ⟨m1,aE,aC⟩:=a8;obtain ⟨m2,p1,p2⟩:=cg8 x.a m1 (kr c l1).nx (mR c (kr c l1) b) aC ⟨i3,by omega⟩ a9.1;have aH:=pn x.a (mR c (kr c l1) b) (kr c l1).nx;obtain ⟨m3,q1,q2⟩:=cn8 x.i m2 (nPh x.a (mR c (kr c l1) b) (kr c l1).nx).2.2 (nPh x.a (mR c (kr c l1) b) (kr c l1).nx).2.1 p2 ⟨by omega,by omega⟩ a9.2;obtain ⟨L,a4,_⟩:=kV (xs:=z3) (j:=b) hb.1 (by omega);refine ⟨((kr c (l1++[b])).B,(kr c (l1++[b])).nx,z3.set b.toNat m3),?_,⟨rfl,rfl⟩,by dsimp only;rw [List.length_set];exact h3,λj hj=>?_⟩
  ·dsimp only;rw [he,kK,obS,aw7 hnb hall hb.1 hb.2,obS];refine kN aE ?_;rw [i2 b hb.1 aG,hx,obS];refine kN p1 ?_;dsimp only [Sum.elim_inl];refine kN q1 ?_;dsimp only [Sum.elim_inl];rw [xo,obS,qR];unfold qq;rw [l0 hx];unfold nBl;by_cases e:x.j=2\/x.j=3
   ·rw [if_pos (decide_eq_true e),obS,a4,obS,if_pos e,q2]
   ·rw [if_neg (by simpa using e),obS,a4,obS,if_neg e]
  ·dsimp only;by_cases ej:j=b
   ·subst ej;refine ⟨m3,jz.2 ⟨hb.1,List.getElem?_set_self (by omega)⟩,λr=>?_⟩;rw [q2,qR];show _=(if j=j then (nBl (kX c j) (mR c (kr c l1) j) (kr c l1).nx).2.1 else _) r;rw [if_pos rfl,l0 hx];rfl
   ·have a7:j∈l1:=(List.mem_append.1 hj).resolve_right λh=>ej (List.mem_singleton.1 h)
    obtain ⟨m,f1,f2⟩:=h4 j a7;have a5:=(a2 j a7).1;refine ⟨m,?_,λr=>?_⟩
    ·rw [<- f1];unfold jr;rw [if_pos a5,if_pos a5,List.getElem?_set_ne (by omega)]
    ·rw [f2,qR];show _=(if j=b then _ else (kr c l1).E j) r
     rw [if_neg ej]) with ⟨z,f1,⟨h1,h2⟩,h3,h4⟩ | ⟨_,_,hf⟩
 ·obtain ⟨z1,z2,z3⟩:=z;dsimp only at h1 h2 h3 h4;subst h1 h2;exact ⟨z3,f1,h3,h4⟩
 ·exact hf.elim
end
end Unt
end Go.Wk
namespace Go.Wk
open Go
namespace Unt
set_option maxRecDepth 10000
open Classical
def an7 (c:jv) (s:NS) (b:Int) (f:kA):kA:=⟨f.to,List.zipWith s.E (kH c b) f.A⟩
def sN (B:List jq) (b:Int):jq:=(jr B b).getD default
def tg (c:jv) (s:NS) (b:Int):jq:=⟨(sN s.B b).a.map (an7 c s b),(sN s.B b).i,(sN s.B b).j,(sN s.B b).on,(sN s.B b).n⟩
def vm (c:jv) (s:NS):jv:=⟨c.P,s.nx,tab c.b.length (tg c s)⟩
theorem bf9 {f:Int->Int->Int}:∀ (ps e:List Int) (a p:Int),ps[e.length]?=some p->List.zipWith f ps (e++[a])=List.zipWith f ps e++[f p a]
 | [],e,a,p,h=>by simp at h
 | q::ps,[],a,p,h=>by simp at h;subst h;simp
 | q::ps,x::e,a,p,h=>by
  simp only [List.length_cons,List.getElem?_cons_succ] at h;simp only [List.cons_append,List.zipWith_cons_cons,bf9 ps e a p h]
def yR (x:jq):List (List Int) × Int × List Int:=(x.a.map (·.A),x.j,x.n)
theorem y6 (c:jv):∀ (l:List Int),(∀ b∈l,0<=b/\b<(c.b.length:Int))->∀ j,0<=j->(jr (kr c l).B j).map yR=(jr c.b j).map yR:=by
 intro l
 induction l using aj4 with
 | h0=>intro _ j _;rfl
 | hs l b H =>
  intro O j M;have H:=H (λx K=>O x (List.mem_append_left _ K)) j M;have N:=O b (by simp);rw [qR];show (jr (List.set _ _ _) j).map yR=_;by_cases e:j=b
  ·subst e
   have L:j.toNat<(kr c l).B.length:=by
    obtain ⟨x,K,_⟩:=kV (xs:=c.b) (j:=j) N.1 N.2;rw [K] at H;cases h:jr (kr c l).B j with
    | none=>rw [h] at H;cases H
    | some y=>exact (lgE.1 (jz.1 h).2).1
   obtain ⟨x,K,_⟩:=kV (xs:=c.b) (j:=j) N.1 N.2;rw [show jr ((kr c l).B.set j.toNat (nBl (kX c j) (mR c (kr c l) j) (kr c l).nx).1) j=some (nBl (kX c j) (mR c (kr c l) j) (kr c l).nx).1 from jz.2 ⟨M,List.getElem?_set_self L⟩,K,l0 K];show some (yR _)=some (yR _)
   congr 1
   unfold yR nBl;simp only [ak7]
  ·rw [<- H];unfold jr;rw [if_pos M,if_pos M,List.getElem?_set_ne (by omega)]
section
variable {c:jv} (hnb:c.b.length<=160) {u:kU} {k:Int} (hck:COk u k c)
include hck
theorem bn1 {s:NS} {M:List (jw Int)} (hB:s.B.length=c.b.length) (hK:∀ j,0<=j->(jr s.B j).map yR=(jr c.b j).map yR) (he:∀ j,0<=j->j<(c.b.length:Int)->∃ m,jr M j=some m/\∀ r,(m.get r).getD 0=s.E j r) :
  kO (λ(uI:Int) (uU:(List jq))=>((lQ c uI).bind λuW=>(jr uU uI).bind λuX=>(kO (S:=(List jq)) (X:=Empty) (λO uQ=>(jr c.b uI).bind λuR=>(jr uR.a O).bind λuJ=>(kO (S:=(List jq)) (X:=Empty) (λK N=>(jr uJ.A K).bind λuL=>((jr uW K).bind λuN=>(jr N uI).bind λH=>(jr M uN).bind λuO=>(jr H.a O).bind λL=>(jr L.A K).bind λuV=>some (N.set (uI).toNat (⟨(H.a.set (O).toNat (⟨L.to,(L.A.set (K).toNat ((jw.get uO uL).getD 0))⟩:kA)),H.i,H.j,H.on,H.n⟩:jq)):Option ((List jq))).bind λuP=>some (.inl uP)) (((uJ.A.length:Int):Int) - 0).toNat 0 uQ).bind (Sum.elim (λuS=>some (.inl uS)) (λ(e0:Empty)=>nomatch e0))) (((uX.a.length:Int):Int) - 0).toNat 0 uU).bind (Sum.elim (λuY=>some (.inl uY)) (λ(e0:Empty)=>nomatch e0)):Option (((List jq)) ⊕ (Empty)))) (((c.b.length:Int):Int) - 0).toNat 0 s.B=some (.inl (tab c.b.length (tg c s))):=by
 have hnb:=hck.nb
 obtain ⟨ys,e1,e2,e3⟩:=oE (body:=(λ(uI:Int) (uU:(List jq))=>((lQ c uI).bind λuW=>(jr uU uI).bind λuX=>(kO (S:=(List jq)) (X:=Empty) (λO uQ=>(jr c.b uI).bind λuR=>(jr uR.a O).bind λuJ=>(kO (S:=(List jq)) (X:=Empty) (λK N=>(jr uJ.A K).bind λuL=>((jr uW K).bind λuN=>(jr N uI).bind λH=>(jr M uN).bind λuO=>(jr H.a O).bind λL=>(jr L.A K).bind λuV=>some (N.set (uI).toNat (⟨(H.a.set (O).toNat (⟨L.to,(L.A.set (K).toNat ((jw.get uO uL).getD 0))⟩:kA)),H.i,H.j,H.on,H.n⟩:jq)):Option ((List jq))).bind λuP=>some (.inl uP)) (((uJ.A.length:Int):Int) - 0).toNat 0 uQ).bind (Sum.elim (λuS=>some (.inl uS)) (λ(e0:Empty)=>nomatch e0))) (((uX.a.length:Int):Int) - 0).toNat 0 uU).bind (Sum.elim (λuY=>some (.inl uY)) (λ(e0:Empty)=>nomatch e0)):Option (((List jq)) ⊕ (Empty))))) (k:=(((c.b.length:Int):Int) - 0).toNat) (i:=0) (s:=s.B) (λk ys=>ys.length=c.b.length/\∀ j,0<=j->j<(c.b.length:Int)->jr ys j=some (if j<k then tg c s j else sN s.B j)) ⟨hB,λj j0 j1=>by
   obtain ⟨x,hx,_⟩:=kV (xs:=s.B) (j:=j) j0 (by omega);rw [if_neg (by omega),hx];unfold sN
   rw [hx];rfl⟩ (λb ys b0 b1 hI=>by
  obtain ⟨i1,i2⟩:=hI;have aD:b<(c.b.length:Int):=by omega
  have a4:=i2 b b0 aD;rw [if_neg (by omega)] at a4;obtain ⟨x0,a8,_⟩:=kV (xs:=c.b) (j:=b) b0 aD;obtain ⟨x,hx,_⟩:=kV (xs:=s.B) (j:=b) b0 (by omega);have a7:sN s.B b=x:=by unfold sN;rw [hx];rfl
  have aF:=hK b b0;rw [hx,a8] at aF;have a6:x.a.map (·.A)=x0.a.map (·.A):=congrArg Prod.fst (Option.some.inj aF);have aS:(kH c b).length<=160:=by have:=pJ c b;omega
  have aE:=(hck.bok a8).a;have a0:b.toNat<ys.length:=by omega
  have aC:kO (λ(O:Int) (uQ:(List jq))=>((jr c.b b).bind λuR=>(jr uR.a O).bind λuJ=>(kO (S:=(List jq)) (X:=Empty) (λK N=>(jr uJ.A K).bind λuL=>((jr (kH c b) K).bind λuN=>(jr N b).bind λH=>(jr M uN).bind λuO=>(jr H.a O).bind λL=>(jr L.A K).bind λuV=>some (N.set (b).toNat (⟨(H.a.set (O).toNat (⟨L.to,(L.A.set (K).toNat ((jw.get uO uL).getD 0))⟩:kA)),H.i,H.j,H.on,H.n⟩:jq)):Option ((List jq))).bind λuP=>some (.inl uP)) (((uJ.A.length:Int):Int) - 0).toNat 0 uQ).bind (Sum.elim (λuS=>some (.inl uS)) (λ(e0:Empty)=>nomatch e0)):Option (((List jq)) ⊕ (Empty)))) (((x.a.length:Int):Int) - 0).toNat 0 ys=some (.inl (ys.set b.toNat (tg c s b))):=by
   rcases lB (xs:=x.a) (body:=(λ(O:Int) (uQ:(List jq))=>((jr c.b b).bind λuR=>(jr uR.a O).bind λuJ=>(kO (S:=(List jq)) (X:=Empty) (λK N=>(jr uJ.A K).bind λuL=>((jr (kH c b) K).bind λuN=>(jr N b).bind λH=>(jr M uN).bind λuO=>(jr H.a O).bind λL=>(jr L.A K).bind λuV=>some (N.set (b).toNat (⟨(H.a.set (O).toNat (⟨L.to,(L.A.set (K).toNat ((jw.get uO uL).getD 0))⟩:kA)),H.i,H.j,H.on,H.n⟩:jq)):Option ((List jq))).bind λuP=>some (.inl uP)) (((uJ.A.length:Int):Int) - 0).toNat 0 uQ).bind (Sum.elim (λuS=>some (.inl uS)) (λ(e0:Empty)=>nomatch e0)):Option (((List jq)) ⊕ (Empty))))) (s:=ys) (λl z=>∃ r,x.a=l++r/\z=ys.set b.toNat ⟨l.map (an7 c s b)++r,x.i,x.j,x.on,x.n⟩) (λ_=>False) ⟨x.a,rfl,by
     have:(⟨([]:List kA).map (an7 c s b)++x.a,x.i,x.j,x.on,x.n⟩:jq)=x:=rfl;rw [this];apply List.ext_getElem?;intro j;by_cases ej:b.toNat=j
     ·subst ej;rw [List.getElem?_set_self a0,<- a7];exact (jz.1 a4).2
     ·rw [List.getElem?_set_ne ej]⟩ (λl f r z a5 hz=>by
    left;obtain ⟨r',h1,h2⟩:=hz
    have hr:r'=f::r:=by
     rw [a5] at h1;exact (List.append_cancel_left h1).symm
    subst hr
    have a2:∃ f0,x0.a[l.length]?=some f0/\f0.A=f.A:=by
     have:=congrArg (λq=>q[l.length]?) a6;simp only [List.getElem?_map,a5] at this;rw [show (l++f::r)[l.length]?=some f by simp] at this;cases h:x0.a[l.length]? with
     | none=>rw [h] at this;cases this
     | some f0=>rw [h] at this;exact ⟨f0,rfl,(Option.some.inj this).symm⟩
    obtain ⟨f0,a2,aA⟩:=a2;have a9:jr x0.a (l.length:Int)=some f0:=jz.2 ⟨by omega,by simpa using a2⟩;have aR:f.A.length=(kH c b).length:=by rw [<- aA];exact (aE f0 (List.mem_of_getElem? a2)).2.2.1
    have aP:kO (λ(K:Int) (N:(List jq))=>((jr f0.A K).bind λuL=>((jr (kH c b) K).bind λuN=>(jr N b).bind λH=>(jr M uN).bind λuO=>(jr H.a (l.length:Int)).bind λL=>(jr L.A K).bind λuV=>some (N.set (b).toNat (⟨(H.a.set ((l.length:Int)).toNat (⟨L.to,(L.A.set (K).toNat ((jw.get uO uL).getD 0))⟩:kA)),H.i,H.j,H.on,H.n⟩:jq)):Option ((List jq))).bind λuP=>some (.inl uP):Option (((List jq)) ⊕ (Empty)))) (((f0.A.length:Int):Int) - 0).toNat 0 z=some (.inl (ys.set b.toNat ⟨(l++[f]).map (an7 c s b)++r,x.i,x.j,x.on,x.n⟩)):=by
     rw [aA]
     rcases lB (xs:=f.A) (body:=(λ(K:Int) (N:(List jq))=>((jr f.A K).bind λuL=>((jr (kH c b) K).bind λuN=>(jr N b).bind λH=>(jr M uN).bind λuO=>(jr H.a (l.length:Int)).bind λL=>(jr L.A K).bind λuV=>some (N.set (b).toNat (⟨(H.a.set ((l.length:Int)).toNat (⟨L.to,(L.A.set (K).toNat ((jw.get uO uL).getD 0))⟩:kA)),H.i,H.j,H.on,H.n⟩:jq)):Option ((List jq))).bind λuP=>some (.inl uP):Option (((List jq)) ⊕ (Empty))))) (s:=z) (λW q=>∃ ra,f.A=W++ra/\q=ys.set b.toNat ⟨l.map (an7 c s b)++(⟨f.to,List.zipWith s.E (kH c b) W++ra⟩:kA)::r,x.i,x.j,x.on,x.n⟩) (λ_=>False) ⟨f.A,rfl,by rw [h2];simp⟩ (λW a ra q a1 hq=>by
      left;obtain ⟨aM,g1,g2⟩:=hq
      have a3:aM=a::ra:=by
       rw [a1] at g1;exact (List.append_cancel_left g1).symm
      subst a3;have aQ:=congrArg List.length a1;simp only [List.length_append,List.length_cons] at aQ;obtain ⟨p,hp,aL,aO⟩:=kV (xs:=kH c b) (j:=(W.length:Int)) (by omega) (by omega);have aB:=te (c:=c) aO;obtain ⟨m,aJ,aK⟩:=he p aB.1 aB.2;have aI:(List.zipWith s.E (kH c b) W).length=W.length:=by rw [List.length_zipWith];omega
      have aH:=bf9 (f:=s.E) (kH c b) W a p (by simpa using aL)
      have aN:jr q b=some ⟨l.map (an7 c s b)++(⟨f.to,List.zipWith s.E (kH c b) W++a::ra⟩:kA)::r,x.i,x.j,x.on,x.n⟩:=by
       rw [g2];exact jz.2 ⟨b0,List.getElem?_set_self a0⟩
      refine ⟨ys.set b.toNat ⟨l.map (an7 c s b)++(⟨f.to,List.zipWith s.E (kH c b) (W++[a])++ra⟩:kA)::r,x.i,x.j,x.on,x.n⟩,?_,ra,by simpa using a1,rfl⟩;rw [show jr f.A (W.length:Int)=some a by rw [a1,kK],obS,hp,obS,aN,obS,aJ,obS];dsimp only;rw [ql (by simp),obS];dsimp only;rw [ql aI,obS,obS,aK,g2,List.set_set,aH,show ((l.length:Int)).toNat=(l.map (an7 c s b)).length by simp,nH,show ((W.length:Int)).toNat=(List.zipWith s.E (kH c b) W).length by omega,nH]
      simp) with ⟨q,f1,ra,g1,g2⟩ | ⟨_,_,hf⟩
     ·have a3:ra=[]:=by
       have:=congrArg List.length g1;simp at this;exact this
      subst a3;rw [f1,g2];simp [an7]
     ·exact hf.elim
    refine ⟨_,?_,r,by simpa using a5,rfl⟩;rw [a8,obS,a9,obS]
    exact kN aP rfl) with ⟨z,f1,r,h1,h2⟩ | ⟨_,_,hf⟩
   ·have hr:r=[]:=by
     have:=congrArg List.length h1;simp at this;exact this
    subst hr;rw [f1,h2,List.append_nil];unfold tg;rw [a7]
   ·exact hf.elim
  refine ⟨ys.set b.toNat (tg c s b),?_,by rw [List.length_set];exact i1,λj j0 j1=>?_⟩
  ·rw [u0 c b (by omega) (by rw [lO]; omega), obS, a4, a7, obS];exact kN aC rfl
  ·by_cases ej:j=b
   ·subst ej;rw [if_pos (by omega)];exact jz.2 ⟨j0,List.getElem?_set_self a0⟩
   ·have:=i2 j j0 j1;have aG:b.toNat≠j.toNat:=by omega
    unfold jr at this ⊢;rw [if_pos j0] at this ⊢;rw [List.getElem?_set_ne aG,this];by_cases e:j<b
    ·rw [if_pos e,if_pos (by omega)]
    ·rw [if_neg e,if_neg (by omega)])
 rw [e1];refine congrArg some (congrArg Sum.inl (ba5 e2 λj j0 j1=>?_));rw [e3 j j0 j1,if_pos (by omega)]
noncomputable def bd5 (c:jv):jv:=vm c (kr c (nM c (c.b.length+1) 0))
theorem as7 (hall:∀ b:Int,0<=b->b<(c.b.length:Int)->oW c b=true) (hsm:∀ x∈c.b,x.a.length<=40000/\x.i.length<=40000) (L:∀ b∈c.b,SmB b) (e:∀ b:Int,0<=b->b<(c.b.length:Int)->b∈nM c (c.b.length+1) 0) :
  pS c ⟨c,domT c,inT c⟩=some (bd5 c):=by
 have hnb:=hck.nb;have H:=hck.P;obtain ⟨N,g2⟩:=ux hall (c.b.length+1) 0 [] (Int.le_refl _) (by omega) (by omega) List.nodup_nil (by simp) (by simp);rw [List.nil_append] at N;have M:∀ b∈nM c (c.b.length+1) 0,0<=b/\b<(c.b.length:Int):=λb W=>(g2 b W).1
 have K:PF c (λ_=>False) (nM c (c.b.length+1) 0):=bb7 c _ _ _ (.inl (by
  rcases vc c 0 c.b.length with h | ⟨_,_,h3,h4⟩
  ·show idN c 0 c.b.length < 0;omega
  ·exact absurd h4 (by
    unfold D
    exact λh=>h (.refl (Ne.symm h3)))))
 obtain ⟨_,f1,_,f3⟩:=bu1 (by omega) hall hck hsm M N K;obtain ⟨i1,_,_,_⟩:=xy hsm ⟨H.1,H.2.2⟩ _ M;unfold pS;rw [zc c (by omega) L,obS,nW (by omega) (by omega),obS,bm3 (by omega) hall (by omega),obS,Int.toNat_natCast];refine kN f1 ?_;dsimp only [Sum.elim_inl];exact kN (bn1 hck i1 (y6 c _ M) λj j0 O=>f3 j (e j j0 O)) rfl
end
end Unt
end Go.Wk
namespace Go.Wk
open Go
namespace Unt
set_option maxRecDepth 10000
open Classical
theorem bi8 (o t:jv) (id:List Int) (n:Int) (K:0<=n/\n<=100000000):lS ⟨o,t,id,n⟩=some (n,⟨o,t,id,n+1⟩):=by
 unfold lS;have e:w64 (n+1)=n+1:=kv (by omega) (by omega);have H:w64 (n+1 - 1)=n:=by rw [show n+1 - 1=n by omega];exact kv (by omega) (by omega)
 dsimp only;rw [e,H]
theorem cc2:∀ (l:List kA) (m:Int->Int) (n:Int) (i:Nat) (f:kA),(nPh l m n).1[i]?=some f->f.to=n+i
 | [],m,n,i,f,h=>by simp [nPh] at h
 | g::l,m,n,0,f,h=>by
  simp [nPh] at h;subst h;simp
 | g::l,m,n,i+1,f,h=>by
  have:=cc2 l (upd m g.to n) (n+1) i f (by simpa [nPh] using h);rw [this];omega
def Cur (c:jv) (e:List Int) (g:Int->Int):Prop:=(e.length:Int)=c.r/\∀ r,0<=r->r<c.r->jr e r=some (g r)
theorem Cur.set {c:jv} {H:List Int} {g:Int->Int} (h:Cur c H g) {r v:Int} (O:0<=r) (N:r<c.r):Cur c (H.set r.toNat v) (upd g r v):=by
 refine ⟨by rw [List.length_set];exact h.1,λq K L=>?_⟩;have M:=h.1;unfold upd;by_cases e:q=r
 ·subst e;rw [if_pos rfl];exact jz.2 ⟨K,List.getElem?_set_self (by omega)⟩
 ·rw [if_neg e,<- h.2 q K L];unfold jr;rw [if_pos K,if_pos K,List.getElem?_set_ne (by omega)]
section
variable {c:jv} {B:List jq} {b:Int} (b0:0<=b) {p1 p2 p3 p4:Int}
include b0
theorem tZ {x y:jq} (e:jr B b=some x):jr (B.set b.toNat y) b=some y:=by
 have:=(lgE.1 (jz.1 e).2).1;exact jz.2 ⟨b0,List.getElem?_set_self this⟩
omit b0 in
theorem kq {x:jq} (H:jr B b=some x):B.set b.toNat x=B:=by
 apply List.ext_getElem?;intro j;by_cases e:b.toNat=j
 ·subst e;rw [List.getElem?_set_self (lgE.1 (jz.1 H).2).1];exact (jz.1 H).2.symm
 ·rw [List.getElem?_set_ne e]
theorem cz4 {x:jq} (hx:jr B b=some x) (hl:x.a.length<=40000) (m:Int->Int) {n:Int} (hn:0<=n/\n<=50000000) :
  kx (λ(e:Int × Int × Int × Int × (List jq) × Int × Int)=>((jr e.2.2.2.2.1 b).bind λH=>if decide (e.2.2.2.2.2.2<((H.a.length:Int))) then (jr H.a e.2.2.2.2.2.2).bind λW=>(lS (⟨(⟨e.1,e.2.1,[]⟩:jv),(⟨e.2.2.1,e.2.2.2.1,[]⟩:jv),[],e.2.2.2.2.2.1⟩:l9)).bind λL=>some (.inl (L.2.O.P,L.2.O.r,L.2.f.P,L.2.f.r,(e.2.2.2.2.1.set (b).toNat (⟨(H.a.set (e.2.2.2.2.2.2).toNat (⟨L.1,W.A⟩:kA)),H.i,H.j,H.on,H.n⟩:jq)),L.2.n,w64 (e.2.2.2.2.2.2+1))) else some (.inr (e.1,e.2.1,e.2.2.1,e.2.2.2.1,e.2.2.2.2.1,e.2.2.2.2.2.1)):Option ((Int × Int × Int × Int × (List jq) × Int × Int) ⊕ (Int × Int × Int × Int × (List jq) × Int)))) (p1,p2,p3,p4,B,n,0)=some (p1,p2,p3,p4,B.set b.toNat ⟨(nPh x.a m n).1,x.i,x.j,x.on,x.n⟩,n+x.a.length):=by
 obtain ⟨z,a0,O⟩:=lp (b1:=(λ(e:Int × Int × Int × Int × (List jq) × Int × Int)=>((jr e.2.2.2.2.1 b).bind λH=>if decide (e.2.2.2.2.2.2<((H.a.length:Int))) then (jr H.a e.2.2.2.2.2.2).bind λW=>(lS (⟨(⟨e.1,e.2.1,[]⟩:jv),(⟨e.2.2.1,e.2.2.2.1,[]⟩:jv),[],e.2.2.2.2.2.1⟩:l9)).bind λL=>some (.inl (L.2.O.P,L.2.O.r,L.2.f.P,L.2.f.r,(e.2.2.2.2.1.set (b).toNat (⟨(H.a.set (e.2.2.2.2.2.2).toNat (⟨L.1,W.A⟩:kA)),H.i,H.j,H.on,H.n⟩:jq)),L.2.n,w64 (e.2.2.2.2.2.2+1))) else some (.inr (e.1,e.2.1,e.2.2.1,e.2.2.2.1,e.2.2.2.2.1,e.2.2.2.2.2.1)):Option ((Int × Int × Int × Int × (List jq) × Int × Int) ⊕ (Int × Int × Int × Int × (List jq) × Int))))) (λs=>∃ l r,x.a=l++r/\s=(p1,p2,p3,p4,B.set b.toNat ⟨(nPh l m n).1++r,x.i,x.j,x.on,x.n⟩,n+l.length,(l.length:Int))) (λz=>z=(p1,p2,p3,p4,B.set b.toNat ⟨(nPh x.a m n).1,x.i,x.j,x.on,x.n⟩,n+x.a.length)) (λs=>(x.a.length - s.2.2.2.2.2.2.toNat)) (λs hs=>by
  obtain ⟨l,r,N,rfl⟩:=hs;have K:=pn l m n;have M:=congrArg List.length N;rw [List.length_append] at M;dsimp only;rw [tZ b0 hx,obS];dsimp only;cases r with
  | nil =>
   right;rw [List.append_nil] at N;refine ⟨_,by rw [if_neg (by simp [K.1])],?_⟩;rw [N,List.append_nil]
  | cons f r =>
   left;simp only [List.length_cons] at M;refine ⟨(p1,p2,p3,p4,B.set b.toNat ⟨(nPh (l++[f]) m n).1++r,x.i,x.j,x.on,x.n⟩,n+(l++[f]).length,((l++[f]).length:Int)),?_,⟨l++[f],r,by simpa using N,rfl⟩,by simp;omega⟩;rw [if_pos (by simp [K.1];omega),ql K.1,obS,bi8 _ _ _ _ (by omega),obS,List.set_set,xc,K.2];dsimp only;rw [show ((l.length:Int)).toNat=(nPh l m n).1.length by omega,nH,kv (by omega) (by omega)]
   simp [Int.add_assoc]) (x.a.length+1) (p1,p2,p3,p4,B,n,0) ⟨[],x.a,rfl,by
    have:=kq hx;simp only [nPh,List.nil_append];rw [show (⟨x.a,x.i,x.j,x.on,x.n⟩:jq)=x from rfl,this]
    simp⟩ (by simp)
 rw [a0,O]
omit b0 in
theorem cy8 {x x0:jq} {P:List kA} {D:List jq} (hx:jr D b=some x) (a9:jr c.b b=some x0) {m:Int->Int} {n:Int} (a8:x.a=(nPh P m n).1) (a0:P.length=x0.a.length) (hl:x0.a.length<=40000) (a4:∀ f∈x0.a,0<=f.to/\f.to<c.r) {M:List Int} (hc:Cur c M m) :
  ∃ K,kx (λ(e:(List Int) × Int)=>((jr D b).bind λW=>if decide (e.2<((W.a.length:Int))) then (jr c.b b).bind λuG=>(jr uG.a e.2).bind λO=>(jr W.a e.2).bind λuH=>(jr e.1 O.to).bind λuI=>some (.inl ((e.1.set (O.to).toNat uH.to),w64 (e.2+1))) else some (.inr e.1):Option (((List Int) × Int) ⊕ ((List Int))))) (M,0)=some K/\Cur c K (nPh x0.a m n).2.1:=by
 have a1:=pn P m n
 obtain ⟨z,a5,a6⟩:=lp (b1:=(λ(e:(List Int) × Int)=>((jr D b).bind λW=>if decide (e.2<((W.a.length:Int))) then (jr c.b b).bind λuG=>(jr uG.a e.2).bind λO=>(jr W.a e.2).bind λuH=>(jr e.1 O.to).bind λuI=>some (.inl ((e.1.set (O.to).toNat uH.to),w64 (e.2+1))) else some (.inr e.1):Option (((List Int) × Int) ⊕ ((List Int)))))) (λs=>∃ l r,x0.a=l++r/\s.2=(l.length:Int)/\Cur c s.1 (nPh l m n).2.1) (λz=>Cur c z (nPh x0.a m n).2.1) (λs=>(x0.a.length - s.2.toNat)) (λs hs=>by
  obtain ⟨cu,i⟩:=s;obtain ⟨l,r,L,h2,h3⟩:=hs;dsimp only at h2 h3 ⊢;subst h2;have N:=congrArg List.length L;rw [List.length_append] at N;rw [hx,obS,a8];cases r with
  | nil =>
   right;rw [List.append_nil] at L;refine ⟨cu,by rw [if_neg (by simp [a1.1,a0,L])],by rw [L];exact h3⟩
  | cons f r =>
   left;simp only [List.length_cons] at N;obtain ⟨q,hq,aA,_⟩:=kV (xs:=(nPh P m n).1) (j:=(l.length:Int)) (by omega) (by omega);have a3:=cc2 P m n l.length q (by simpa using aA);have H:=a4 f (by rw [L];simp);have a2:jr x0.a (l.length:Int)=some f:=by rw [L,kK]
   have a7:=(pn l m n).2;refine ⟨(cu.set f.to.toNat q.to,((l++[f]).length:Int)),?_,⟨l++[f],r,by simpa using L,rfl,?_⟩,by simp;omega⟩
   ·rw [if_pos (by simp [a1.1, a0]; omega), a9, obS, a2, obS, hq, obS, h3.2 f.to H.1 H.2, obS, kv (by omega) (by omega)];simp
   ·dsimp only;rw [xc,a3,a7]
    exact h3.set H.1 H.2) (x0.a.length+1) (M,0) ⟨[],x0.a,rfl,rfl,hc⟩ (by simp)
 exact ⟨z,a5,a6⟩
theorem da5 {y:kD} {A:List kD} {r:List kD} {ph:List kA} {jj oo:Int} {nn:List Int} {x:jq} (hx:jr B b=some x) (hA:y.A.length<=1000) (a2:∀ q∈y.A,0<=q/\q<c.r) {g:Int->Int} {M:List Int} (hc:Cur c M g) {i:Int} (hi:(A.length:Int)=i) :
  kx (λ(e:(List jq) × Int)=>((jr e.1 b).bind λH=>(jr H.i i).bind λK=>if decide (e.2<((K.A.length:Int))) then (jr K.A e.2).bind λuG=>(jr M uG).bind λuH=>some (.inl ((e.1.set (b).toNat (⟨H.a,(H.i.set (i).toNat (⟨K.op,K.to,(K.A.set (e.2).toNat uH),K.N⟩:kD)),H.j,H.on,H.n⟩:jq)),w64 (e.2+1))) else some (.inr e.1):Option (((List jq) × Int) ⊕ ((List jq))))) (B.set b.toNat ⟨ph,A++y::r,jj,oo,nn⟩,0)=some (B.set b.toNat ⟨ph,A++⟨y.op,y.to,y.A.map g,y.N⟩::r,jj,oo,nn⟩):=by
 obtain ⟨z,a1,a0⟩:=lp (b1:=(λ(e:(List jq) × Int)=>((jr e.1 b).bind λH=>(jr H.i i).bind λK=>if decide (e.2<((K.A.length:Int))) then (jr K.A e.2).bind λuG=>(jr M uG).bind λuH=>some (.inl ((e.1.set (b).toNat (⟨H.a,(H.i.set (i).toNat (⟨K.op,K.to,(K.A.set (e.2).toNat uH),K.N⟩:kD)),H.j,H.on,H.n⟩:jq)),w64 (e.2+1))) else some (.inr e.1):Option (((List jq) × Int) ⊕ ((List jq)))))) (λs=>∃ L N,y.A=L++N/\s=(B.set b.toNat ⟨ph,A++⟨y.op,y.to,L.map g++N,y.N⟩::r,jj,oo,nn⟩,(L.length:Int))) (λz=>z=B.set b.toNat ⟨ph,A++⟨y.op,y.to,y.A.map g,y.N⟩::r,jj,oo,nn⟩) (λs=>(y.A.length - s.2.toNat)) (λs hs=>by
  obtain ⟨L,N,W,rfl⟩:=hs;have O:=congrArg List.length W;rw [List.length_append] at O;dsimp only;rw [tZ b0 hx,obS];dsimp only;subst hi;rw [kK,obS];dsimp only;cases N with
  | nil =>
   right;rw [List.append_nil] at W;refine ⟨_,by rw [if_neg (by simp)],?_⟩;rw [W,List.append_nil]
  | cons a N =>
   left;simp only [List.length_cons] at O;have ha:=a2 a (by rw [W];simp);refine ⟨(B.set b.toNat ⟨ph,A++⟨y.op,y.to,(L++[a]).map g++N,y.N⟩::r,jj,oo,nn⟩,((L++[a]).length:Int)),?_,⟨L++[a],N,by simpa using W,rfl⟩,by simp;omega⟩;rw [if_pos (by simp;omega),ql (by simp),obS,hc.2 a ha.1 ha.2,obS,List.set_set,show ((A.length:Int)).toNat=A.length by omega,nH,show ((L.length:Int)).toNat=(L.map g).length by simp,nH,kv (by omega) (by omega)]
   simp) (y.A.length+1) (B.set b.toNat ⟨ph,A++y::r,jj,oo,nn⟩,0) ⟨[],y.A,rfl,rfl⟩ (by simp)
 rw [a1,a0]
theorem cy7 {xs:List kD} {ph:List kA} {jj oo:Int} {nn:List Int} (hx:jr B b=some ⟨ph,xs,jj,oo,nn⟩) (hl:xs.length<=40000) (hA:∀ y∈xs,y.A.length<=1000/\(∀ q∈y.A,0<=q/\q<c.r)/\(kb y.op=true->0<=y.to/\y.to<c.r)) {m:Int->Int} {n:Int} (hn:0<=n/\n<=50000000) {a4:List Int} (hc:Cur c a4 m) :
  ∃ W,kx (λ(H:Int × Int × Int × Int × (List jq) × Int × (List Int) × Int)=>((jr H.2.2.2.2.1 b).bind λuP=>if decide (H.2.2.2.2.2.2.2<((uP.i.length:Int))) then (((kx (S:=(List jq) × Int) (X:=(List jq)) (λM=>(jr M.1 b).bind λuI=>(jr uI.i H.2.2.2.2.2.2.2).bind λuJ=>if decide (M.2<((uJ.A.length:Int))) then (jr uJ.A M.2).bind λuQ=>(jr H.2.2.2.2.2.2.1 uQ).bind λuR=>some (.inl ((M.1.set (b).toNat (⟨uI.a,(uI.i.set (H.2.2.2.2.2.2.2).toNat (⟨uJ.op,uJ.to,(uJ.A.set (M.2).toNat uR),uJ.N⟩:kD)),uI.j,uI.on,uI.n⟩:jq)),w64 (M.2+1))) else some (.inr M.1)) (H.2.2.2.2.1,0)).bind (λe0=>some e0):Option ((List jq))).bind λuO=>(jr uO b).bind λuL=>(jr uL.i H.2.2.2.2.2.2.2).bind λuN=>(n7 uN.op).bind λuS=>(if uS then (lS (⟨(⟨H.1,H.2.1,[]⟩:jv),(⟨H.2.2.1,H.2.2.2.1,[]⟩:jv),[],H.2.2.2.2.2.1⟩:l9)).bind λL=>(jr H.2.2.2.2.2.2.1 uN.to).bind λuU=>some (L.2.O.P,L.2.O.r,L.2.f.P,L.2.f.r,(uO.set (b).toNat (⟨uL.a,(uL.i.set (H.2.2.2.2.2.2.2).toNat (⟨uN.op,L.1,uN.A,uN.N⟩:kD)),uL.j,uL.on,uL.n⟩:jq)),L.2.n,(H.2.2.2.2.2.2.1.set (uN.to).toNat L.1)) else some (H.1,H.2.1,H.2.2.1,H.2.2.2.1,uO,H.2.2.2.2.2.1,H.2.2.2.2.2.2.1):Option (Int × Int × Int × Int × (List jq) × Int × (List Int))).bind λN=>some (N.1,N.2.1,N.2.2.1,N.2.2.2.1,N.2.2.2.2.1,N.2.2.2.2.2.1,N.2.2.2.2.2.2):Option (Int × Int × Int × Int × (List jq) × Int × (List Int))).bind λO=>some (.inl (O.1,O.2.1,O.2.2.1,O.2.2.2.1,O.2.2.2.2.1,O.2.2.2.2.2.1,O.2.2.2.2.2.2,w64 (H.2.2.2.2.2.2.2+1))) else some (.inr (H.1,H.2.1,H.2.2.1,H.2.2.2.1,H.2.2.2.2.1,H.2.2.2.2.2.1,H.2.2.2.2.2.2.1)):Option ((Int × Int × Int × Int × (List jq) × Int × (List Int) × Int) ⊕ (Int × Int × Int × Int × (List jq) × Int × (List Int))))) (p1,p2,p3,p4,B,n,a4,0)=some (p1,p2,p3,p4,B.set b.toNat ⟨ph,(nIn xs m n).1,jj,oo,nn⟩,(nIn xs m n).2.2,W)/\Cur c W (nIn xs m n).2.1:=by
 obtain ⟨z,a7,W,a8,a9⟩:=lp (b1:=(λ(H:Int × Int × Int × Int × (List jq) × Int × (List Int) × Int)=>((jr H.2.2.2.2.1 b).bind λuP=>if decide (H.2.2.2.2.2.2.2<((uP.i.length:Int))) then (((kx (S:=(List jq) × Int) (X:=(List jq)) (λM=>(jr M.1 b).bind λuI=>(jr uI.i H.2.2.2.2.2.2.2).bind λuJ=>if decide (M.2<((uJ.A.length:Int))) then (jr uJ.A M.2).bind λuQ=>(jr H.2.2.2.2.2.2.1 uQ).bind λuR=>some (.inl ((M.1.set (b).toNat (⟨uI.a,(uI.i.set (H.2.2.2.2.2.2.2).toNat (⟨uJ.op,uJ.to,(uJ.A.set (M.2).toNat uR),uJ.N⟩:kD)),uI.j,uI.on,uI.n⟩:jq)),w64 (M.2+1))) else some (.inr M.1)) (H.2.2.2.2.1,0)).bind (λe0=>some e0):Option ((List jq))).bind λuO=>(jr uO b).bind λuL=>(jr uL.i H.2.2.2.2.2.2.2).bind λuN=>(n7 uN.op).bind λuS=>(if uS then (lS (⟨(⟨H.1,H.2.1,[]⟩:jv),(⟨H.2.2.1,H.2.2.2.1,[]⟩:jv),[],H.2.2.2.2.2.1⟩:l9)).bind λL=>(jr H.2.2.2.2.2.2.1 uN.to).bind λuU=>some (L.2.O.P,L.2.O.r,L.2.f.P,L.2.f.r,(uO.set (b).toNat (⟨uL.a,(uL.i.set (H.2.2.2.2.2.2.2).toNat (⟨uN.op,L.1,uN.A,uN.N⟩:kD)),uL.j,uL.on,uL.n⟩:jq)),L.2.n,(H.2.2.2.2.2.2.1.set (uN.to).toNat L.1)) else some (H.1,H.2.1,H.2.2.1,H.2.2.2.1,uO,H.2.2.2.2.2.1,H.2.2.2.2.2.2.1):Option (Int × Int × Int × Int × (List jq) × Int × (List Int))).bind λN=>some (N.1,N.2.1,N.2.2.1,N.2.2.2.1,N.2.2.2.2.1,N.2.2.2.2.2.1,N.2.2.2.2.2.2):Option (Int × Int × Int × Int × (List jq) × Int × (List Int))).bind λO=>some (.inl (O.1,O.2.1,O.2.2.1,O.2.2.2.1,O.2.2.2.2.1,O.2.2.2.2.2.1,O.2.2.2.2.2.2,w64 (H.2.2.2.2.2.2.2+1))) else some (.inr (H.1,H.2.1,H.2.2.1,H.2.2.2.1,H.2.2.2.2.1,H.2.2.2.2.2.1,H.2.2.2.2.2.2.1)):Option ((Int × Int × Int × Int × (List jq) × Int × (List Int) × Int) ⊕ (Int × Int × Int × Int × (List jq) × Int × (List Int)))))) (λs=>∃ l r cu,xs=l++r/\s=(p1,p2,p3,p4,B.set b.toNat ⟨ph,(nIn l m n).1++r,jj,oo,nn⟩,(nIn l m n).2.2,cu,(l.length:Int))/\Cur c cu (nIn l m n).2.1) (λz=>∃ cu,z=(p1,p2,p3,p4,B.set b.toNat ⟨ph,(nIn xs m n).1,jj,oo,nn⟩,(nIn xs m n).2.2,cu)/\Cur c cu (nIn xs m n).2.1) (λs=>(xs.length - s.2.2.2.2.2.2.2.toNat)) (λs hs=>by
  obtain ⟨l,r,cu,h1,rfl,h3⟩:=hs;have K:=qz l m n;have a5:=congrArg List.length h1;rw [List.length_append] at a5
  try dsimp only
  rw [tZ b0 hx,obS]
  try dsimp only
  cases r with
  | nil =>
   right;rw [List.append_nil] at h1;refine ⟨_,by rw [if_neg (by simp [K.1])],cu,?_,by rw [h1];exact h3⟩;rw [h1,List.append_nil]
  | cons y r =>
   left;simp only [List.length_cons] at a5;obtain ⟨a1,a2,a3⟩:=hA y (by rw [h1];simp);have hd:=da5 (c:=c) b0 (A:=(nIn l m n).1) (r:=r) (ph:=ph) (jj:=jj) (oo:=oo) (nn:=nn) hx a1 a2 h3 (i:=(l.length:Int)) (by rw [K.1]);have a0:=zO l y m n;have a6:jr ((nIn l m n).1++(⟨y.op,y.to,y.A.map (nIn l m n).2.1,y.N⟩:kD)::r) (l.length:Int)=some ⟨y.op,y.to,y.A.map (nIn l m n).2.1,y.N⟩:=ql K.1;have hw:w64 ((l.length:Int)+1)=((l++[y]).length:Int):=by rw [kv (by omega) (by omega)];simp
   by_cases e:kb y.op=true
   ·rw [if_pos e] at a0;have ht:=a3 e;refine ⟨(p1,p2,p3,p4,B.set b.toNat ⟨ph,(nIn (l++[y]) m n).1++r,jj,oo,nn⟩,(nIn (l++[y]) m n).2.2,cu.set y.to.toNat (nIn l m n).2.2,((l++[y]).length:Int)),?_,⟨l++[y],r,_,by simpa using h1,rfl,?_⟩,by simp;omega⟩
    ·rw [if_pos (by simp [K.1]; omega), hw];refine kN (a:=(p1,p2,p3,p4,B.set b.toNat (⟨ph,(nIn (l++[y]) m n).1++r,jj,oo,nn⟩:jq),(nIn (l++[y]) m n).2.2,cu.set y.to.toNat (nIn l m n).2.2)) (kN (kN hd rfl) ?_) rfl;rw [tZ b0 hx,obS]
     try dsimp only
     rw [a6,obS]
     try dsimp only
     rw [xd,obS,e,if_pos rfl,bi8 _ _ _ _ (by omega),obS,h3.2 y.to ht.1 ht.2,obS,List.set_set,show ((l.length:Int)).toNat=(nIn l m n).1.length by omega,nH,a0];simp
    ·try dsimp only
     rw [a0];exact h3.set ht.1 ht.2
   ·rw [if_neg e] at a0;have e':kb y.op=false:=by cases h:kb y.op with | true=>exact absurd h e | false=>rfl
    refine ⟨(p1,p2,p3,p4,B.set b.toNat ⟨ph,(nIn (l++[y]) m n).1++r,jj,oo,nn⟩,(nIn (l++[y]) m n).2.2,cu,((l++[y]).length:Int)),?_,⟨l++[y],r,_,by simpa using h1,rfl,by rw [a0];exact h3⟩,by simp;omega⟩;rw [if_pos (by simp [K.1];omega),hw];refine kN (a:=(p1,p2,p3,p4,B.set b.toNat (⟨ph,(nIn (l++[y]) m n).1++r,jj,oo,nn⟩:jq),(nIn (l++[y]) m n).2.2,cu)) (kN (kN hd rfl) ?_) rfl;rw [tZ b0 hx,obS]
    try dsimp only
    rw [a6,obS]
    try dsimp only
    rw [xd,obS,e',if_neg (by decide),obS,a0]
    simp) (xs.length+1) (p1,p2,p3,p4,B,n,a4,0) ⟨[],xs,a4,rfl,by
    have:=kq hx;simp only [nIn,List.nil_append];rw [this]
    simp,hc⟩ (by simp)
 exact ⟨W,by rw [a7,a8],a9⟩
end
end Unt
end Go.Wk
namespace Go.Wk
open Go
namespace Unt
set_option maxRecDepth 10000
open Classical
theorem ay8 {v:Int}:∀ {xs:List Int} {i:Int},v∈xs->∃ n:Nat,idx v xs i=i+n/\xs[n]?=some v
 | [],i,h=>by simp at h
 | x::r,i,h=>by
  unfold idx;by_cases e:v=x
  ·rw [if_pos e];exact ⟨0,by omega,by simp [e]⟩
  ·rw [if_neg e];obtain ⟨n,_,H⟩:=ay8 (xs:=r) (i:=i+1) ((List.mem_cons.1 h).resolve_left e);exact ⟨n+1,by omega,by simpa using H⟩
theorem bx5 {xs:List Int} {v:Int} (h:v∈xs):∃ i,lj xs v=some i/\jr xs i=some v:=by
 obtain ⟨n,e,H⟩:=ay8 (i:=0) h;exact ⟨_,av6 xs v,jz.2 ⟨by omega,by rw [e,show (0+(n:Int)).toNat=n by omega];exact H⟩⟩
def zP (c:jv) (F:Int->Int->Int) (b:Int) (f:kA):kA:=⟨f.to,List.zipWith F (kH c b) f.A⟩
def zB (c:jv) (F:Int->Int->Int) (B:List jq) (b:Int):jq:=⟨(sN B b).a.map (zP c F b),(sN B b).i,(sN B b).j,(sN B b).on,(sN B b).n⟩
noncomputable def flE (s:NS) (l:List Int) (p r:Int):Int:=if p∈l then s.E p r else r
theorem br3 {h:kA->kA} (e:∀ f,(h f).to=f.to) (H:∀ f v,h ⟨v,f.A⟩=⟨v,(h f).A⟩):∀ (l:List kA) (m:Int->Int) (n:Int),nPh (l.map h) m n=((nPh l m n).1.map h,(nPh l m n).2)
 | [],m,n=>rfl
 | f::l,m,n=>by
  have K:=br3 e H l (upd m f.to n) (n+1);show (⟨n,(h f).A⟩::(nPh (l.map h) (upd m (h f).to n) (n+1)).1,(nPh (l.map h) (upd m (h f).to n) (n+1)).2)=(h ⟨n,f.A⟩::(nPh l (upd m f.to n) (n+1)).1.map h,(nPh l (upd m f.to n) (n+1)).2);rw [e,K,H f n]
theorem ct7 {ps ags:List Int} {b a:Int} {j:Nat} (L:ps.Nodup) (H:ps[j]?=some b) (M:ags[j]?=some a) {f f':Int->Int->Int} (O:∀ p r,p≠b->f p r=f' p r):(List.zipWith f ps ags).set j (f' b a)=List.zipWith f' ps ags:=by
 apply List.ext_getElem?;intro i;have K:=(lgE.1 H).1;have W:=(lgE.1 M).1;by_cases e:j=i
 ·subst e;rw [List.getElem?_set_self (by simp;omega),List.getElem?_zipWith,H,M]
 ·rw [List.getElem?_set_ne e,List.getElem?_zipWith,List.getElem?_zipWith];cases hp:ps[i]? with
  | none=>rfl
  | some p =>
   cases hq:ags[i]? with
   | none=>rfl
   | some q =>
    have:p≠b:=λN=>e ((List.getElem?_inj K L).1 (by rw [H,hp,N]))
    show some (f p q)=some (f' p q);rw [O p q this]
theorem cw1 {ps:List Int} {b:Int} (H:b ∉ ps) {f f':Int->Int->Int} (L:∀ p r,p≠b->f p r=f' p r):∀ ags:List Int,List.zipWith f ps ags=List.zipWith f' ps ags:=by
 induction ps with
 | nil=>intro _;rfl
 | cons p ps K =>
  intro ags;cases ags with
  | nil=>rfl
  | cons a ags =>
   rw [List.zipWith_cons_cons,List.zipWith_cons_cons,L p a λe=>H (by rw [e];exact List.mem_cons_self ..),K λh=>H (List.mem_cons_of_mem _ h)]
theorem cn3 {c:jv} (l1:List Int) {j:Int}:∀ l2:List Int,j ∉ l2->(kr c (l1++l2)).E j=(kr c l1).E j:=by
 intro l2
 induction l2 using aj4 with
 | h0=>intro _;rw [List.append_nil]
 | hs l b K =>
  intro H;rw [<- List.append_assoc,qR];show (if j=b then _ else (kr c (l1++l)).E j)=_;rw [if_neg λe=>H (by simp [e]),K λh=>H (List.mem_append_left _ h)]
theorem yW (c:jv) (b:Int):(kH c b).Nodup:=(zp b c.b 0).imp λh=>by omega
section
variable {c:jv} {u:kU} {k:Int} (hck:COk u k c)
include hck
theorem db1 {z:List jq} {nn b at_:Int} {X:List kA} {F F':Int->Int->Int} {ii:List kD} {jj oo:Int} {nx:List Int} {Z0:jq} (n0:0<=nn) (hz:jr z nn=some ⟨X.map (zP c F nn),ii,jj,oo,nx⟩) (hZ:jr c.b nn=some Z0) (hX:X.map (·.A)=Z0.a.map (·.A)) (aA:jr (kH c nn) at_=some b) (hF:∀ p r,p≠b->F p r=F' p r) {a2:List Int} (hc:Cur c a2 (F' b)) (hl:X.length<=40000) :
  kx (λ(e:(List jq) × Int)=>((jr c.b nn).bind λuG=>if decide (e.2<((uG.a.length:Int))) then (jr e.1 nn).bind λK=>(jr K.a e.2).bind λW=>(jr uG.a e.2).bind λuH=>(jr uH.A at_).bind λuI=>(jr a2 uI).bind λuJ=>(jr W.A at_).bind λuL=>some (.inl ((e.1.set (nn).toNat (⟨(K.a.set (e.2).toNat (⟨W.to,(W.A.set (at_).toNat uJ)⟩:kA)),K.i,K.j,K.on,K.n⟩:jq)),w64 (e.2+1))) else some (.inr e.1):Option (((List jq) × Int) ⊕ ((List jq))))) (z,0)=some (z.set nn.toNat ⟨X.map (zP c F' nn),ii,jj,oo,nx⟩):=by
 have a7:=(hck.bok hZ).a;have aF:X.length=Z0.a.length:=by have:=congrArg List.length hX;simpa using this
 obtain ⟨a0,a1⟩:=jz.1 aA
 obtain ⟨w,aC,aB⟩:=lp (b1:=(λ(e:(List jq) × Int)=>((jr c.b nn).bind λuG=>if decide (e.2<((uG.a.length:Int))) then (jr e.1 nn).bind λK=>(jr K.a e.2).bind λW=>(jr uG.a e.2).bind λuH=>(jr uH.A at_).bind λuI=>(jr a2 uI).bind λuJ=>(jr W.A at_).bind λuL=>some (.inl ((e.1.set (nn).toNat (⟨(K.a.set (e.2).toNat (⟨W.to,(W.A.set (at_).toNat uJ)⟩:kA)),K.i,K.j,K.on,K.n⟩:jq)),w64 (e.2+1))) else some (.inr e.1):Option (((List jq) × Int) ⊕ ((List jq)))))) (λs=>∃ H N,X=H++N/\s=(z.set nn.toNat ⟨H.map (zP c F' nn)++N.map (zP c F nn),ii,jj,oo,nx⟩,(H.length:Int))) (λw=>w=z.set nn.toNat ⟨X.map (zP c F' nn),ii,jj,oo,nx⟩) (λs=>(X.length - s.2.toNat)) (λs hs=>by
  obtain ⟨H,N,h1,rfl⟩:=hs;have O:=congrArg List.length h1;rw [List.length_append] at O;dsimp only;rw [hZ,obS];cases N with
  | nil =>
   right;rw [List.append_nil] at h1;simp only [List.length_nil] at O;refine ⟨_,by rw [if_neg (by simp;omega)],?_⟩;rw [h1];simp
  | cons f N =>
   left;simp only [List.length_cons] at O
   have L:∃ M,Z0.a[H.length]?=some M/\M.A=f.A:=by
    have:=congrArg (λq=>q[H.length]?) hX;simp only [List.getElem?_map,h1] at this;rw [show (H++f::N)[H.length]?=some f by simp] at this;cases h:Z0.a[H.length]? with
    | none=>rw [h] at this;cases this
    | some M=>rw [h] at this;exact ⟨M,rfl,(Option.some.inj this).symm⟩
   obtain ⟨M,L,a4⟩:=L;have a3:jr Z0.a (H.length:Int)=some M:=jz.2 ⟨by omega,by simpa using L⟩;obtain ⟨_,_,_,a9⟩:=a7 M (List.mem_of_getElem? L);have aE:=(lgE.1 a1).1;obtain ⟨a,ha,aD,a8⟩:=kV (xs:=M.A) (j:=at_) a0 (by omega);have a5:=a9 a a8
   obtain ⟨v,hv,_⟩:=kV (xs:=(zP c F nn f).A) (j:=at_) a0 (by
    have h9:(zP c F nn f).A.length=min (kH c nn).length f.A.length:=List.length_zipWith
    rw [h9,<- a4];omega)
   have a6:(zP c F nn f).A.set at_.toNat (F' b a)=(zP c F' nn f).A:=ct7 (yW c nn) a1 (by rw [<- a4];exact aD) hF;refine ⟨(z.set nn.toNat ⟨(H++[f]).map (zP c F' nn)++N.map (zP c F nn),ii,jj,oo,nx⟩,((H++[f]).length:Int)),?_,⟨H++[f],N,by simpa using h1,rfl⟩,by simp;omega⟩;rw [if_pos (by simp;omega),tZ n0 hz,obS];dsimp only;rw [List.map_cons,ql (by simp),obS,a3,obS,ha,obS,hc.2 a a5.1 a5.2,obS,hv,obS,List.set_set,show ((H.length:Int)).toNat=(H.map (zP c F' nn)).length by simp,nH,a6,kv (by omega) (by omega)];simp
   rfl) (X.length+1) (z,0) ⟨[],X,rfl,by
    have:=kq hz;simp only [List.map_nil,List.nil_append]
    rw [this];rfl⟩ (by simp)
 rw [aC,aB]
theorem dc3 {B:List jq} {b:Int} {F F':Int->Int->Int} (hB:B.length=c.b.length) (hK:∀ j,0<=j->(jr B j).map yR=(jr c.b j).map yR) (b0:0<=b) (b1:b<(c.b.length:Int)) (hF:∀ p r,p≠b->F p r=F' p r) {a2:List Int} (hc:Cur c a2 (F' b)) (hl:∀ x∈c.b,x.a.length<=40000) :
  kx (λ(L:(List jq) × Int)=>((jr L.1 b).bind λuJ=>if decide (L.2<((uJ.n.length:Int))) then (jr uJ.n L.2).bind λW=>(ku (⟨c.P,c.r,c.b⟩:jv) W).bind λuN=>(lj uN b).bind λuH=>((kx (S:=(List jq) × Int) (X:=(List jq)) (λH=>(jr c.b W).bind λuL=>if decide (H.2<((uL.a.length:Int))) then (jr H.1 W).bind λK=>(jr K.a H.2).bind λuI=>(jr uL.a H.2).bind λuO=>(jr uO.A uH).bind λuP=>(jr a2 uP).bind λuQ=>(jr uI.A uH).bind λuS=>some (.inl ((H.1.set (W).toNat (⟨(K.a.set (H.2).toNat (⟨uI.to,(uI.A.set (uH).toNat uQ)⟩:kA)),K.i,K.j,K.on,K.n⟩:jq)),w64 (H.2+1))) else some (.inr H.1)) (L.1,0)).bind (λe0=>some e0):Option ((List jq))).bind λuR=>some (.inl (uR,w64 (L.2+1))) else some (.inr L.1):Option (((List jq) × Int) ⊕ ((List jq))))) (tab c.b.length (zB c F B),0)=some (tab c.b.length (zB c F' B)):=by
 have hnb:=hck.nb
 have a0:∀ j,0<=j->j<(c.b.length:Int)->∃ x0 x,jr c.b j=some x0/\jr B j=some x/\sN B j=x/\x.a.map (·.A)=x0.a.map (·.A)/\x.n=x0.n:=λj j0 j1=>by
  obtain ⟨x0,N,_⟩:=kV (xs:=c.b) (j:=j) j0 j1;obtain ⟨x,hx,_⟩:=kV (xs:=B) (j:=j) j0 (by omega);have O:=hK j j0;rw [hx,N] at O;have O:=Option.some.inj O;exact ⟨x0,x,N,hx,by unfold sN;rw [hx];rfl,congrArg Prod.fst O,congrArg (λq=>q.2.2) O⟩
 obtain ⟨x0,x,N,hx,aJ,_,a3⟩:=a0 b b0 b1;have a5:=hck.bok N;have aQ:x.n.length<=2:=by rw [a3];have:=a5.j;omega
 have a6:∀ j M,(zB c M B j).n=(sN B j).n:=λ_ _=>rfl
 obtain ⟨w,aL,aG⟩:=lp (b1:=(λ(L:(List jq) × Int)=>((jr L.1 b).bind λuJ=>if decide (L.2<((uJ.n.length:Int))) then (jr uJ.n L.2).bind λW=>(ku (⟨c.P,c.r,c.b⟩:jv) W).bind λuN=>(lj uN b).bind λuH=>((kx (S:=(List jq) × Int) (X:=(List jq)) (λH=>(jr c.b W).bind λuL=>if decide (H.2<((uL.a.length:Int))) then (jr H.1 W).bind λK=>(jr K.a H.2).bind λuI=>(jr uL.a H.2).bind λuO=>(jr uO.A uH).bind λuP=>(jr a2 uP).bind λuQ=>(jr uI.A uH).bind λuS=>some (.inl ((H.1.set (W).toNat (⟨(K.a.set (H.2).toNat (⟨uI.to,(uI.A.set (uH).toNat uQ)⟩:kA)),K.i,K.j,K.on,K.n⟩:jq)),w64 (H.2+1))) else some (.inr H.1)) (L.1,0)).bind (λe0=>some e0):Option ((List jq))).bind λuR=>some (.inl (uR,w64 (L.2+1))) else some (.inr L.1):Option (((List jq) × Int) ⊕ ((List jq)))))) (λs=>∃ q r,x.n=q++r/\s=(tab c.b.length (λj=>if j∈q then zB c F' B j else zB c F B j),(q.length:Int))) (λw=>w=tab c.b.length (λj=>if j∈x.n then zB c F' B j else zB c F B j)) (λs=>(x.n.length - s.2.toNat)) (λs hs=>by
  obtain ⟨q,r,h1,rfl⟩:=hs;have aF:=congrArg List.length h1;rw [List.length_append] at aF;dsimp only;have aN:(if b∈q then zB c F' B b else zB c F B b).n=x.n:=by split<;>rw [a6,aJ]
  rw [lf b0 b1,obS,aN];cases r with
  | nil =>
   right;rw [List.append_nil] at h1;refine ⟨_,by rw [if_neg (by simp [h1])],?_⟩;rw [h1]
  | cons nn r =>
   left;simp only [List.length_cons] at aF;have aD:nn∈x0.n:=by rw [<- a3,h1];simp
   have a7:=a5.next nn aD;obtain ⟨y0,y,aE,hy,a9,aB,_⟩:=a0 nn (by omega) a7.2;have a4:b∈kH c nn:=ad4.2 ⟨x0,N,aD⟩;obtain ⟨at_,aA,a8⟩:=bx5 a4;have aP:=hl y0 (List.mem_of_getElem? (jz.1 aE).2);have aO:y.a.length=y0.a.length:=by have:=congrArg List.length aB;simpa using this
   have aK:ku ⟨c.P,c.r,c.b⟩ nn=some (kH c nn):=rC c nn (by omega) λx hx=>by
    obtain ⟨b,hb⟩:=av4 hx;have:=(hck.bok hb).j;omega
   have a1:∃ M,(∀ p r,p≠b->M p r=F' p r)/\(if nn∈q then zB c F' B nn else zB c F B nn)=zB c M B nn:=by
    by_cases e:nn∈q
    ·exact ⟨F',λ_ _ _=>rfl,if_pos e⟩
    ·exact ⟨F,hF,if_neg e⟩
   obtain ⟨M,aC,aM⟩:=a1;have aH:=db1 hck (z:=tab c.b.length (λj=>if j∈q then zB c F' B j else zB c F B j)) (nn:=nn) (X:=y.a) (F:=M) (F':=F') (by omega) (by rw [lf (by omega) a7.2,aM];unfold zB;rw [a9]) aE aB a8 aC hc (by omega);refine ⟨(tab c.b.length (λj=>if j∈q++[nn] then zB c F' B j else zB c F B j),((q++[nn]).length:Int)),?_,⟨q++[nn],r,by simpa using h1,rfl⟩,by simp;omega⟩;rw [if_pos (by simp [h1];omega),h1,kK,obS,aK,obS,aA,obS];refine kN (kN aH rfl) ?_;rw [qa (by omega),kv (by omega) (by omega)]
   congr 3
   ·refine lE λj j0 j1=>?_
    by_cases ej:j=nn
    ·subst ej;rw [if_pos rfl,if_pos (by simp)];unfold zB;rw [a9]
    ·rw [if_neg ej];by_cases e:j∈q
     ·rw [if_pos e,if_pos (by simp [e])]
     ·rw [if_neg e,if_neg (by simp [e,ej])]
   ·simp) (x.n.length+1) (tab c.b.length (zB c F B),0) ⟨[],x.n,rfl,by simp⟩ (by simp)
 rw [aL,aG];refine congrArg some (lE λj j0 j1=>?_);by_cases e:j∈x.n
 ·rw [if_pos e]
 ·rw [if_neg e]
  have a4:b ∉ kH c j:=λh=>by
   obtain ⟨y,hy,aI⟩:=ad4.1 h;rw [N] at hy;cases hy;exact e (by rw [a3];exact aI)
  unfold zB
  congr 1
  refine List.map_congr_left λf _=>?_
  unfold zP;rw [cw1 a4 hF]
end
end Unt
end Go.Wk
namespace Go.Wk
open Go
namespace Unt
set_option maxRecDepth 10000
open Classical
section
variable {c:jv} {u:kU} {k:Int} (hck:COk u k c) (hall:∀ b:Int,0<=b->b<(c.b.length:Int)->oW c b=true) (hsm:∀ x∈c.b,x.a.length<=40000/\x.i.length<=40000) (hia:∀ x∈c.b,∀ y∈x.i,y.A.length<=1000)
noncomputable def ap4 (c:jv) (l:List Int):l9:=⟨c,⟨c.P,c.r,tab c.b.length (zB c (flE (kr c l) l) (kr c l).B)⟩,tab c.b.length (idf c),(kr c l).nx⟩
include hck hall hsm hia
theorem by5:∀ (N:Nat) (b:Int) (l a4:List Int),0<=b->b<(c.b.length:Int)->c.b.length - dep c b<N->l.Nodup->(∀ x∈l,0<=x/\x<(c.b.length:Int))->(∀ x∈l,¬ Sub c b x)->Cur c a4 (mR c (kr c l) b) ->
  ∃ a9,l6 (ap4 c l) b a4=some (ap4 c (l++nM c N b),a9):=by
 have hnb:=hck.nb;have bR:=hck.r;have a5:=hck.P;intro N
 induction N with
 | zero=>intro b l a4 _ _ h;omega
 | succ N ih =>
  intro b l a4 b0 b1 hN aX a1 aH aW;have bH:b ∉ l:=λh=>aH b h .refl
  have bQ:l.length<=160:=by have:=sG aX a1;omega
  obtain ⟨_,i2,i3,_⟩:=xy hsm ⟨a5.1,a5.2.2⟩ l a1;have bE:=y6 c l a1;obtain ⟨x,hx,_⟩:=kV (xs:=c.b) (j:=b) b0 b1;have aU:=List.mem_of_getElem? (jz.1 hx).2;obtain ⟨aQ,bG⟩:=hsm x aU;have aC:=hck.bok hx;have aZ:jr (kr c l).B b=some x:=by rw [i2 b b0 bH];exact hx
  have bN:sN (kr c l).B b=x:=by unfold sN;rw [aZ];rfl
  generalize hS:kr c l=S at *
  have a2:∀ y∈l++[b],0<=y/\y<(c.b.length:Int):=λy hy=>by
   rcases List.mem_append.1 hy with e | e
   ·exact a1 y e
   ·rw [List.mem_singleton.1 e];exact ⟨b0,b1⟩
  have aI:kr c (l++[b])=qq c S b:=by rw [qR,hS]
  obtain ⟨j1,_,_,_⟩:=xy hsm ⟨a5.1,a5.2.2⟩ (l++[b]) a2;have W:=y6 c (l++[b]) a2;rw [aI] at j1 W
  generalize hm:mR c S b=m at *
  have aJ:jr (tab c.b.length (zB c (flE S l) S.B)) b=some ⟨x.a.map (zP c (flE S l) b),x.i,x.j,x.on,x.n⟩:=by
   rw [lf b0 b1];unfold zB;rw [bN]
  have hA:=cz4 (p1:=c.P) (p2:=c.r) (p3:=c.P) (p4:=c.r) b0 aJ (by simpa using aQ) m (n:=S.nx) ⟨i3,by omega⟩;have aA:=br3 (h:=zP c (flE S l) b) (λ_=>rfl) (λ_ _=>rfl) x.a m S.nx;have aL:=pn x.a m S.nx;dsimp only at hA;rw [aA,List.length_map] at hA
  generalize hD:(tab c.b.length (zB c (flE S l) S.B)).set b.toNat ⟨(nPh x.a m S.nx).1.map (zP c (flE S l) b),x.i,x.j,x.on,x.n⟩=D at hA
  have aF:jr D b=some ⟨(nPh x.a m S.nx).1.map (zP c (flE S l) b),x.i,x.j,x.on,x.n⟩:=by rw [<- hD];exact tZ b0 aJ
  obtain ⟨_,b5,bC⟩:=cy8 (c:=c) (P:=x.a.map (zP c (flE S l) b)) (m:=m) (n:=S.nx) aF hx (by rw [aA]) (by simp) aQ (λf hf=>(aC.a f hf).2.1) aW
  have b6:∀ y∈x.i,y.A.length<=1000/\(∀ q∈y.A,0<=q/\q<c.r)/\(kb y.op=true->0<=y.to/\y.to<c.r):=λy hy=>by
   have O:=aC.i y hy;refine ⟨hia x aU y hy,?_,am4 O⟩;unfold vd rq at O;simp only [Bool.and_eq_true,List.all_eq_true] at O;intro q hq;have:=lO.1 (O.2.1 q hq);omega
  obtain ⟨H,b3,aD⟩:=cy7 (c:=c) (p1:=c.P) (p2:=c.r) (p3:=c.P) (p4:=c.r) b0 aF bG b6 (m:=(nPh x.a m S.nx).2.1) (n:=(nPh x.a m S.nx).2.2) ⟨by omega,by omega⟩ bC
  have b9:(qq c S b).E b=(nIn x.i (nPh x.a m S.nx).2.1 (nPh x.a m S.nx).2.2).2.1:=by
   show (if b=b then (nBl (kX c b) (mR c S b) S.nx).2.1 else S.E b)=_;rw [if_pos rfl,l0 hx,hm];rfl
  have bD:(qq c S b).nx=(nIn x.i (nPh x.a m S.nx).2.1 (nPh x.a m S.nx).2.2).2.2:=by
   show (nBl (kX c b) (mR c S b) S.nx).2.2=_;rw [l0 hx,hm];rfl
  have bM:∀ p,p≠b->(qq c S b).E p=S.E p:=λp hp=>by
   show (if p=b then _ else S.E p)=_;rw [if_neg hp]
  have aT:(qq c S b).B=S.B.set b.toNat (nBl x m S.nx).1:=by
   show S.B.set b.toNat (nBl (kX c b) (mR c S b) S.nx).1=_;rw [l0 hx,hm]
  have hF:∀ p r,p≠b->flE S l p r=flE (qq c S b) (l++[b]) p r:=λp r hp=>by
   unfold flE;rw [bM p hp];simp [hp]
  have aR:flE (qq c S b) (l++[b]) b=(qq c S b).E b:=by
   funext r;unfold flE;rw [if_pos (by simp)]
  have aE:Cur c H (flE (qq c S b) (l++[b]) b):=by rw [aR,b9];exact aD
  have M:∀ aK,D.set b.toNat ⟨(nPh x.a m S.nx).1.map (zP c (flE S l) b),(nIn x.i (nPh x.a m S.nx).2.1 (nPh x.a m S.nx).2.2).1,x.j,aK,x.n⟩=(tab c.b.length (zB c (flE S l) S.B)).set b.toNat ⟨(nPh x.a m S.nx).1.map (zP c (flE S l) b),(nIn x.i (nPh x.a m S.nx).2.1 (nPh x.a m S.nx).2.2).1,x.j,aK,x.n⟩:=λaK=>by rw [<- hD,List.set_set]
  have a6:(tab c.b.length (zB c (flE S l) S.B)).set b.toNat ⟨(nPh x.a m S.nx).1.map (zP c (flE S l) b),(nIn x.i (nPh x.a m S.nx).2.1 (nPh x.a m S.nx).2.2).1,x.j,(if x.j=2\/x.j=3 then (nIn x.i (nPh x.a m S.nx).2.1 (nPh x.a m S.nx).2.2).2.1 x.on else x.on),x.n⟩=tab c.b.length (zB c (flE S l) (qq c S b).B):=by
   rw [qa b0];refine lE λj q0 _=>?_
   by_cases ej:j=b
   ·subst ej;rw [if_pos rfl];unfold zB
    have:sN (qq c S j).B j=(nBl x m S.nx).1:=by
     unfold sN;rw [aT,tZ b0 aZ];rfl
    rw [this];rfl
   ·rw [if_neg ej];unfold zB
    have:sN (qq c S b).B j=sN S.B j:=by
     unfold sN jr;rw [aT];rw [if_pos q0,if_pos q0,List.getElem?_set_ne (by omega)]
    rw [this]
  have b8:=dc3 hck (B:=(qq c S b).B) (F:=flE S l) (F':=flE (qq c S b) (l++[b])) j1 W b0 b1 hF aE (λx hx=>(hsm x hx).1);have bS:=aE.1;have aB:nM c (N+1) b=b::((ma c b c.b.length).map (nM c N)).flatten:=rfl;obtain ⟨g1,g2⟩:=ux hall (N+1) b l b0 b1 hN aX a1 aH;rw [aB] at g1 g2;have aN:=ui c b c.b.length
  have a3:kO (λ(uE:Int) (L:Int × Int × (List jq) × Int × Int × (List jq) × (List Int) × Int)=>((jr (ma c b c.b.length) uE).bind λuG=>(k8 ([]:List Int) H).bind λuH=>(l6 (⟨(⟨L.1,L.2.1,L.2.2.1⟩:jv),(⟨L.2.2.2.1,L.2.2.2.2.1,L.2.2.2.2.2.1⟩:jv),L.2.2.2.2.2.2.1,L.2.2.2.2.2.2.2⟩:l9) uG uH).bind λK=>some (.inl (K.1.O.P,K.1.O.r,K.1.O.b,K.1.f.P,K.1.f.r,K.1.f.b,K.1.h,K.1.n)):Option ((Int × Int × (List jq) × Int × Int × (List jq) × (List Int) × Int) ⊕ (Empty)))) ((((ma c b c.b.length).length:Int):Int) - 0).toNat 0 (c.P,c.r,c.b,c.P,c.r,tab c.b.length (zB c (flE (kr c (l++[b])) (l++[b])) (kr c (l++[b])).B),tab c.b.length (idf c),(kr c (l++[b])).nx)=some (.inl (c.P,c.r,c.b,c.P,c.r,tab c.b.length (zB c (flE (kr c (l++nM c (N+1) b)) (l++nM c (N+1) b)) (kr c (l++nM c (N+1) b)).B),tab c.b.length (idf c),(kr c (l++nM c (N+1) b)).nx)):=by
   rcases lB (xs:=ma c b c.b.length) (body:=(λ(uE:Int) (L:Int × Int × (List jq) × Int × Int × (List jq) × (List Int) × Int)=>((jr (ma c b c.b.length) uE).bind λuG=>(k8 ([]:List Int) H).bind λuH=>(l6 (⟨(⟨L.1,L.2.1,L.2.2.1⟩:jv),(⟨L.2.2.2.1,L.2.2.2.2.1,L.2.2.2.2.2.1⟩:jv),L.2.2.2.2.2.2.1,L.2.2.2.2.2.2.2⟩:l9) uG uH).bind λK=>some (.inl (K.1.O.P,K.1.O.r,K.1.O.b,K.1.f.P,K.1.f.r,K.1.f.b,K.1.h,K.1.n)):Option ((Int × Int × (List jq) × Int × Int × (List jq) × (List Int) × Int) ⊕ (Empty))))) (s:=(c.P,c.r,c.b,c.P,c.r,tab c.b.length (zB c (flE (kr c (l++[b])) (l++[b])) (kr c (l++[b])).B),tab c.b.length (idf c),(kr c (l++[b])).nx)) (λq z=>z=(c.P,c.r,c.b,c.P,c.r,tab c.b.length (zB c (flE (kr c (l++[b]++(q.map (nM c N)).flatten)) (l++[b]++(q.map (nM c N)).flatten)) (kr c (l++[b]++(q.map (nM c N)).flatten)).B),tab c.b.length (idf c),(kr c (l++[b]++(q.map (nM c N)).flatten)).nx)) (λ_=>False) (by simp) (λq kd r z he hz=>by
    left;subst hz;have bA:kd∈ma c b c.b.length:=by rw [he];simp
    obtain ⟨⟨k0,k1⟩,a0⟩:=(ou c b kd _).1 bA;have bO:=re hall k0 k1 a0 b0;have bP:=bc1 (c:=c) kd
    have bF:l++b::((ma c b c.b.length).map (nM c N)).flatten=(l++[b]++(q.map (nM c N)).flatten)++((kd::r).map (nM c N)).flatten:=by
     rw [he];simp
    have aV:∀ y∈(q.map (nM c N)).flatten,y∈((ma c b c.b.length).map (nM c N)).flatten:=λy hy=>by
     rw [he,List.map_append,List.flatten_append];exact List.mem_append_left _ hy
    have aY:(l++[b]++(q.map (nM c N)).flatten).Nodup:=by
     rw [bF] at g1;exact (List.nodup_append.1 g1).1
    have bL:b ∉ (q.map (nM c N)).flatten:=λh=>(List.nodup_append.1 aY).2.2 b (by simp) b h rfl
    have aS:mR c (kr c (l++[b]++(q.map (nM c N)).flatten)) kd=flE (qq c S b) (l++[b]) b:=by
     unfold mR;rw [a0,if_pos b0,cn3 _ _ bL,aI,aR]
    obtain ⟨a9,a8⟩:=ih kd (l++[b]++(q.map (nM c N)).flatten) H k0 k1 (by omega) aY (λy hy=>by
     rcases List.mem_append.1 hy with e | e
     ·exact a2 y e
     ·exact (g2 y (List.mem_cons_of_mem _ (aV y e))).1) (λy hy=>by
     rcases List.mem_append.1 hy with e | e
     ·rcases List.mem_append.1 e with e | e
      ·exact λh=>aH y e (h.kid a0 k0 k1)
      ·rw [List.mem_singleton.1 e];exact al8 hall a0 k0 k1 b0
     ·obtain ⟨pl,bK,b4⟩:=List.mem_flatten.1 e;obtain ⟨k',aO,rfl⟩:=List.mem_map.1 bK;have aP:k'∈ma c b c.b.length:=by rw [he];exact List.mem_append_left _ aO
      obtain ⟨⟨aM,aG⟩,a7⟩:=(ou c b k' _).1 aP;have bB:=re hall aM aG a7 b0;have bJ:=((ux hall N k' [] aM aG (by omega) List.nodup_nil (by simp) (by simp)).2 y b4).2;rw [he,List.nodup_append] at aN
      exact bJ.disj hall b0 a7 aM aG a0 k0 k1 λe=>aN.2.2 k' aO kd (by simp) e) (by rw [aS];exact aE)
    refine ⟨_,?_,rfl⟩;rw [he,kK,obS,ka (by simp;omega),List.nil_append,obS];unfold ap4 at a8;rw [a8,obS,List.map_append,List.flatten_append]
    simp) with ⟨z,f1,f2⟩ | ⟨_,_,hf⟩
   ·rw [f1,f2,aB];simp
   ·exact hf.elim
  refine ⟨H,?_⟩;rw [l6];unfold ap4;dsimp only;rw [hS,aJ,obS];refine kN (kN hA rfl) ?_;dsimp only;refine kN (kN b5 rfl) ?_;rw [aL.2] at b3;refine kN (kN b3 rfl) ?_;dsimp only;rw [tZ b0 aF,obS];dsimp only
  have b7:(if decide (x.j≠1)=true then (jr H x.on).bind λuI=>some ((D.set b.toNat ⟨(nPh x.a m S.nx).1.map (zP c (flE S l) b),(nIn x.i (nPh x.a m S.nx).2.1 (S.nx+x.a.length)).1,x.j,x.on,x.n⟩).set b.toNat (⟨(nPh x.a m S.nx).1.map (zP c (flE S l) b),(nIn x.i (nPh x.a m S.nx).2.1 (S.nx+x.a.length)).1,x.j,uI,x.n⟩:jq)) else some (D.set b.toNat ⟨(nPh x.a m S.nx).1.map (zP c (flE S l) b),(nIn x.i (nPh x.a m S.nx).2.1 (S.nx+x.a.length)).1,x.j,x.on,x.n⟩):Option (List jq))=some (tab c.b.length (zB c (flE S l) (qq c S b).B)):=by
   rw [<- aL.2,<- a6];rcases aC.j with e | e | e
   ·rw [if_neg (by simp [e.1]),M,if_neg (by omega)]
   ·rw [if_pos (by simp [e.1]),aD.2 x.on e.2.2.1 e.2.2.2,obS,List.set_set,M,if_pos (.inl e.1)]
   ·rw [if_pos (by simp [e.1]),aD.2 x.on e.2.2.1 e.2.2.2,obS,List.set_set,M,if_pos (.inr e.1)]
  refine kN b7 ?_;refine kN (kN b8 rfl) ?_;rw [bx4 (by omega) b,obS];rw [aI,bD] at a3;rw [<- aL.2];refine kN a3 ?_;rfl
end
end Unt
end Go.Wk
namespace Go.Wk
open Go
namespace Unt
set_option maxRecDepth 10000
open Classical
section
variable {c:jv}
theorem ct6 (b:Int):D c 0 b:=λh=>h.start rfl
theorem bq5 {b:Int} (b0:0<b) (K:0<c.b.length):0<=idf c b/\idf c b<(c.b.length:Int):=by
 have key:∀ k:Nat,0<=idN c b (k+1):=λk=>by
  induction k with
  | zero =>
   show 0<=rD c b (-1) 0;unfold rD;rw [if_pos ⟨by omega,ct6 b,.inl (by omega)⟩];exact Int.le_refl _
  | succ k e =>
   show 0<=rD c b (idN c b (k+1)) ((k+1:Nat):Int);unfold rD;split
   ·omega
   ·exact e
 obtain ⟨m,H⟩:∃ m,c.b.length=m+1:=⟨c.b.length - 1,by omega⟩;have h0:0<=idf c b:=by unfold idf;rw [H];exact key m
 refine ⟨h0,?_⟩;rcases vc c b c.b.length with h | h
 ·unfold idf at h0 ⊢;omega
 ·exact h.2.1
theorem ao4:idf c 0=-1:=by
 rcases vc c 0 c.b.length with h | ⟨_,_,K,H⟩
 ·exact h
 ·exact absurd (Rt.refl (c:=c) (av:=λr=>r=idN c 0 c.b.length) (b:=0) λe=>K (Eq.symm e)) H
theorem cp8 {b x:Int} (h:Sub c b x):x=b\/∃ k,0<=k/\k<(c.b.length:Int)/\idf c k=b/\Sub c k x:=by
 induction h with
 | refl=>exact .inl rfl
 | down h1 H L K W =>
  right;rcases W with e | ⟨k,k0,M,N,O⟩
  ·exact ⟨_,L,K,by rw [H,e],.refl⟩
  ·exact ⟨k,k0,M,N,O.down H L K⟩
variable (hall:∀ b:Int,0<=b->b<(c.b.length:Int)->oW c b=true)
include hall
theorem sub_zero:∀ (d:Nat) (b:Int),dep c b<=d->0<=b->b<(c.b.length:Int)->Sub c 0 b:=by
 intro d
 induction d with
 | zero =>
  intro b K b0 b1;by_cases e:b=0
  ·subst e;exact .refl
  ·obtain ⟨H, _⟩ := bq5 (c := c) (b := b) (by omega) (by omega);have:=re hall b0 b1 rfl H;omega
 | succ d L =>
  intro b K b0 b1;by_cases e:b=0
  ·subst e;exact .refl
  ·obtain ⟨H, p1⟩ := bq5 (c := c) (b := b) (by omega) (by omega);have:=re hall b0 b1 rfl H;exact (L (idf c b) (by omega) H p1).down rfl b0 b1
theorem co9:∀ (N:Nat) (b x:Int),0<=b->b<(c.b.length:Int)->c.b.length - dep c b<N->Sub c b x->x∈nM c N b:=by
 intro N
 induction N with
 | zero=>intro b x _ _ h;omega
 | succ N O =>
  intro b x b0 b1 _ hs;show x∈b::((ma c b c.b.length).map (nM c N)).flatten;rcases cp8 hs with e | ⟨k,K,H,L,M⟩
  ·rw [e];exact List.mem_cons_self
  ·have h1:=re hall K H L b0;have W:=bc1 (c:=c) k;exact List.mem_cons_of_mem _ (List.mem_flatten.2 ⟨_,List.mem_map.2 ⟨k,(ou c b k _).2 ⟨⟨K,H⟩,L⟩,rfl⟩,O k x K H (by omega) M⟩)
omit hall in
theorem cr0 (e:0<c.b.length) {b:Int} (b0:0<=b) (b1:b<(c.b.length:Int)):0<dep c b:=by
 unfold dep;refine List.length_pos_of_mem (a:=b.toNat) (List.mem_filter.2 ⟨List.mem_range.2 (by omega),decide_eq_true ?_⟩);rw [show ((b.toNat:Nat):Int)=b by omega];exact D.refl b
theorem an0 {b:Int} (b0:0<=b) (b1:b<(c.b.length:Int)):b∈nM c (c.b.length+1) 0 :=
 co9 hall _ 0 b (Int.le_refl _) (by omega) (by omega) (sub_zero hall _ b (Nat.le_refl _) b0 b1)
end
section
variable {c:jv} {u:kU} {k:Int} (hck:COk u k c) (hall:∀ b:Int,0<=b->b<(c.b.length:Int)->oW c b=true) (hsm:∀ x∈c.b,x.a.length<=40000/\x.i.length<=40000) (hia:∀ x∈c.b,∀ y∈x.i,y.A.length<=1000)
include hck
omit hck in
theorem cl7 {ps:List Int}:∀ {ags:List Int},ags.length=ps.length->List.zipWith (λ_ r=>r) ps ags=ags:=λ{ags} h=>by
 apply List.ext_getElem?;intro i;rw [List.getElem?_zipWith];by_cases e:i<ags.length
 ·rw [List.getElem?_eq_getElem e,List.getElem?_eq_getElem (by omega)]
 ·rw [List.getElem?_eq_none (by omega),List.getElem?_eq_none (by omega)]
theorem bi2:ap4 c []=⟨c,c,tab c.b.length (idf c),c.P⟩:=by
 have N:tab c.b.length (zB c (flE (kr c []) []) (kr c []).B)=c.b:=by
  refine (ba5 rfl λb b0 b1=>?_).symm;obtain ⟨x,H,_⟩:=kV (xs:=c.b) (j:=b) b0 b1;have e:=hck.bok H;rw [H];have M:sN (kr c []).B b=x:=by show (jr c.b b).getD default=x;rw [H];rfl
  unfold zB;rw [M]
  have hp:x.a.map (zP c (flE (kr c []) []) b)=x.a:=by
   refine (List.map_congr_left λf K=>?_).trans (List.map_id _);have L:=(e.a f K).2.2.1;show (⟨f.to,List.zipWith (flE (kr c []) []) (kH c b) f.A⟩:kA)=f;have:(flE (kr c []) [])=λ_ r=>r:=by funext p r;simp [flE]
   rw [this,cl7 L]
  rw [hp]
 unfold ap4;rw [N];rfl
include hall hsm hia
theorem ce1 {c0 c1:jv} (hb:pY c0=some c1) (hp:qU c1=some c) (he:c0.P=c.P) (a0:∀ b∈c.b,SmB b):nI c0=some (bd5 c):=by
 have hnb:=hck.nb;have a1:=hck.r;have L:=hck.P
 have O:kO (S:=List Int) (X:=Empty) (λ(K:Int) (M:List Int)=>(jr M K).bind λuE=>some (.inl (M.set (K).toNat K))) ((c.P:Int) - 0).toNat 0 (List.replicate c.r.toNat (0:Int))=some (.inl (tab c.r.toNat (bf7 c))):=by
  obtain ⟨q,e1,W⟩:=oE (body:=λ(K:Int) (M:List Int)=>((jr M K).bind λuE=>some (.inl (M.set (K).toNat K)):Option (List Int ⊕ Empty))) (k:=((c.P:Int) - 0).toNat) (i:=0) (s:=List.replicate c.r.toNat (0:Int)) (λi l=>l=tab c.r.toNat λr=>if r<i then r else 0) (by rw [wQ];exact lE λr N _=>by rw [if_neg (by omega)]) (λi l i0 _ hl=>by
   refine ⟨_,?_,rfl⟩;subst hl;rw [lf i0 (by omega),obS,qa i0];refine congrArg some (congrArg Sum.inl (lE λr N r1=>?_));by_cases e:r=i
   ·rw [if_pos e,if_pos (by omega),e]
   ·rw [if_neg e];by_cases W:r<i
    ·rw [if_pos W,if_pos (by omega)]
    ·rw [if_neg W,if_neg (by omega)])
  rw [e1,W];refine congrArg some (congrArg Sum.inl (lE λr N r1=>?_));unfold bf7;by_cases e:r<c.P
  ·rw [if_pos (by omega),if_pos ⟨N,e⟩]
  ·rw [if_neg (by omega),if_neg (by omega)]
 have hC:Cur c (tab c.r.toNat (bf7 c)) (mR c (kr c []) 0):=by
  unfold mR;rw [ao4,if_neg (by omega)];exact ⟨by rw [mn];omega,λr N r1=>lf N (by omega)⟩
 obtain ⟨_,H⟩:=by5 hck hall hsm hia (c.b.length+1) 0 [] _ (Int.le_refl _) (by omega) (by omega) List.nodup_nil (by simp) (by simp) hC;rw [bi2 hck,List.nil_append] at H;unfold nI;rw [hb,obS,hp,obS,aw4 c (by omega) a0,obS,av7 (ye hck) (yc hck) (by omega) (by omega),obS,bp9 (by omega) hall,obS,nW (by omega) (by omega),obS,he,show tv c.P=some () from if_pos (by omega),obS];refine kN O ?_;dsimp only [Sum.elim_inl];rw [H,obS];refine congrArg some ?_;unfold bd5 vm ap4;dsimp only
 congr 1
 refine lE λb b0 b1=>?_
 unfold zB tg
 congr 1
 refine List.map_congr_left λf _=>?_
 unfold zP an7
 congr 1
 apply List.ext_getElem?;intro i;rw [List.getElem?_zipWith,List.getElem?_zipWith];cases hi:(kH c b)[i]? with
 | none=>rfl
 | some p =>
  have L:=te (List.mem_of_getElem? hi);cases f.A[i]? with
  | none=>rfl
  | some r=>show some (flE _ _ p r)=some _;unfold flE;rw [if_pos (an0 hall L.1 L.2)]
end
section
variable {c:jv} {u:kU} {k:Int} (hck:COk u k c) (hall:∀ b:Int,0<=b->b<(c.b.length:Int)->oW c b=true) (hcnt:pw c<=50000)
theorem bm0 {c:jv} {u:kU} {k:Int} (hck:COk u k c):kH c 0=[]:=by
 cases h:kH c 0 with
 | nil=>rfl
 | cons p l =>
  obtain ⟨y,e,H⟩:=ad4.1 (show p∈kH c 0 by rw [h];simp);have:=(hck.bok e).next 0 H;omega
theorem br8 {I:Int->Int->Prop} {b:Int} {n:Nat} {f:kA} (e:f∈phS c I b 0 n):∃ r:Nat,(r:Int)<n/\phW c I b r/\f=mkP c b r:=by
 unfold phS at e;obtain ⟨r,L,rfl⟩:=List.mem_map.1 e;obtain ⟨K,H⟩:=List.mem_filter.1 L;have:=List.mem_range'_1.1 K;exact ⟨r,by omega,of_decide_eq_true H,rfl⟩
theorem ai1 {I:Int->Int->Prop} {b:Int} (b0:0<=b) (b1:b<(c.b.length:Int)):jr (phC c I).b b=some (az2 c I b):=lf b0 b1
theorem cl2 {I:Int->Int->Prop} {b:Int} {x:jq} (h:jr (phC c I).b b=some x):(0<=b/\b<(c.b.length:Int))/\x=az2 c I b:=by
 obtain ⟨h0,H⟩:=jz.1 h;have K:=(lgE.1 H).1;have L:(phC c I).b.length=c.b.length:=mn;have e:0<=b/\b<(c.b.length:Int):=by omega
 refine ⟨e,?_⟩;rw [ai1 e.1 e.2] at h;exact (Option.some.inj h).symm
include hck hall hcnt
theorem cf9 (I:Int->Int->Prop):COk u k (phC c I):=by
 have hg:=xn I (c:=c);have W:(phC c I).b.length=c.b.length:=mn;have hp:=hg.g;refine ⟨hck.r,hck.P,by rw [W];exact hck.nb,λb x hx=>?_⟩;obtain ⟨⟨b0,b1⟩,rfl⟩:=cl2 hx;have M:=yQ b0 b1;have:=hck.b b _ M;have K:∀ f,vg (phC c I) b f=vg c b f:=λf=>by unfold vg rq;rw [hp];rfl
 unfold pf at this ⊢;simp only [Bool.and_eq_true] at this ⊢;obtain ⟨h1,h2,h3,h4,h5⟩:=this;refine ⟨h1,h2,by rw [W];exact h3,h4,?_⟩;show (phS c I b 0 c.r.toNat++(kX c b).a).all _=true;have e1:vg (phC c I) b=vg c b:=funext K;rw [List.all_append,Bool.and_eq_true,e1];refine ⟨?_,h5⟩;rw [List.all_eq_true];intro f hf;obtain ⟨r,_,hw,rfl⟩:=br8 hf;obtain ⟨_,L,_⟩:=ai5 hck hall hcnt (r:Int);have O:=L.pred b hw.1;have N:b≠0:=λe=>by subst e;exact O (bm0 hck)
 have H:inB (r:Int) 0 (c.r - 1)=true:=by
  have:=hck.r;rw [lO];omega
 simp only [vg,rq,mkP,Bool.and_eq_true,decide_eq_true_eq,List.all_eq_true,List.length_replicate];exact ⟨N,H,trivial,λq hq=>by rw [(List.mem_replicate.1 hq).2];exact H⟩
end
theorem ax0 {α:Type} (f:α->Nat):∀ {l:List α} {i:Nat} {x y:α},l[i]?=some x->lD f (l.set i y)+f x=lD f l+f y
 | [],i,x,y,h=>by simp at h
 | z::l,0,x,y,h=>by
  simp at h;subst h;simp only [List.set_cons_zero,lD];omega
 | z::l,i+1,x,y,h=>by
  have:=ax0 f (l:=l) (i:=i) (x:=x) (y:=y) (by simpa using h);simp only [List.set_cons_succ,lD];omega
end Unt
end Go.Wk
namespace Go.Wk
open Go
namespace Unt
set_option maxRecDepth 10000
open Classical
structure Sm3 (c:jv):Prop where
 smb:∀ x∈c.b,SmB x
 len:∀ x∈c.b,x.a.length<=2000/\x.i.length<=2000
 ia:∀ x∈c.b,∀ y∈x.i,y.A.length<=1000
theorem Sm3.of {u:kU} (hu:Ok u) {k:Int} {c:jv} (hck:COk u k c) (h:∀ x∈c.b,x.a.length<=2000/\x.i.length<=2000):Sm3 c:=by
 have hnb:=hck.nb;refine ⟨λx H=>?_,h,λx H y K=>?_⟩
 ·obtain ⟨b,L⟩:=av4 H;have e:=hck.bok L;have O:=e.j;have N:=h x H;refine ⟨by omega,by omega,by omega,λf M=>?_,λy K=>?_⟩
  ·have:=(e.a f M).2.2.1;have:=pJ c b;omega
  ·have:=bt3 hu (e.i y K);omega
 ·obtain ⟨b,L⟩:=av4 H;have:=bt3 hu ((hck.bok L).i y K);omega
section
variable {u:kU} {k:Int} {c:jv} (hck:COk u k c)
include hck
theorem co4 (e:∀ x∈c.b,x.a.length<=800/\x.i.length<=800) (I:Int->Int->Prop):∀ x∈(o7 c I).b,x.a.length<=1100/\x.i.length<=1100:=λx H=>by
 have K:=hck.r;have L:=ta c I c.r.toNat;rcases List.mem_or_eq_of_mem_set (show x∈c.b.set 0 (bl1 c I (kX c 0)) from H) with h | h
 ·have:=e x h;omega
 ·have:=e (kX c 0) (List.mem_of_getElem? (jz.1 (bb1 hck)).2);subst h;show (kX c 0).a.length<=1100/\((pE c I c.r.toNat).map zr++(kX c 0).i).length<=1100;rw [List.length_append,List.length_map];omega
theorem cm2 (I:Int->Int->Prop):pw (o7 c I)<=pw c+300:=by
 have H:=hck.r;have K:=ta c I c.r.toNat;have h0:=(jz.1 (bb1 hck)).2;have:=ax0 qV (l:=c.b) (i:=0) (y:=bl1 c I (kX c 0)) h0
 have e:qV (bl1 c I (kX c 0))=(pE c I c.r.toNat).length+qV (kX c 0):=by
  show (kX c 0).a.length+((pE c I c.r.toNat).map zr++(kX c 0).i).length=_;rw [List.length_append,List.length_map];unfold qV;omega
 show lD qV (c.b.set 0 (bl1 c I (kX c 0)))<=lD qV c.b+300;omega
theorem cl8 (e:∀ x∈c.b,x.a.length<=1100/\x.i.length<=1100) (I:Int->Int->Prop):∀ x∈(phC c I).b,x.a.length<=2000/\x.i.length<=2000:=λx H=>by
 have K:=hck.r;obtain ⟨b,b0,b1,rfl⟩:=bc8 (show x∈tab c.b.length (az2 c I) from H);have:=e (kX c b) (List.mem_of_getElem? (jz.1 (yQ b0 b1)).2);have hp:=ai7 c I b 0 c.r.toNat;show (phS c I b 0 c.r.toNat++(kX c b).a).length<=2000/\(kX c b).i.length<=2000;rw [List.length_append];omega
theorem cb6 (hl:∀ x∈c.b,x.a.length<=2000) (I:Int->Int->Prop):kO (λ(K:Int) (M:(List jq))=>((jr (tab c.b.length (λb ↦ phS c I b 0 c.r.toNat)) K).bind λuG=>((jr M K).bind λH=>(k8 uG H.a).bind λuH=>some (M.set (K).toNat (⟨uH,H.i,H.j,H.on,H.n⟩:jq)):Option ((List jq))).bind λW=>some (.inl W):Option (((List jq)) ⊕ (Empty)))) (((c.b.length:Int):Int) - 0).toNat 0 c.b=some (.inl (phC c I).b):=by
 have hnb:=hck.nb;have a0:=hck.r
 obtain ⟨q, e1, N⟩ := oE (body := (fun (K : Int) (M : (List jq)) => ((jr (tab c.b.length (fun b ↦ phS c I b 0 c.r.toNat)) K).bind fun uG => ((jr M K).bind fun H => (k8 uG H.a).bind fun uH => some (M.set (K).toNat (⟨uH, H.i, H.j, H.on, H.n⟩ : jq)) : Option ((List jq))).bind fun W => some (.inl W) : Option (((List jq)) ⊕ (Empty))))) (k := (((c.b.length : Int) : Int) - 0).toNat) (i := 0) (s := c.b) (fun i l => l = tab c.b.length fun b => if b < i then az2 c I b else kX c b) (by
  refine (ai8 c).trans (lE λb b0 _=>?_)
  rw [if_neg (by omega)]) (λi l O _ hI=>by
  refine ⟨_,?_,rfl⟩;have L:i<(c.b.length:Int):=by omega
  have h1:=hl (kX c i) (List.mem_of_getElem? (jz.1 (yQ O L)).2);have h2:=ai7 c I i 0 c.r.toNat;subst hI;rw [lf O L,obS,lf O L,obS,if_neg (by omega),ka (by omega),obS,qa O];refine congrArg some (congrArg Sum.inl (lE λr _ _=>?_));by_cases e:r=i
  ·rw [if_pos e,if_pos (by omega),e];rfl
  ·rw [if_neg e];by_cases N:r<i
   ·rw [if_pos N,if_pos (by omega)]
   ·rw [if_neg N,if_neg (by omega)])
 rw [e1,N];refine congrArg some (congrArg Sum.inl (lE λb b0 b1=>?_));rw [if_pos (by omega)]
variable (hall:∀ b:Int,0<=b->b<(c.b.length:Int)->oW c b=true) (hu:Ok u) (hc:pw c<=800)
include hall hu hc
theorem bi5 {c0:jv} (hd:oQ c0=some c) (aI:c0.P=c.P):∃ I O,vu c I/\vu (o7 c I) O/\(∀ b r,I b r->0<=r/\r<c.r)/\COk u k (o7 c I)/\pw (o7 c I)<=50000/\qv c (o7 c I)/\COk u k (phC (o7 c I) O)/\Sm3 (phC (o7 c I) O) /\
  nI c0=some (bd5 (phC (o7 c I) O))/\nf c=some (bd5 (phC (o7 c I) O)):=by
 have hnb:=hck.nb;have b8:=hck.r;have b9:=hck.P
 have N:∀ x∈c.b,x.a.length<=800/\x.i.length<=800:=λx M=>by
  have h1:qV x<=pw c:=td (f:=qV) M;unfold qV at h1;omega
 have aP:Sm3 c:=Sm3.of hu hck λx M=>by have:=N x M;omega
 obtain ⟨ins,preds,li,lo,a1,a2,a3,a4,a5,a6,_⟩:=ap1 hck λx M=>by have:=N x M;omega
 have hI:nr ins=lz li:=by funext b r;exact propext (a5 b r)
 have aN:∀ b r,lz li b r->0<=r/\r<c.r:=λb r h=>a3.reg b r (by rw [hI];exact h)
 generalize hJ:lz li=I at *
 have e:=cw7 hck I;have aE:=vi hck I;have K:=co4 hck N I;have H:pw (o7 c I)<=50000:=by have:=cm2 hck I;omega
 have aF:Sm3 (o7 c I):=Sm3.of hu e λx M=>by have:=K x M;omega
 have aU:=aE.len;have L:∀ b:Int,0<=b->b<((o7 c I).b.length:Int)->oW (o7 c I) b=true:=λb b0 b1=>by rw [aE.inb];exact hall b b0 (by omega)
 have aC:=bn5 hck (λx M=>by have:=N x M;omega) hd a2 a4;rw [hJ] at aC;obtain ⟨m,hm,_⟩:=kV (xs:=ins) (j:=0) (Int.le_refl _) (by have:=a3.len;omega);have aJ:=bp2 hck hm (λb r h=>a3.reg b r h);rw [hI] at aJ
 have aX:m.keys.length<=300:=by
  have aV:m.keys.length<=c.r.toNat:=sG m.nodup λr hr=>by have:=a3.reg 0 r ⟨m,hm,hr⟩;omega
  omega
 have aK:mA m=some m.keys:=by
  unfold mA;rw [ka (by simp;omega)];rfl
 obtain ⟨aH,_,aM,_,b1,b2,b3,b4,b5,b6,b7⟩:=ap1 e λx M=>by have:=K x M;omega
 have aQ:nr aH=lz aM:=by funext b r;exact propext (b5 b r)
 have aR:=cw2 (by omega) b1;have aS:=bw6 e L H b4 b2 aF.smb;have aD:=bx0 e L H b3 aR b7 (c0:=c) (x:=kX c 0) (zs:=(pE c I c.r.toNat).map zr++(kX c 0).i) rfl;rw [aQ] at aD
 generalize aW:lz aM=O at *
 have a0:=cf9 e L H O;have a9:=xn (c:=o7 c I) O;have a8:=cl8 e K O;have aA:Sm3 (phC (o7 c I) O):=Sm3.of hu a0 a8;have aY:=a9.len;have W:∀ b:Int,0<=b->b<((phC (o7 c I) O).b.length:Int)->oW (phC (o7 c I) O) b=true:=λb b0 b1=>by rw [a9.inb];exact L b b0 (by omega)
 have aB:∀ x∈(phC (o7 c I) O).b,x.a.length<=40000/\x.i.length<=40000:=λx M=>by have:=a8 x M;omega
 have aL:=cb6 e (λx M=>by have:=K x M;omega) O;have aG:=as7 a0 W aB aA.smb λb b0 b1=>an0 W b0 b1
 rw [a9.domT,a9.inT] at aG;have aT:=ax4 (ye e) (yc e) (by omega) (by omega) (ao7 e);have aO:=ae1 e λx M=>⟨(aF.smb x M).a,(aF.smb x M).i⟩
 refine ⟨I,O,a6,b6,aN,e,H,aE,a0,aA,ce1 a0 W aB aA.ia aC aS aI aA.smb,?_⟩;have bA:=N (kX c 0) (List.mem_of_getElem? (jz.1 (bb1 hck)).2);have aZ:=ta c I c.r.toNat;unfold nf;rw [a1,obS];dsimp only;rw [hm,obS,aK,obS];refine kN aJ ?_;dsimp only [Sum.elim_inl];rw [zc c (by omega) aP.smb,obS,bb1 hck,obS,ka (by rw [List.length_map];omega),obS];refine kN aT ?_;dsimp only [Option.elim];refine kN b1 ?_;refine kN aO ?_;dsimp only;rw [nW (by omega) (by omega),obS,show tv c.r=some () from if_pos (by omega),obS];rw [aU] at aD aL;refine kN aD ?_;dsimp only [Sum.elim_inl];refine kN aL ?_;dsimp only [Sum.elim_inl];exact kN aG rfl
end
end Unt
end Go.Wk
namespace Go.Wk
open Go
namespace Unt
set_option maxRecDepth 10000
open Classical
section
variable {c:jv} {a b x:Int}
theorem cl3 (H:a≠b) {s:Int} (M:Rt c (λ_=>False) s x):Rt c (λr=>r=a\/r=b) s x\/Rt c (λr=>r=b) a x\/Rt c (λr=>r=a) b x:=by
 induction M with
 | refl hs =>
  by_cases K:s=a
  ·rw [K];exact .inr (.inl (.refl H))
  by_cases L:s=b
  ·rw [L];exact .inr (.inr (.refl λe=>H e.symm))
  ·exact .inl (.refl λe=>e.elim K L)
 | @step r n h1 h2 h3 ih =>
  by_cases K:n=a
  ·rw [K];exact .inr (.inl (.refl H))
  by_cases L:n=b
  ·rw [L];exact .inr (.inr (.refl λe=>H e.symm))
  ·rcases ih with h | h | h
   ·exact .inl (h.step h2 λe=>e.elim K L)
   ·exact .inr (.inl (h.step h2 L))
   ·exact .inr (.inr (h.step h2 K))
theorem cq7 (O:Rt c (λ_=>False) 0 x) (K:D c a x) (M:D c b x):D c a b\/D c b a:=by
 by_cases H:a=b
 ·subst H;exact .inl (D.refl a)
 refine Classical.byContradiction λL=>?_
 have N:Rt c (λr=>r=a) 0 b:=Classical.byContradiction λh=>L (.inl h)
 have W:Rt c (λr=>r=b) 0 a:=Classical.byContradiction λh=>L (.inr h)
 rcases cl3 H O with h | h | h
 ·exact K (h.mono λr e=>.inl e)
 ·exact M (W.trans h)
 ·exact K (N.trans h)
theorem ci5 (hr:Rt c (λ_=>False) 0 b):∀ (k:Nat) (a:Int),0<=a->a<(k:Int)->a≠b->D c a b->0<=idN c b k/\D c a (idN c b k):=by
 intro k
 induction k with
 | zero=>intro a L W;omega
 | succ k O =>
  intro a L W H K;show 0<=rD c b (idN c b k) (k:Int)/\D c a (rD c b (idN c b k) (k:Int));unfold rD;by_cases e:(k:Int)≠b/\D c (k:Int) b/\(idN c b k<0\/D c (idN c b k) (k:Int))
  ·rw [if_pos e];refine ⟨by omega,?_⟩;by_cases N:a=(k:Int)
   ·rw [N];exact D.refl _
   ·obtain ⟨_, i2⟩ := O a L (by omega) H K;rcases e.2.2 with h | h
    ·omega
    ·exact i2.trans h
  ·rw [if_neg e];by_cases N:a=(k:Int)
   ·subst N;have hb:¬ (idN c b k<0):=λh=>e ⟨H,K,.inl h⟩
    have M:¬ D c (idN c b k) (k:Int):=λh=>e ⟨H,K,.inr h⟩
    refine ⟨by omega,?_⟩;rcases vc c b k with h | ⟨_,_,_,h4⟩
    ·omega
    ·exact (cq7 hr K h4).resolve_right M
   ·exact O a L (by omega) H K
theorem bd3 (M:Rt c (λ_=>False) 0 b) (K:0<=a) (L:a<(c.b.length:Int)) (e:a≠b) (H:D c a b):0<=idf c b/\D c a (idf c b):=ci5 M c.b.length a K L e H
end
def bl3 (x:jq) (r:Int):Prop:=(∃ f∈x.a,f.to=r)\/∃ y∈x.i,kb y.op=true/\y.to=r
theorem bd6 {r b:Int}:∀ {l:List kA},(∃ f∈l,f.to=r)->(⟨b,-1⟩:kf)∈qf r b l
 | [],⟨_,h,_⟩=>by simp at h
 | f::l,⟨g,h,e⟩=>by
  unfold qf;by_cases H:f.to=r
  ·rw [if_pos H];exact List.mem_cons_self
  ·rw [if_neg H];rcases List.mem_cons.1 h with rfl | h
   ·exact absurd e H
   ·exact bd6 ⟨g,h,e⟩
theorem bd7 {r b:Int}:∀ {l:List kD} {i:Int},(∃ y∈l,kb y.op=true/\y.to=r)->∃ p∈qK r b l i,p.block=b
 | [],_,⟨_,h,_⟩=>by simp at h
 | f::l,i,⟨g,h,e⟩=>by
  unfold qK;by_cases H:kb f.op=true/\f.to=r
  ·rw [if_pos H];exact ⟨_,List.mem_cons_self,rfl⟩
  ·rw [if_neg H];rcases List.mem_cons.1 h with rfl | h
   ·exact absurd e H
   ·exact bd7 ⟨g,h,e⟩
theorem br0 {r:Int}:∀ {l:List jq} {i:Int} {j:Nat} {x:jq},l[j]?=some x->bl3 x r->∃ p∈plF r l i,p.block=i+j
 | [],_,_,_,h,_=>by simp at h
 | y::l,i,0,x,h,hs=>by
  simp at h;subst h;unfold plF;rcases hs with hs | hs
  ·exact ⟨_,List.mem_append_left _ (List.mem_append_left _ (bd6 hs)),by simp⟩
  ·obtain ⟨p,e,H⟩:=bd7 (b:=i) (i:=0) hs;exact ⟨p,List.mem_append_left _ (List.mem_append_right _ e),by rw [H];simp⟩
 | y::l,i,j+1,x,h,hs=>by
  obtain ⟨p,e,H⟩:=br0 (l:=l) (i:=i+1) (j:=j) (x:=x) (by simpa using h) hs;unfold plF;exact ⟨p,List.mem_append_right _ e,by rw [H];omega⟩
theorem da0 {c:jv} {b r:Int} (b0:0<=b) (b1:b<(c.b.length:Int)) (h:bl3 (kX c b) r):b∈stI c r:=by
 obtain ⟨p,e,H⟩:=br0 (i:=0) (jz.1 (yQ b0 b1)).2 h;exact List.mem_append_right _ (List.mem_map.2 ⟨p,e,by rw [H];omega⟩)
theorem az4 {S:Int->Prop} {r:Int}:∀ {l:List kD},(¬ ∃ y∈l,kb y.op=true/\y.to=r)->∀ {l2:List kD},bw l2 S r->bw (l++l2) S r
 | [],_,_,h=>h
 | y::l,hn,l2,h=>.inr ⟨az4 (λ⟨z,H,K⟩=>hn ⟨z,List.mem_cons_of_mem _ H,K⟩) h,λe=>hn ⟨y,List.mem_cons_self,e.1,e.2.symm⟩⟩
inductive Xr (c:jv) (A:Int->Prop) (b:Int):Int->Prop
 | refl:Xr c A b b
 | step {x n:Int}:n∈nk c x->Xr c A b n->¬ A x->Xr c A b x
theorem ca5 {c:jv} {A:Int->Prop} {b s x:Int} (L:Rt c (λ_=>False) s x):Xr c A b x->¬ Xr c A b s->∃ p n,n∈nk c p/\¬ Xr c A b p/\Xr c A b n:=by
 induction L with
 | refl _=>intro K H;exact absurd K H
 | @step r n K H h3 ih =>
  intro M hs;by_cases e:Xr c A b r
  ·exact ih e hs
  ·exact ⟨r,n,H,e,M⟩
theorem ci0 {c:jv} {A:Int->Prop} {b p:Int} (hp:¬ (D c p b/\b≠p)) {x:Int} (L:Xr c A b x):∀ q,x∈nk c q->D c p q->∃ y,Xr c A b y/\DF c p y:=by
 induction L with
 | refl =>
  intro q K H;refine ⟨b,.refl,⟨q,zz K,H⟩,?_⟩;by_cases e:b=p
  ·exact .inl e
  ·exact .inr λh=>hp ⟨h,e⟩
 | @step x n h1 h2 h3 ih =>
  intro q K H;by_cases e:x=p\/¬ D c p x
  ·exact ⟨x,.step h1 h2 h3,⟨q,zz K,H⟩,e⟩
  ·exact ih x h1 (Classical.byContradiction λh=>e (.inr h))
section
variable {c:jv} {u:kU} {k:Int} (hck:COk u k c) (hall:∀ b:Int,0<=b->b<(c.b.length:Int)->oW c b=true) (hcnt:pw c<=50000)
include hck hall hcnt
theorem ca6 {I:Int->Int->Prop} (hI:vu c I) (h0:∀ r,I 0 r->r<c.P) {b r:Int} (hr:c.P<=r) (hl:I b r) :
  phW c I b r\/∃ a,a≠b/\(0<=a/\a<(c.b.length:Int))/\D c a b/\(bl3 (kX c a) r\/phW c I a r):=by
 refine Classical.byContradiction λO=>?_
 have a1:=hI.1 b r hl;obtain ⟨A,hA⟩:∃ A:Int->Prop,∀ a,A a↔bl3 (kX c a) r\/phW c I a r:=⟨_,λ_=>Iff.rfl⟩;have a3:¬ phW c I b r:=λh=>O (.inl h)
 have e:∀ {p n:Int},n∈nk c p->(0<=p/\p<(c.b.length:Int))/\(0<=n/\n<(c.b.length:Int)):=λ{p n} h=>by
  have hp:=te (zz h);obtain ⟨x,hx,_⟩:=kV (xs:=c.b) (j:=p) hp.1 hp.2;rw [nZ hx] at h;have:=ye hck p x hx n h;exact ⟨hp,this⟩
 have H:∀ x,Xr c A b x->I x r:=λx hx=>by
  induction hx with
  | refl=>exact hl
  | @step x n N h2 h3 ih =>
   have K:=(e N).1;have a2:¬ bl3 (kX c x) r:=λh=>h3 ((hA x).2 (.inl h))
   refine (hI.2.1 x r K.1 K.2).2 ⟨?_,λh=>a2 (.inl h)⟩;have a7:nk c x=(kX c x).n:=nZ (yQ K.1 K.2);have:=az4 (S:=ac0 (kX c x) (qk c I x)) (r:=r) (l:=(kX c x).i) (λh=>a2 (.inr h)) (l2:=[]) (.inl ⟨n,by rw [<- a7];exact N,.inl ih⟩);rw [List.append_nil] at this;exact this
 have a9:¬ Xr c A b 0:=λh=>by have:=h0 r (H 0 h);omega
 obtain ⟨p,n,N,h2,h3⟩:=ca5 (reach hall a1.1 a1.2) .refl a9;have M:=(e N).1;have a4:A p:=Classical.byContradiction λh=>h2 (.step N h3 h)
 have a8:¬ (D c p b/\b≠p):=λh=>O (.inr ⟨p,Ne.symm h.2,M,h.1,(hA p).1 a4⟩)
 obtain ⟨y,y1,y2⟩:=ci0 a8 h3 p N (D.refl p);obtain ⟨_,a5,_⟩:=ai5 hck hall hcnt r;have L:=H y y1;have W:=hI.1 y r L;have a0:y∈frF c (stI c r):=a5.clo p (((hA p).1 a4).imp (da0 M.1 M.2) (·.1)) y W.1 W.2 y2;have a6:A y:=(hA y).2 (.inr ⟨a0,L⟩);cases y1 with
 | refl=>exact a3 ⟨a0,L⟩
 | step q1 q2 q3=>exact q3 a6
end
end Unt
end Go.Wk
