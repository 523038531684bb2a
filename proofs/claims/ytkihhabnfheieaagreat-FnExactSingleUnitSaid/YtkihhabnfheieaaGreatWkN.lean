/- A part of a proof: general laws of walks, no statement of the seat. -/
import Derived.Test.YtkihhabnfheieaaGreatWkI
import Derived.Laws.BytesString
import Derived.Laws.Concat
import Derived.MapKept
import Derived.Test.YtkihhabnfheieaaGreatWkA
namespace Go.Wk
open Go Go.RowKit
section
variable {P:Program} {l:Env} {w:World} {o:Oper} {x y:Operand} {t t' s e:TypeId}
end
end Go.Wk
namespace Go.Wk
open Go Go.RowKit
section
variable {κ β:Type} [DecidableEq κ]
def ny (k:κ):List (κ × β)->Nat->Option (Nat × β)
 | [],_=>none
 | p::r,i=>if k=p.1 then some (i,p.2) else ny k r (i+1)
def rn (es:List (κ × β)) (k:κ):Option β:=(ny k es 0).map (·.2)
def ah0 (es:List (κ × β)) (k:κ) (v:β):List (κ × β):=match ny k es 0 with
 | some (i,_)=>es.set i (k,v)
 | none=>es++[(k,v)]
theorem pC {k:κ}:∀ {es:List (κ × β)} {i j:Nat} {v:β},ny k es i=some (j,v)->i<=j/\es[j - i]?=some (k,v)
 | [],_,_,_,h=>by simp [ny] at h
 | p::r,i,j,v,h=>by
  unfold ny at h;split at h
  ·rename_i H;simp only [osI,Prod.mk.injEq] at h;obtain ⟨rfl,rfl⟩:=h;subst H;simp
  ·obtain ⟨_,K⟩:=pC h;refine ⟨by omega,?_⟩;rw [show j - i=(j - (i+1))+1 by omega,List.getElem?_cons_succ];exact K
theorem qA {k:κ}:∀ {es:List (κ × β)} {i:Nat},ny k es i=none↔∀ p∈es,k≠p.1
 | [],_=>by simp [ny]
 | p::r,i=>by
  unfold ny;by_cases H:k=p.1
  ·simp [H]
  ·simp [H,qA (es:=r)]
structure cr8 (P:Program) (kt:TypeId) (kenc:κ->Value):Prop where
 check:∀ n e k w,(Instr.checkKey e (n+1) kt (kenc k)).run P w=.ok () w
 und:∃ d,P.underlying kt=some d/\∀ a b,Instr.sameNow d (kenc a) (kenc b)=some (decide (a=b))
 bits:∀ a,Instr.sameBits 10000 (kenc a) (kenc a)=true
theorem ao6 {P:Program} {kt:TypeId} {kenc:κ->Value} {venc:β->Value} {d:TypeDesc} (H:∀ a b,Instr.sameNow d (kenc a) (kenc b)=some (decide (a=b))) (k:κ) :
  ∀ (E:List MapEntry) (es:List (κ × β)) (i:Nat),E.map (λe=>(e.key,e.val))=es.map (λp=>(kenc p.1,venc p.2))->Instr.findNow d (kenc k) E i=some ((ny k es i).map λq=>(q.1,venc q.2))
 | [],[],i,_=>rfl
 | [],_::_,_,h=>by simp at h
 | _::_,[],_,h=>by simp at h
 | e::E,p::es,i,h=>by
  simp only [List.map_cons,List.cons.injEq,Prod.mk.injEq] at h;obtain ⟨⟨N,M⟩,O⟩:=h;unfold Instr.findNow ny;rw [N,H];by_cases K:k=p.1
  ·simp [K,M]
  ·simp only [K,decide_false,if_false];exact ao6 (P:=P) (kt:=kt) H k E es (i+1) O
variable {P:Program} {a:Act} {w w0:World} {hz:kR} {L:List Ch} {o:Oper} {n:Nat} {l:Env} {x y z:Operand} {t kt vt:TypeId} {kenc:κ->Value} {venc:β->Value} {r:Nat} {es:List (κ × β)}
theorem qI (H:cr8 P kt kenc) {E:List MapEntry} (K:E.map (λe=>(e.key,e.val))=es.map (λp=>(kenc p.1,venc p.2))) (k:κ) (w:World) :
  (Instr.findKey kt (kenc k) E).run P w=.ok ((ny k es 0).map λq=>(q.1,venc q.2)) w:=by
 obtain ⟨d,N,M⟩:=H.und;have h:=ao6 (P:=P) (kt:=kt) (venc:=venc) M k E es 0 K;simp [Instr.findKey,run_underlying N,h]
end
theorem o8 {P:Program} {kt:TypeId} (h:P.underlying kt=some (.int .i64)):cr8 P kt (Value.int .i64) where
 check n e k w:=by
  unfold Instr.checkKey;simp [run_underlying h]
 und:=⟨_,h,λa b=>by simp [Instr.sameNow];rfl⟩
 bits a:=by simp [Instr.sameBits]
section
variable {P:Program} {l:Env} {w:World} {o:Oper} {x y:Operand} {t t' s:TypeId} {k':IntKind} {i:Int} {b c:UInt8}
end
section
variable {P:Program} {fn:Func} {R:Value->World->Prop} {a:Act} {w w0:World} {hz:kR} {L:List Ch} {n:Nat} {l:Env} {v2 v3:Value} {t t2 t3:Nat}
end
end Go.Wk
namespace Go.Wk
open Go Go.RowKit
section
variable {α β:Type} [GT α] [GT β] {F:Nat->Prop} {h:kR} {cs cs' ds ds':List Value} {x x':α} {y y':β}
theorem zy (hl:cs.length=GT.sz α) (N:GT.own F h (cs++ds) (x,y)):∃ G H:Nat->Prop,(∀ b,G b->F b)/\(∀ b,H b->F b)/\(∀ b,G b->¬ H b)/\GT.own G h cs x/\GT.own H h ds y:=by
 obtain ⟨c,d,W,G,H,O,M,g3,K,h2⟩:=N;have hc:c.length=GT.sz α:=GT.len (GT.own_rep K);obtain ⟨rfl,rfl⟩:=List.append_inj W.symm (by rw [hc,hl]);exact ⟨G,H,O,M,g3,K,h2⟩
theorem pA (O:cs.length=GT.sz α) (f:∀ G:Nat->Prop,GT.own G h cs x->GT.own G h cs' x') (M:GT.own F h (cs++ds) (x,y)):GT.own F h (cs'++ds) (x',y):=by
 obtain ⟨G,H,N,K,g3,h1,W⟩:=zy O M;exact ⟨cs',ds,rfl,G,H,N,K,g3,f G h1,W⟩
theorem ng (O:cs.length=GT.sz α) (f:∀ G:Nat->Prop,GT.own G h ds y->GT.own G h ds' y') (M:GT.own F h (cs++ds) (x,y)):GT.own F h (cs++ds') (x,y'):=by
 obtain ⟨G,H,N,K,g3,h1,W⟩:=zy O M;exact ⟨cs,ds',rfl,G,H,N,K,g3,h1,f H W⟩
end
end Go.Wk
namespace Go.Wk
open Go Go.RowKit
section
variable {α β γ:Type} [GT α] [GT β] [GT γ] {h:kR}
variable {w0 w:World} {hz:kR} {L:List Ch}
theorem kS.inj {b o:Nat} {cs ds:List Value} (h1:kS h b o cs) (N:kS h b o ds) (hl:cs.length=ds.length):cs=ds:=by
 obtain ⟨C,T,_,M,e2⟩:=h1;obtain ⟨_,_,_,H,e4⟩:=N;rw [M] at H;simp only [osI,Obj.cells.injEq] at H;obtain ⟨rfl,_,_⟩:=H;apply List.ext_getElem?;intro j;by_cases K:j<cs.length
 ·have O:=e2 j _ (List.getElem?_eq_getElem K);have W:=e4 j _ (List.getElem?_eq_getElem (show j<ds.length by omega));rw [List.getElem?_eq_getElem K,List.getElem?_eq_getElem (show j<ds.length by omega),<- O,<- W]
 ·rw [List.getElem?_eq_none (by omega),List.getElem?_eq_none (by omega)]
theorem nA {v:Value} (H:v.oneCell'=true):v.cells=[v].toArray:=by cases v<;>first | rfl | cases H
end
end Go.Wk
namespace Go.Wk
open Go
section
variable {S X:Type} {body:Int->S->Option (S ⊕ X)} {k:Nat} {i:Int} {s:S}
theorem x9 {H:S} (h:body i s=some (.inl H)):kO body (k+1) i s=kO body k (i+1) H:=by simp [kO,h]
theorem ar4 {x:X} (h:body i s=some (.inr x)):kO body (k+1) i s=some (.inr x):=by simp [kO,h]
theorem np (I:Int->S->Prop) (Q:X->Prop) (h0:I i s)
  (hs:∀ j s,i<=j->j<i+k->I j s->(∃ H,body j s=some (.inl H)/\I (j+1) H)\/∃ x,body j s=some (.inr x)/\Q x) :
  (∃ H,kO body k i s=some (.inl H)/\I (i+k) H)\/∃ x,kO body k i s=some (.inr x)/\Q x:=by
 induction k generalizing i s with
 | zero=>exact .inl ⟨s,rfl,by simpa using h0⟩
 | succ k N =>
  rcases hs i s (by omega) (by omega) h0 with ⟨H,M,K⟩ | ⟨x,M,K⟩
  ·rw [x9 M];have:=N K (λj s _ _ O=>hs j s (by omega) (by omega) O)
   rwa [show i+1+(k:Int)=i+((k+1:Nat):Int) by omega] at this
  ·rw [ar4 M];exact .inr ⟨x,rfl,K⟩
theorem oE (I:Int->S->Prop) (h0:I i s)
  (hs:∀ j s,i<=j->j<i+k->I j s->∃ H,body j s=some (.inl H)/\I (j+1) H) :
  ∃ H,kO body k i s=some (.inl H)/\I (i+k) H:=by
 rcases np (Q:=λ_=>False) I h0 (λj s M K N=>.inl (hs j s M K N)) with h | ⟨_,_,h⟩
 ·exact h
 ·exact h.elim
end
section
variable {α β:Type} {xs ys:List α} {x:α} {j:Int} {n:Nat}
theorem bi9:jr xs (n:Int)=xs[n]?:=by simp [jr]
theorem az7 (h0:0<=j) (h:j<(xs.length:Int)):jr xs j=some (xs[j.toNat]'(by omega)):=by
 rw [jr,if_pos h0,List.getElem?_eq_getElem]
theorem kV (h0:0<=j) (h:j<(xs.length:Int)):∃ x,jr xs j=some x/\xs[j.toNat]?=some x/\x∈xs :=
 ⟨_,az7 h0 h,List.getElem?_eq_getElem (by omega),List.getElem_mem _⟩
theorem nW {z:α} {n:Int} (h0:0<=n) (h:n<=2147483648):oJ z n=some (List.replicate n.toNat z):=if_pos ⟨h0,h⟩
theorem ka (h:xs.length+ys.length<=2147483648):k8 xs ys=some (xs++ys):=if_pos h
theorem lB {S X:Type} {body:Int->S->Option (S ⊕ X)} {s:S} (I:List α->S->Prop) (Q:X->Prop) (h0:I [] s)
  (hs:∀ (l:List α) x r s,xs=l++x::r->I l s->(∃ H,body (l.length:Int) s=some (.inl H)/\I (l++[x]) H)\/∃ y,body (l.length:Int) s=some (.inr y)/\Q y) :
  (∃ H,kO body ((xs.length:Int) - 0).toNat 0 s=some (.inl H)/\I xs H)\/∃ y,kO body ((xs.length:Int) - 0).toNat 0 s=some (.inr y)/\Q y:=by
 have e:((xs.length:Int) - 0).toNat=xs.length:=by omega
 rw [e]
 rcases np (body:=body) (k:=xs.length) (i:=0) (s:=s) (λj s=>I (xs.take j.toNat) s) Q (by simpa using h0) (λj s W O h3=>by
  have N:j.toNat<xs.length:=by omega
  have hx:xs=xs.take j.toNat++xs[j.toNat]::xs.drop (j.toNat+1):=by
   rw [<- List.drop_eq_getElem_cons N,List.take_append_drop]
  have hn:((xs.take j.toNat).length:Int)=j:=by simp;omega
  have:=hs _ _ _ s hx h3;rw [hn] at this;rcases this with ⟨H,K,M⟩ | ⟨y,K,M⟩
  ·refine .inl ⟨H,K,?_⟩;rw [show (j+1).toNat=j.toNat+1 by omega,List.take_succ_eq_append_getElem N];exact M
  ·exact .inr ⟨y,K,M⟩) with ⟨H,W,O⟩ | h
 ·refine .inl ⟨H,W,?_⟩;have:((0:Int)+(xs.length:Int)).toNat=xs.length:=by omega
  simpa [this] using O
 ·exact .inr h
theorem kK {l r:List α}:jr (l++x::r) (l.length:Int)=some x:=by
 rw [bi9,List.getElem?_append_right (Nat.le_refl _)];simp
theorem cj9 {X:Type} {body:Int->List β->Option (List β ⊕ X)} (f:α->β) {z:β}
  (W:∀ (l:List α) x r ys,xs=l++x::r->l.length<ys.length->body (l.length:Int) ys=some (.inl (ys.set l.length (f x)))) :
  kO body ((xs.length:Int) - 0).toNat 0 (List.replicate xs.length z)=some (.inl (xs.map f)):=by
 rcases lB (xs:=xs) (body:=body) (s:=List.replicate xs.length z) (λl ys=>∃ r,xs=l++r/\ys=l.map f++List.replicate r.length z) (λ_=>False)
  ⟨xs, rfl, by simp⟩ (fun l x r ys M ⟨N, K, H⟩ => .inl (by
   have O:N=x::r:=by
    rw [M] at K;exact (List.append_cancel_left K).symm
   subst O;refine ⟨_,W l x r ys M (by rw [H];simp),r,by simpa using M,?_⟩;subst H;rw [List.set_append_right _ _ (by simp)]
   simp [List.replicate_succ])) with ⟨s',K,r,H,h3⟩ | ⟨_,_,h⟩
 ·have:r=[]:=by
   have:=congrArg List.length H;simp at this;exact this
  subst this;rw [K,h3];simp
 ·exact h.elim
theorem sA {X:Type} {body:Int->Unit->Option (Unit ⊕ X)} (p:α->Bool) (e:Int->X)
  (M:∀ (l:List α) x r,xs=l++x::r->body (l.length:Int) ()=if p x then some (.inr (e (l.length:Int))) else some (.inl ())) :
  (xs.any p=false/\kO body ((xs.length:Int) - 0).toNat 0 ()=some (.inl ())) \/
   ∃ (l:List α) (x:α) (r:List α),xs=l++x::r/\l.any p=false/\p x=true/\kO body ((xs.length:Int) - 0).toNat 0 ()=some (.inr (e (l.length:Int))):=by
 rcases lB (xs:=xs) (body:=body) (s:=()) (λl _=>l.any p=false) (λy=>∃ (l:List α) (x:α) (r:List α),xs=l++x::r/\l.any p=false/\p x=true/\y=e (l.length:Int)) rfl (λl x r s H K=>by
  have:=M l x r H;cases hp:p x with
  | true =>
   rw [hp] at this;exact .inr ⟨_,by simpa using this,l,x,r,H,K,hp,rfl⟩
  | false =>
   rw [hp] at this
   exact .inl ⟨(),by simpa using this,by simp [K,hp]⟩) with ⟨s',h1,h2⟩ | ⟨y,h1,l,x,r,h2,h3,h4,rfl⟩
 ·exact .inl ⟨h2,h1⟩
 ·exact .inr ⟨l,x,r,h2,h3,h4,h1⟩
theorem cb3 {X:Type} {body:Int->Unit->Option (Unit ⊕ X)} (e:X) [DecidableEq α] (O:xs.length=ys.length)
  (hb:∀ (l:List α) x r l' y r',xs=l++x::r->ys=l'++y::r'->l.length=l'.length->body (l.length:Int) ()=if x=y then some (.inl ()) else some (.inr e)) :
  kO body ((xs.length:Int) - 0).toNat 0 ()=if xs=ys then some (.inl ()) else some (.inr e):=by
 rcases lB (xs:=xs) (body:=body) (s:=()) (λl _=>ys.take l.length=l) (λy=>y=e/\xs≠ys) rfl (λl x r s M N=>by
  have K:l.length<ys.length:=by rw [<- O,M];simp
  have W:ys=l++ys[l.length]::ys.drop (l.length+1):=by
   rw [<- List.drop_eq_getElem_cons K]
   conv=>lhs;rw [<- List.take_append_drop l.length ys]
   rw [N]
  have:=hb l x r l ys[l.length] _ M W rfl;by_cases H:x=ys[l.length]
  ·rw [if_pos H] at this;refine .inl ⟨(),this,?_⟩;rw [List.length_append,List.length_singleton,List.take_succ_eq_append_getElem K,N,<- H]
  ·rw [if_neg H] at this;refine .inr ⟨e,this,rfl,?_⟩;intro h;rw [M,W] at h;have:=List.append_cancel_left h;simp only [List.cons.injEq] at this
   exact H this.1) with ⟨s',h1,K⟩ | ⟨y,h1,rfl,h3⟩
 ·have:xs=ys:=by
   rw [<- K,O,List.take_length]
  rw [h1,if_pos this]
 ·rw [h1,if_neg h3]
end
theorem cg6 {S T X Y:Type} {b1:Int->S->Option (S ⊕ X)} {b2:Int->T->Option (T ⊕ Y)} {k:Nat} {i:Int} {s:S} {t:T} (R:Int->S->T->Prop) (h0:R i s t)
  (hs:∀ j s t,i<=j->j<i+k->R j s t->∃ H t',b1 j s=some (.inl H)/\b2 j t=some (.inl t')/\R (j+1) H t') :
  ∃ H t',kO b1 k i s=some (.inl H)/\kO b2 k i t=some (.inl t')/\R (i+k) H t':=by
 induction k generalizing i s t with
 | zero=>exact ⟨s,t,rfl,rfl,by simpa using h0⟩
 | succ k W =>
  obtain ⟨H,t',h1,h2,h3⟩:=hs i s t (by omega) (by omega) h0;rw [x9 h1,x9 h2];obtain ⟨O,t2,N,M,g3⟩:=W h3 (λj s t _ _ K=>hs j s t (by omega) (by omega) K);exact ⟨O,t2,N,M,by rwa [show i+1+(k:Int)=i+((k+1:Nat):Int) by omega] at g3⟩
section
variable {α:Type}
def mkL (f:Int->α->α) (s:α->Nat):List α->Int->List α
 | [],_=>[]
 | x::r,k=>f k x::mkL f s r (k+s x)
def lD (s:α->Nat):List α->Nat
 | []=>0
 | x::r=>s x+lD s r
theorem ya (f:Int->α->α) (s:α->Nat) (a:List α) (k:Int):(mkL f s a k).length=a.length:=by
 induction a generalizing k with
 | nil=>rfl
 | cons x r H=>simp [mkL,H]
theorem ud (s:α->Nat) (l r:List α):lD s (l++r)=lD s l+lD s r:=by
 induction l with
 | nil=>simp [lD]
 | cons x l H=>simp [lD,H];omega
theorem as2 (f:Int->α->α) (s:α->Nat) (l r:List α) (k:Int):mkL f s (l++r) k=mkL f s l k++mkL f s r (k+lD s l):=by
 induction l generalizing k with
 | nil=>simp [mkL,lD]
 | cons x l H =>
  simp only [List.cons_append,mkL,H,lD,List.cons.injEq,true_and]
  congr 2
  omega
theorem by9 {X:Type} {body:Int->List α × Int->Option ((List α × Int) ⊕ X)} (f:Int->α->α) (s:α->Nat) (B:Int) {a:List α} {k:Int} (hk:0<=k) (hB:k+lD s a<=B)
  (hb:∀ (l:List α) x r (k:Int),0<=k->k+s x<=B->body (l.length:Int) (l++x::r,k)=some (.inl (l++f k x::r,k+s x))) :
  kO body ((a.length:Int) - 0).toNat 0 (a,k)=some (.inl (mkL f s a k,k+lD s a)):=by
 rcases lB (xs:=a) (body:=body) (s:=(a,k)) (λl N=>∃ r,a=l++r/\N=(mkL f s l k++r,k+lD s l)) (λ_=>False)
  ⟨a, rfl, by simp [mkL, lD]⟩ (fun l x r N K ⟨W, H, M⟩ => .inl (by
   have hr:W=x::r:=by
    rw [K] at H;exact (List.append_cancel_left H).symm
   subst hr;have O:lD s a=lD s l+(s x+lD s r):=by rw [K,ud];rfl
   have:=hb (mkL f s l k) x r (k+lD s l) (by omega) (by omega);rw [ya] at this;refine ⟨_,by rw [M];exact this,r,by simpa using K,?_⟩;rw [as2,ud];simp only [mkL,lD,List.append_assoc,List.cons_append,List.nil_append,Prod.mk.injEq,true_and]
   omega)) with ⟨N,H,r,M,h3⟩ | ⟨_,_,h⟩
 ·have:r=[]:=by
   have:=congrArg List.length M;simp at this;exact this
  subst this;rw [H,h3];simp
 ·exact h.elim
theorem vj {X:Type} {body:Int->Int->Option (Int ⊕ X)} (f:Int->α->α) (s:α->Nat) (B:Int) {a:List α} {k:Int} (W:0<=k) (hB:k+lD s a<=B)
  (O:∀ (l:List α) x r (j:Int),mkL f s a k=l++f j x::r->0<=j->j+s x<=B->body (l.length:Int) j=some (.inl (j+s x))) :
  kO body (((mkL f s a k).length:Int) - 0).toNat 0 k=some (.inl (k+lD s a)):=by
 rw [ya]
 rcases lB (xs:=a) (body:=body) (s:=k) (λl K=>K=k+lD s l) (λ_=>False)
  (by simp [lD]) (fun l x r K M H => .inl (by
   subst H;have N:lD s a=lD s l+(s x+lD s r):=by rw [M,ud];rfl
   have:=O (mkL f s l k) x (mkL f s r (k+lD s l+s x)) (k+lD s l) (by rw [M,as2];rfl) (by omega) (by omega);rw [ya] at this;refine ⟨_,this,?_⟩;rw [ud];simp only [lD]
   omega)) with ⟨K,h1,H⟩ | ⟨_,_,h⟩
 ·rw [h1,H]
 ·exact h.elim
theorem as1 (c:Nat) (a:List α):lD (λ_=>c) a=c*a.length:=by
 induction a with
 | nil=>rfl
 | cons x r H=>simp only [lD,H,List.length_cons,Nat.mul_add];omega
theorem nH {l r:List α} {x y:α}:(l++x::r).set l.length y=l++y::r:=by
 rw [List.set_append_right _ _ (Nat.le_refl _)];simp
end
theorem sR {S X:Type} {body:S->Option (S ⊕ X)} {s H:S} (h:body s=some (.inl H)):kx body s=kx body H:=by
 rw [wU,h]
theorem rH {S X:Type} {body:S->Option (S ⊕ X)} {s:S} {x:X} (h:body s=some (.inr x)):kx body s=some x:=by
 rw [wU,h]
theorem cs1 {α β:Type} {o o':Option α} {f:α->Option β} (h:o=o'):Option.bind o f=Option.bind o' f:=by rw [h]
theorem kN {α β:Type} {o:Option α} {a:α} {f:α->Option β} {b:Option β} (h:o=some a) (H:f a=b):Option.bind o f=b:=by rw [h];exact H
end Go.Wk
