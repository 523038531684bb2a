/- A part of the proof of FnExactSingleUnitSaid. -/
import Derived.Test.YtkihhabnfheieaaGreatSuAb
import Derived.Test.YtkihhabnfheieaaGreatSuA
import Derived.Test.YtkihhabnfheieaaGreatWkAd
namespace Go.Wk
open Go
namespace Unt
set_option maxRecDepth 10000
open Classical
def mkN:List kD->Nat
 | []=>0
 | y::l=>(if kb y.op=true then 1 else 0)+mkN l
def ac2 (x:jq):Nat:=x.a.length+mkN x.i
theorem bq3:∀ (l l2:List kD),mkN (l++l2)=mkN l+mkN l2
 | [],l2=>by simp [mkN]
 | y::l,l2=>by simp only [List.cons_append,mkN,bq3 l l2];omega
theorem ba9:∀ (l:List kD) (m:Int->Int) (n:Int),(nIn l m n).2.2=n+mkN l
 | [],m,n=>by simp [nIn,mkN]
 | y::l,m,n=>by
  unfold nIn mkN;by_cases e:kb y.op=true
  ·rw [if_pos e,if_pos e];show (nIn l _ _).2.2=_;rw [ba9 l];omega
  ·rw [if_neg e,if_neg e];show (nIn l _ _).2.2=_;rw [ba9 l];omega
theorem cw4 (x:jq) (m:Int->Int) (n:Int):(nBl x m n).2.2=n+ac2 x:=by
 show (nIn x.i _ _).2.2=_;rw [ba9,(pn x.a m n).2];unfold ac2;omega
theorem aj1:∀ (l l2:List kD) (m:Int->Int) (n:Int),nIn (l++l2) m n=((nIn l m n).1++(nIn l2 (nIn l m n).2.1 (nIn l m n).2.2).1,(nIn l2 (nIn l m n).2.1 (nIn l m n).2.2).2)
 | [],l2,m,n=>rfl
 | y::l,l2,m,n=>by
  rw [List.cons_append,nIn,nIn];by_cases e:kb y.op=true
  ·rw [if_pos e,if_pos e,aj1 l l2];rfl
  ·rw [if_neg e,if_neg e,aj1 l l2];rfl
theorem bt4:∀ (l:List kA) (m:Int->Int) (n r:Int),((nPh l m n).2.1 r=m r/\¬ ∃ f∈l,f.to=r)\/(n<=(nPh l m n).2.1 r/\(nPh l m n).2.1 r<n+l.length)
 | [],m,n,r=>.inl ⟨rfl,λ⟨_,h,_⟩=>by simp at h⟩
 | f::l,m,n,r=>by
  show ((nPh l (upd m f.to n) (n+1)).2.1 r=m r/\_)\/(n<=(nPh l (upd m f.to n) (n+1)).2.1 r/\(nPh l (upd m f.to n) (n+1)).2.1 r<n+((f::l).length:Int));rw [List.length_cons];rcases bt4 l (upd m f.to n) (n+1) r with ⟨L,M⟩ | h
  ·by_cases e:r=f.to
   ·right;rw [L];unfold upd;rw [if_pos e];omega
   ·left;rw [L];unfold upd;rw [if_neg e];refine ⟨rfl,λ⟨g,H,K⟩=>?_⟩;rcases List.mem_cons.1 H with rfl | H
    ·exact e K.symm
    ·exact M ⟨g,H,K⟩
  ·right;omega
theorem az3:∀ (l:List kD) (m:Int->Int) (n r:Int),((nIn l m n).2.1 r=m r/\¬ ∃ y∈l,kb y.op=true/\y.to=r)\/(n<=(nIn l m n).2.1 r/\(nIn l m n).2.1 r<n+mkN l)
 | [],m,n,r=>.inl ⟨rfl,λ⟨_,h,_⟩=>by simp at h⟩
 | y::l,m,n,r=>by
  unfold nIn mkN;by_cases e:kb y.op=true
  ·rw [if_pos e,if_pos e];dsimp only;rcases az3 l (upd m y.to n) (n+1) r with ⟨L,M⟩ | h
   ·by_cases N:r=y.to
    ·right;rw [L];unfold upd;rw [if_pos N];omega
    ·left;rw [L];unfold upd;rw [if_neg N];refine ⟨rfl,λ⟨g,H,K⟩=>?_⟩;rcases List.mem_cons.1 H with rfl | H
     ·exact N K.2.symm
     ·exact M ⟨g,H,K⟩
   ·right;omega
  ·rw [if_neg e,if_neg e];dsimp only;rcases az3 l m n r with ⟨L,M⟩ | h
   ·left;refine ⟨L,λ⟨g,H,K⟩=>?_⟩;rcases List.mem_cons.1 H with rfl | H
    ·exact e K.1
    ·exact M ⟨g,H,K⟩
   ·right;omega
theorem bq7 {r b:Int}:∀ {l l2:List kA},l.map (·.to)=l2.map (·.to)->qf r b l=qf r b l2
 | [],[],_=>rfl
 | [],_::_,h=>by simp at h
 | _::_,[],h=>by simp at h
 | f::l,g::l2,h=>by
  simp only [List.map_cons,List.cons.injEq] at h;unfold qf;rw [h.1,bq7 h.2]
theorem yr {v b : Int} : ∀ (l : List kA) (m : Int -> Int) (n : Int), qf v b (nPh l m n).1 = if n <= v /\ v < n + l.length then [⟨b, -1⟩] else []
 | [],m,n=>by rw [if_neg (by simp)];rfl
 | f::l,m,n=>by
  show qf v b (⟨n,f.A⟩::(nPh l (upd m f.to n) (n+1)).1)=_;unfold qf;rw [yr l,List.length_cons];by_cases e:n=v
  ·rw [if_pos e,if_neg (by omega),if_pos (by omega)]
  ·rw [if_neg e];by_cases H:n+1<=v/\v<n+1+l.length
   ·rw [if_pos H,if_pos (by omega)]
   ·rw [if_neg H,if_neg (by omega)]
theorem av3 {r b:Int}:∀ {l l2:List kD} {i:Int},qK r b (l++l2) i=qK r b l i++qK r b l2 (i+l.length)
 | [],l2,i=>by simp [qK]
 | y::l,l2,i=>by
  have h:=av3 (r:=r) (b:=b) (l:=l) (l2:=l2) (i:=i+1);have e:i+1+(l.length:Int)=i+((y::l).length:Int):=by rw [List.length_cons];omega
  rw [e] at h;show (if kb y.op=true/\y.to=r then (⟨b,i⟩:kf)::qK r b (l++l2) (i+1) else qK r b (l++l2) (i+1))=(if kb y.op=true/\y.to=r then (⟨b,i⟩:kf)::qK r b l (i+1) else qK r b l (i+1))++qK r b l2 (i+((y::l).length:Int));rw [h];by_cases H:kb y.op=true/\y.to=r
  ·rw [if_pos H,if_pos H];rfl
  ·rw [if_neg H,if_neg H]
theorem sL {v b:Int}:∀ (l:List kD) (m:Int->Int) (n i:Int),(n<=v/\v<n+mkN l->∃ j,i<=j/\j<i+l.length/\qK v b (nIn l m n).1 i=[⟨b,j⟩])/\(¬ (n<=v/\v<n+mkN l)->qK v b (nIn l m n).1 i=[])
 | [],m,n,i=>⟨λh=>by simp [mkN] at h;omega,λ_=>rfl⟩
 | y::l,m,n,i=>by
  unfold nIn mkN;by_cases e:kb y.op=true
  ·rw [if_pos e,if_pos e];obtain ⟨K,H⟩:=sL (v:=v) (b:=b) l (upd m y.to n) (n+1) (i+1);dsimp only;unfold qK;dsimp only;rw [List.length_cons];by_cases M:n=v
   ·rw [if_pos ⟨e, M⟩, H (by omega)];exact ⟨λ_=>⟨i,Int.le_refl _,by omega,rfl⟩,λh=>by omega⟩
   ·rw [if_neg λh=>M h.2];refine ⟨λh=>?_,λh=>H (by omega)⟩;obtain ⟨j,N,O,L⟩:=K (by omega);exact ⟨j,by omega,by omega,L⟩
  ·rw [if_neg e,if_neg e];obtain ⟨K,H⟩:=sL (v:=v) (b:=b) l m n (i+1);dsimp only;unfold qK;dsimp only;rw [List.length_cons,if_neg λh=>e h.1];refine ⟨λh=>?_,λh=>H (by omega)⟩;obtain ⟨j,N,O,L⟩:=K (by omega);exact ⟨j,by omega,by omega,L⟩
def plB (v b:Int) (x:jq):List kf:=qf v b x.a++qK v b x.i 0
theorem an3 {v:Int}:∀ {l:List jq} {i:Int},(∀ (j:Nat) x,l[j]?=some x->plB v (i+j) x=[])->plF v l i=[]
 | [],_,_=>rfl
 | x::l,i,h=>by
  have h0:=h 0 x rfl;rw [show i+((0:Nat):Int)=i by omega] at h0
  have H:plF v l (i+1)=[]:=an3 λj y e=>by
   have:=h (j+1) y (by simpa using e)
   rwa [show i+((j+1:Nat):Int)=i+1+j by omega] at this
  show plB v i x++plF v l (i+1)=[];rw [h0,H];rfl
theorem br5 {v b:Int} {q:List kf}:∀ {l:List jq} {i:Int},(∀ (j:Nat) x,l[j]?=some x->i+j≠b->plB v (i+j) x=[])->(∀ (j:Nat) x,l[j]?=some x->i+j=b->plB v b x=q)->i<=b->b<i+l.length->plF v l i=q
 | [],i,_,_,h1,h2=>by simp at h2;omega
 | x::l,i,h,h',h1,h2=>by
  have hc:∀ (j:Nat),i+((j+1:Nat):Int)=i+1+j:=λj=>by omega
  rw [List.length_cons] at h2;show plB v i x++plF v l (i+1)=q;by_cases e:i=b
  ·have h0 := h' 0 x rfl (by omega)
   have K:plF v l (i+1)=[]:=an3 λj y H=>by
    have:=h (j+1) y (by simpa using H) (by omega)
    rwa [hc] at this
   rw [e] at K ⊢;rw [h0,K,List.append_nil]
  ·have h0 := h 0 x rfl (by omega);rw [show i+((0:Nat):Int)=i by omega] at h0;rw [h0,List.nil_append];refine br5 (λj y H _=>?_) (λj y H _=>h' (j+1) y (by simpa using H) (by omega)) (by omega) (by omega);have:=h (j+1) y (by simpa using H) (by omega)
   rwa [hc] at this
structure cp4 (c:jv) (l:List Int) (S:NS) (st:Int->Int):Prop where
 len:S.B.length=c.b.length
 B:∀ b∈l,jr S.B b=some (nBl (kX c b) (mR c S b) (st b)).1
 E:∀ b∈l,S.E b=(nBl (kX c b) (mR c S b) (st b)).2.1
 lo:∀ b∈l,c.P<=st b
 hi:∀ b∈l,st b+ac2 (kX c b)<=S.nx
 dis:∀ a∈l,∀ b∈l,a≠b->st a+ac2 (kX c a)<=st b\/st b+ac2 (kX c b)<=st a
 nx:c.P<=S.nx
theorem cs0 {c:jv}:∀ {l:List Int} {P:Int->Prop},PF c P l->∀ x∈l,idf c x<0\/P (idf c x)\/idf c x∈l
 | [],_,_,_,h=>by simp at h
 | y::l,P,hp,x,h=>by
  rcases List.mem_cons.1 h with rfl | h
  ·exact hp.1.imp id .inl
  ·rcases cs0 hp.2 x h with e | (e | e) | e
   ·exact .inl e
   ·exact .inr (.inl e)
   ·exact .inr (.inr (by rw [e];exact List.mem_cons_self))
   ·exact .inr (.inr (List.mem_cons_of_mem _ e))
theorem ax8 {c:jv}:∀ (l:List Int),l.Nodup->(∀ b∈l,0<=b/\b<(c.b.length:Int))->PF c (λ_=>False) l->∃ st,cp4 c l (kr c l) st:=by
 intro l
 induction l using aj4 with
 | h0=>intro _ _ _;exact ⟨λ_=>0,⟨rfl,by simp,by simp,by simp,by simp,by simp,Int.le_refl _⟩⟩
 | hs l b ih =>
  intro a1 hr a0;obtain ⟨n1,_,n3⟩:=List.nodup_append.1 a1;have W:b ∉ l:=λh=>n3 b h b (by simp) rfl
  obtain ⟨p1,p2⟩:=ba0.1 a0;obtain ⟨st,i0,i1,i2,i3,i4,i5,i6⟩:=ih n1 (λx H=>hr x (List.mem_append_left _ H)) p1;have hb:=hr b (by simp);rw [qR]
  generalize kr c l=S at *
  have L:∀ x∈l++[b],mR c (qq c S b) x=mR c S x:=λx H=>by
   have hi:idf c x<0\/idf c x∈l:=by
    rcases List.mem_append.1 H with h | h
    ·exact (cs0 p1 x h).imp id λh=>h.resolve_left id
    ·rw [List.mem_singleton.1 h];exact p2.1.imp id λh=>h.resolve_left id
   unfold mR;by_cases e:0<=idf c x
   ·rw [if_pos e,if_pos e];have hm:=hi.resolve_left (by omega);show (if idf c x=b then _ else S.E (idf c x))=_;rw [if_neg λ(h:idf c x=b)=>W (h▸hm)]
   ·rw [if_neg e,if_neg e]
  have hnx:(qq c S b).nx=S.nx+ac2 (kX c b):=cw4 _ _ _;refine ⟨λj=>if j=b then S.nx else st j,⟨by show (List.set _ _ _).length=_;rw [List.length_set];exact i0,λx H=>?_,λx H=>?_,λx H=>?_,λx H=>?_,λx H y hy O=>?_,by omega⟩⟩
  ·rw [L x H]
   try dsimp only
   by_cases e:x=b
   ·subst e;rw [if_pos rfl];exact jz.2 ⟨hb.1,List.getElem?_set_self (by omega)⟩
   ·rw [if_neg e];have K:x∈l:=(List.mem_append.1 H).resolve_right λh=>e (List.mem_singleton.1 h)
    have N:=hr x H;rw [<- i1 x K];show jr (List.set _ _ _) x=_;unfold jr;rw [if_pos N.1,if_pos N.1,List.getElem?_set_ne (by omega)]
  ·rw [L x H]
   try dsimp only
   show (if x=b then (nBl (kX c b) (mR c S b) S.nx).2.1 else S.E x)=_;by_cases e:x=b
   ·subst e;rw [if_pos rfl,if_pos rfl]
   ·rw [if_neg e,if_neg e];exact i2 x ((List.mem_append.1 H).resolve_right λh=>e (List.mem_singleton.1 h))
  ·try dsimp only
   by_cases e:x=b
   ·rw [if_pos e];exact i6
   ·rw [if_neg e];exact i3 x ((List.mem_append.1 H).resolve_right λh=>e (List.mem_singleton.1 h))
  ·try dsimp only
   rw [hnx];by_cases e:x=b
   ·subst e;rw [if_pos rfl];exact Int.le_refl _
   ·rw [if_neg e];have:=i4 x ((List.mem_append.1 H).resolve_right λh=>e (List.mem_singleton.1 h));omega
  ·try dsimp only
   by_cases e:x=b
   ·by_cases M:y=b
    ·exact absurd (e.trans M.symm) O
    ·rw [if_pos e,if_neg M,e];have:=i4 y ((List.mem_append.1 hy).resolve_right λh=>M (List.mem_singleton.1 h));omega
   ·have K:=(List.mem_append.1 H).resolve_right λh=>e (List.mem_singleton.1 h)
    by_cases M:y=b
    ·rw [if_neg e,if_pos M,M];have:=i4 x K;omega
    ·rw [if_neg e,if_neg M];exact i5 x K y ((List.mem_append.1 hy).resolve_right λh=>M (List.mem_singleton.1 h)) O
end Unt
end Go.Wk
namespace Go.Wk
open Go
namespace Unt
set_option maxRecDepth 10000
open Classical
def cz6 (c:jv) (b:Int) (l2:List kD) (r:Int):Prop :=
 (∃ y l,l2=y::l/\r∈y.A)\/(l2=[]/\(((kX c b).j≠1/\r=(kX c b).on)\/∃ (n:Int) (f:kA) (i:Nat),(0<=n/\n<(c.b.length:Int))/\f∈(kX c n).a/\(kH c n)[i]?=some b/\f.A[i]?=some r))
def ci3 (c:jv):Prop:=∀ b,0<=b->b<(c.b.length:Int)->∀ l1 l2,(kX c b).i=l1++l2->∀ r,cz6 c b l2 r->¬ (0<=r/\r<c.P)->(¬ ∃ f∈(kX c b).a,f.to=r)->(¬ ∃ y∈l1,kb y.op=true/\y.to=r) ->
 ∃ a,a≠b/\(0<=a/\a<(c.b.length:Int))/\D c a b/\bl3 (kX c a) r
section
variable {c:jv} {S:NS} {st:Int->Int} (hall:∀ b:Int,0<=b->b<(c.b.length:Int)->oW c b=true) (hN:cp4 c (nM c (c.b.length+1) 0) S st)
include hall hN
theorem xG {b:Int} (e:0<=b) (b1:b<(c.b.length:Int)):sN S.B b=(nBl (kX c b) (mR c S b) (st b)).1:=by
 unfold sN;rw [hN.B b (an0 hall e b1)];rfl
theorem ax6:qv c (vm c S):=by
 unfold qv;rw [show c.b.map (·.n)=(tab c.b.length (kX c)).map (·.n) from congrArg _ (ai8 c)];show (tab c.b.length (tg c S)).map (·.n)=_;unfold tab;rw [List.map_map,List.map_map];refine List.map_congr_left λj H=>?_
 have e:=List.mem_range.1 H;show (tg c S (j:Int)).n=(kX c (j:Int)).n;unfold tg;dsimp only;rw [xG hall hN (by omega) (by omega)];rfl
omit hall hN in
theorem aj6 {b:Int} (e:0<=b) (b1:b<(c.b.length:Int)):jr (vm c S).b b=some (tg c S b):=lf e b1
theorem bt7 {v b:Int} (e:0<=b) (b1:b<(c.b.length:Int)):plB v b (tg c S b)=qf v b (nPh (kX c b).a (mR c S b) (st b)).1++qK v b (nIn (kX c b).i (nPh (kX c b).a (mR c S b) (st b)).2.1 (nPh (kX c b).a (mR c S b) (st b)).2.2).1 0:=by
 unfold plB tg;rw [xG hall hN e b1];dsimp only
 congr 1
 refine bq7 ?_;rw [List.map_map];exact List.map_congr_left λf _=>rfl
theorem cf6 {v b:Int} (e:0<=b) (b1:b<(c.b.length:Int)) (h:v<st b\/st b+ac2 (kX c b)<=v):plB v b (tg c S b)=[]:=by
 rw [bt7 hall hN e b1,yr,(pn (kX c b).a (mR c S b) (st b)).2];unfold ac2 at h;rw [if_neg (by omega),(sL _ _ _ 0).2 (by omega)];rfl
theorem cz9 {v b:Int} (H:0<=b) (b1:b<(c.b.length:Int)) {l1 l2:List kD} (M:(kX c b).i=l1++l2) (K:st b<=v) (N:v<st b+(kX c b).a.length+mkN l1):∃ j,j<(l1.length:Int)/\plB v b (tg c S b)=[⟨b,j⟩]:=by
 rw [bt7 hall hN H b1,yr,(pn (kX c b).a (mR c S b) (st b)).2];by_cases e:v<st b+(kX c b).a.length
 ·rw [if_pos ⟨K, e⟩, (sL _ _ _ 0).2 (by omega)];exact ⟨-1,by omega,rfl⟩
 ·rw [if_neg (by omega), M, aj1, av3];obtain ⟨j,_,_,L⟩:=(sL (v:=v) (b:=b) l1 (nPh (kX c b).a (mR c S b) (st b)).2.1 (st b+(kX c b).a.length) 0).1 (by omega);rw [L,ba9,(sL _ _ _ _).2 (by omega)];exact ⟨j,by omega,rfl⟩
omit hall hN in
theorem cq2 {b:Int} {l1 l2:List kD} (e:(kX c b).i=l1++l2):(kX c b).a.length+mkN l1<=ac2 (kX c b):=by
 unfold ac2;rw [e,bq3];omega
theorem ar7 {v b:Int} (K:0<=b) (b1:b<(c.b.length:Int)) {l1 l2:List kD} (O:(kX c b).i=l1++l2) (h1:st b<=v) (h2:v<st b+(kX c b).a.length+mkN l1):∃ j,j<(l1.length:Int)/\lN (vm c S) v=[⟨b,j⟩]:=by
 obtain ⟨j,j1,j2⟩:=cz9 hall hN K b1 O h1 h2;have hs:=cq2 O;refine ⟨j,j1,?_⟩;have W:(vm c S).b.length=c.b.length:=mn
 have N:∀ (q:Nat) x,(vm c S).b[q]?=some x->((q:Int)<(c.b.length:Int))/\x=tg c S (q:Int):=λq x e=>by
  have hl:=(lgE.1 e).1;have h3:=aj6 (c:=c) (S:=S) (b:=(q:Int)) (by omega) (by omega);have M:=(jz.1 h3).2;rw [Int.toNat_natCast,e] at M;exact ⟨by omega,Option.some.inj M⟩
 refine br5 (b:=b) (λq x e H=>?_) (λq x e _=>?_) K (by omega)
 ·obtain ⟨L,rfl⟩:=N q x e;rw [show (0:Int)+(q:Int)=(q:Int) by omega] at H ⊢;refine cf6 hall hN (by omega) L ?_;have:=hN.dis _ (an0 hall K b1) _ (an0 hall (b:=(q:Int)) (by omega) L) (Ne.symm H);omega
 ·obtain ⟨L,rfl⟩:=N q x e;rw [show (q:Int)=b by omega];exact j2
theorem bl6 {v:Int} (h:∀ b,0<=b->b<(c.b.length:Int)->v<st b\/st b+ac2 (kX c b)<=v):lN (vm c S) v=[]:=by
 have K:(vm c S).b.length=c.b.length:=mn;refine an3 λq x e=>?_
 have M:=(lgE.1 e).1;have L:=aj6 (c:=c) (S:=S) (b:=(q:Int)) (by omega) (by omega);have H:=(jz.1 L).2;rw [Int.toNat_natCast,e] at H;rw [Option.some.inj H,show (0:Int)+(q:Int)=(q:Int) by omega];exact cf6 hall hN (by omega) (by omega) (h _ (by omega) (by omega))
theorem cs2 {b r:Int} (e:0<=b) (b1:b<(c.b.length:Int)):S.E b r=(nIn (kX c b).i (nPh (kX c b).a (mR c S b) (st b)).2.1 (nPh (kX c b).a (mR c S b) (st b)).2.2).2.1 r:=by
 rw [hN.E b (an0 hall e b1)];rfl
theorem cb7 {b r:Int} (L:0<=b) (b1:b<(c.b.length:Int)) {l1 l2:List kD} (O:(kX c b).i=l1++l2) {v:Int} (e:v=(nIn l1 (nPh (kX c b).a (mR c S b) (st b)).2.1 (nPh (kX c b).a (mR c S b) (st b)).2.2).2.1 r) :
  (v=mR c S b r/\(¬ ∃ f∈(kX c b).a,f.to=r)/\¬ ∃ y∈l1,kb y.op=true/\y.to=r)\/∃ j,j<(l1.length:Int)/\lN (vm c S) v=[⟨b,j⟩]:=by
 have W:=(pn (kX c b).a (mR c S b) (st b)).2;rcases az3 l1 (nPh (kX c b).a (mR c S b) (st b)).2.1 (nPh (kX c b).a (mR c S b) (st b)).2.2 r with ⟨H,M⟩ | ⟨H,M⟩
 ·rcases bt4 (kX c b).a (mR c S b) (st b) r with ⟨K,N⟩ | ⟨K,N⟩
  ·exact .inl ⟨by rw [e,H,K],N,M⟩
  ·exact .inr (ar7 hall hN L b1 O (by rw [e,H];exact K) (by rw [e,H];omega))
 ·exact .inr (ar7 hall hN L b1 O (by rw [e];omega) (by rw [e];omega))
theorem ce5:∀ (d:Nat) (b:Int),dep c b<=d->0<=b->b<(c.b.length:Int)->∀ r,(mR c S b r=bf7 c r/\∀ a,0<=a->a<(c.b.length:Int)->a≠b->D c a b->¬ bl3 (kX c a) r)\/∃ a j,a≠b/\(0<=a/\a<(c.b.length:Int))/\D c a b/\lN (vm c S) (mR c S b r)=[⟨a,j⟩]:=by
 intro d
 induction d with
 | zero =>
  intro b hd N b1;have:=cr0 (c:=c) (by omega) N b1;omega
 | succ d ih =>
  intro b hd N b1 r;by_cases e:0<=idf c b
  ·have K:idf c b<(c.b.length:Int):=by
    rcases vc c b c.b.length with h | h
    ·unfold idf at e ⊢;omega
    ·exact h.2.1
   have H:idf c b≠b/\D c (idf c b) b:=by
    rcases vc c b c.b.length with h | h
    ·unfold idf at e ⊢;omega
    ·exact h.2.2
   have a2:=re hall N b1 rfl e;have L:mR c S b r=S.E (idf c b) r:=by unfold mR;rw [if_pos e]
   have hE:=cs2 hall hN (r:=r) e K;rcases cb7 hall hN e K (l1:=(kX c (idf c b)).i) (l2:=[]) (by simp) hE with ⟨h1,h2,h3⟩ | ⟨j,_,h2⟩
   ·rw [L,h1];rcases ih (idf c b) (by omega) e K r with ⟨i1,i2⟩ | ⟨a,j,i1,i2,i3,i4⟩
    ·refine .inl ⟨i1,λa O W ha M=>?_⟩;obtain ⟨_,hn⟩:=bd3 (reach hall N b1) O W ha M;by_cases ea:a=idf c b
     ·rw [ea];exact λhs=>hs.elim h2 h3
     ·exact i2 a O W ea hn
    ·refine .inr ⟨a,j,λea=>?_,i2,i3.trans H.2,i4⟩;rw [ea] at i3;exact H.1 (H.2.anti (reach hall N b1) i3)
   ·exact .inr ⟨idf c b,j,H.1,⟨e,K⟩,H.2,by rw [L];exact h2⟩
  ·refine .inl ⟨by unfold mR; rw [if_neg e], fun a O W ha M => ?_⟩;exact absurd (bd3 (reach hall N b1) O W ha M).1 e
theorem aa7 (N:ci3 c) {b r:Int} (H:0<=b) (b1:b<(c.b.length:Int)) {l1 l2:List kD} (hx:(kX c b).i=l1++l2) (hu:cz6 c b l2 r) {v:Int} (hv:v=(nIn l1 (nPh (kX c b).a (mR c S b) (st b)).2.1 (nPh (kX c b).a (mR c S b) (st b)).2.2).2.1 r):sD (vm c S) v b (l1.length:Int)=true:=by
 have hg:=ax6 hall hN;unfold sD;by_cases ev:v<(vm c S).P
 ·rw [if_pos ev]
 rw [if_neg ev];rcases cb7 hall hN H b1 hx hv with ⟨L,O,h3⟩ | ⟨j,L,O⟩
 ·rcases ce5 hall hN _ b (Nat.le_refl _) H b1 r with ⟨M,K⟩ | ⟨a,j,M,K,i3,i4⟩
  ·exfalso;have e:¬ v<c.P:=ev
   have W:¬ (0<=r/\r<c.P):=λW=>by
    rw [L,M] at e;unfold bf7 at e;rw [if_pos W] at e;omega
   obtain ⟨a,a1,a2,a3,a4⟩:=N b H b1 l1 l2 hx r hu W O h3;exact K a a2.1 a2.2 a1 a3 a4
  ·rw [L,i4];show (if a=b then decide (j<(l1.length:Int)) else w7 (vm c S) a b)=true;rw [if_neg M];refine (bi3 ?_ ?_).2 (hg.d.2 i3)
   ·rw [hg.inb];exact hall a K.1 K.2
   ·rw [hg.inb];exact hall b H b1
 ·rw [O];show (if b=b then decide (j<(l1.length:Int)) else w7 (vm c S) b b)=true;rw [if_pos rfl];exact decide_eq_true L
end
theorem xk {α:Type} {p:Int->α->Bool}:∀ {xs:List α} {i:Int},(∀ (j:Nat) x,xs[j]?=some x->p (i+j) x=true)->py p xs i=true
 | [],_,_=>rfl
 | x::r,i,h=>by
  simp only [py,Bool.and_eq_true];refine ⟨by simpa using h 0 x rfl,xk λj y e=>?_⟩;have:=h (j+1) y (by simpa using e)
  rwa [show i+((j+1:Nat):Int)=i+1+j by omega] at this
section
variable {c:jv} {u:kU} {k:Int} (hck:COk u k c) (hall:∀ b:Int,0<=b->b<(c.b.length:Int)->oW c b=true)
include hck hall
theorem bk9 (a1:ci3 c):rA (bd5 c)=true:=by
 have aH:=hck.nb
 obtain ⟨st,hN⟩:∃ st,cp4 c (nM c (c.b.length+1) 0) (kr c (nM c (c.b.length+1) 0)) st:=by
  obtain ⟨g1,g2⟩:=ux hall (c.b.length+1) 0 [] (Int.le_refl _) (by omega) (by omega) List.nodup_nil (by simp) (by simp);exact ax8 _ g1 (λb hb=>(g2 b hb).1) (bb7 c _ _ _ (.inl (by rw [ao4];omega)))
 unfold bd5
 generalize kr c (nM c (c.b.length+1) 0)=S at *
 have hg:=ax6 hall hN;have aA:(vm c S).b.length=c.b.length:=mn;unfold rA;simp only [Bool.and_eq_true,Bool.not_eq_true'];refine ⟨?_,xk λj l W=>?_,xk λj x W=>?_⟩
 ·rw [hg.inT,List.contains_eq_mem,decide_eq_false_iff_not];intro hm;obtain ⟨b,N,b1,hb⟩:=bc8 (show false∈tab c.b.length (oW c) from hm);rw [hall b N b1] at hb;cases hb
 ·have hl:l=lN (vm c S) (j:Int):=by
   have O:=(lgE.1 W).1;rw [mn] at O;rw [xz O] at W;exact (Option.some.inj W).symm
  rw [show (0:Int)+(j:Int)=(j:Int) by omega,hl];unfold bw4;by_cases e:∃ b,(0<=b/\b<(c.b.length:Int))/\st b<=(j:Int)/\(j:Int)<st b+ac2 (kX c b)
  ·obtain ⟨b,⟨N,b1⟩,e1,e2⟩:=e;obtain ⟨q,_,hq⟩:=ar7 hall hN N b1 (l1:=(kX c b).i) (l2:=[]) (by simp) e1 (by unfold ac2 at e2;omega);have:=hN.lo b (an0 hall N b1);rw [hq];have:¬ ((j:Int)<(vm c S).P):=by show ¬ ((j:Int)<c.P);omega
   simp [this]
  ·rw [bl6 hall hN fun b N b1 => Classical.byContradiction fun h => e ⟨b, ⟨N, b1⟩, by omega, by omega⟩];simp
 ·have O:=(lgE.1 W).1;rw [aA] at O;have N:(0:Int)<=(j:Int):=by omega
  have b1:(j:Int)<(c.b.length:Int):=by omega
  have hx:x=tg c S (j:Int):=by
   have h4:=(jz.1 (aj6 (c:=c) (S:=S) N b1)).2;rw [Int.toNat_natCast,W] at h4;exact Option.some.inj h4
  rw [show (0:Int)+(j:Int)=(j:Int) by omega,hx]
  generalize aG:(j:Int)=b at *
  clear W hx aG O;obtain ⟨x0,a7,_⟩:=kV (xs:=c.b) (j:=b) N b1;have aB:=hck.bok a7;have M:=l0 a7
  have a2:tg c S b=⟨(nPh x0.a (mR c S b) (st b)).1.map (an7 c S b),(nIn x0.i (nPh x0.a (mR c S b) (st b)).2.1 (nPh x0.a (mR c S b) (st b)).2.2).1,x0.j,if x0.j=2\/x0.j=3 then (nIn x0.i (nPh x0.a (mR c S b) (st b)).2.1 (nPh x0.a (mR c S b) (st b)).2.2).2.1 x0.on else x0.on,x0.n⟩:=by
   unfold tg;rw [xG hall hN N b1,M];rfl
  unfold ay0;simp only [Bool.and_eq_true];refine ⟨?_,xk λi y' a3=>?_,?_⟩
  ·rw [List.all_eq_true];intro f' a4;rw [a2] at a4;obtain ⟨g,aC,rfl⟩:=List.mem_map.1 a4
   obtain ⟨f,hf,a8⟩:∃ f∈x0.a,f.A=g.A:=by
    have:g.A∈(nPh x0.a (mR c S b) (st b)).1.map (·.A):=List.mem_map.2 ⟨g,aC,rfl⟩;rw [ak7] at this;obtain ⟨f,h1,h2⟩:=List.mem_map.1 this;exact ⟨f,h1,h2⟩
   unfold am7;refine xk λi v hv=>?_
   have K:(List.zipWith S.E (kH c b) g.A)[i]?=some v:=hv;rw [List.getElem?_zipWith] at K;cases hp:(kH c b)[i]? with
   | none=>rw [hp] at K;simp at K
   | some p =>
    rw [hp,<- a8] at K;cases hr:f.A[i]? with
    | none=>rw [hr] at K;simp at K
    | some r =>
     rw [hr] at K;have a9:S.E p r=v:=by simpa using K
     have L:=te (List.mem_of_getElem? hp)
     have aE:pAt (vm c S) b (0+(i:Int))=p:=by
      unfold pAt jr;rw [hg.g,if_pos (by omega),show (0+(i:Int)).toNat=i by omega,hp];rfl
     rw [aE]
     have aD:bw7 (vm c S) p=((kX c p).i.length:Int):=by
      unfold bw7;rw [aj6 (c:=c) (S:=S) L.1 L.2];show ((tg c S p).i.length:Int)=_;unfold tg;rw [xG hall hN L.1 L.2];show (((nIn (kX c p).i _ _).1.length:Nat):Int)=_;rw [(qz _ _ _).1]
     rw [aD];exact aa7 hall hN a1 L.1 L.2 (l1:=(kX c p).i) (l2:=[]) (by simp) (r:=r) (.inr ⟨rfl,.inr ⟨b,f,i,⟨N,b1⟩,by rw [M];exact hf,hp,hr⟩⟩) (a9.symm.trans (cs2 hall hN L.1 L.2))
  ·rw [a2] at a3;have a5:=(lgE.1 a3).1;rw [(qz _ _ _).1] at a5
   have a6:x0.i=x0.i.take i++x0.i[i]::x0.i.drop (i+1):=by
    rw [<- List.drop_eq_getElem_cons a5,List.take_append_drop]
   have a0:(x0.i.take i).length=i:=by rw [List.length_take];omega
   have aF:y'.A=(x0.i[i]).A.map (nIn (x0.i.take i) (nPh x0.a (mR c S b) (st b)).2.1 (nPh x0.a (mR c S b) (st b)).2.2).2.1:=by
    have H:=a3;dsimp only at H
    generalize (nPh x0.a (mR c S b) (st b)).2.1=m at *
    generalize (nPh x0.a (mR c S b) (st b)).2.2=n at *
    rw [a6,aj1] at H;dsimp only at H;rw [List.getElem?_append_right (by rw [(qz _ _ _).1,a0];exact Nat.le_refl _),(qz _ _ _).1,a0,Nat.sub_self] at H;unfold nIn at H;split at H
    ·have:=Option.some.inj H;rw [<- this]
    ·have:=Option.some.inj H;rw [<- this]
   unfold aw5;rw [List.all_eq_true,aF];intro v hv;obtain ⟨r,hr,rfl⟩:=List.mem_map.1 hv;have:=aa7 hall hN a1 N b1 (l1:=x0.i.take i) (l2:=x0.i[i]::x0.i.drop (i+1)) (by rw [M];exact a6) (r:=r) (.inl ⟨_,_,rfl,hr⟩) (v:=(nIn (x0.i.take i) (nPh x0.a (mR c S b) (st b)).2.1 (nPh x0.a (mR c S b) (st b)).2.2).2.1 r) (by rw [M]);rw [a0] at this;rw [show (0:Int)+(i:Int)=(i:Int) by omega];exact this
  ·rw [a2];dsimp only;rw [Bool.or_eq_true,decide_eq_true_eq];by_cases e:x0.j=1
   ·exact .inl e
   ·right;have W:x0.j=2\/x0.j=3:=by have:=aB.j;omega
    rw [if_pos W,(qz _ _ _).1];exact aa7 hall hN a1 N b1 (l1:=x0.i) (l2:=[]) (by rw [M];simp) (r:=x0.on) (.inr ⟨rfl,.inl ⟨by rw [M];exact e,by rw [M]⟩⟩) (by rw [M])
end
end Unt
end Go.Wk
namespace Go.Wk
open Go
namespace Unt
set_option maxRecDepth 10000
open Classical
theorem bt5 {c:jv} {I:Int->Int->Prop} {b r:Int} (H:0<=r) (e:r<c.r) (h:phW c I b r):∃ f∈phS c I b 0 c.r.toNat,f.to=r:=by
 refine ⟨mkP c b r.toNat,List.mem_map.2 ⟨r.toNat,List.mem_filter.2 ⟨List.mem_range'_1.2 (by omega),decide_eq_true ?_⟩,rfl⟩,?_⟩
 ·rw [show ((r.toNat:Nat):Int)=r by omega];exact h
 ·show ((r.toNat : Nat) : Int) = r;omega
section
variable {c:jv} {u:kU} {k:Int} (hck:COk u k c) (hall:∀ b:Int,0<=b->b<(c.b.length:Int)->oW c b=true) (hcnt:pw c<=50000)
include hck hall hcnt
theorem bw2 {I:Int->Int->Prop} (hI:vu c I) (h0:∀ r,I 0 r->r<c.P) (a9:∀ b r,I b r->0<=r/\r<c.r):ci3 (phC c I):=by
 have hg:=xn (c:=c) I;have hl:(phC c I).b.length=c.b.length:=mn;have M:=cf9 hck hall hcnt I;have hB:∀ b,0<=b->b<(c.b.length:Int)->kX (phC c I) b=az2 c I b:=λb N b1=>l0 (ai1 N b1)
 intro b N b1 l1 l2 hx r hu hr O aC;rw [hl] at b1;have a6:=hB b N b1;rw [a6] at hx O;have W:(kX c b).i=l1++l2:=hx;have aA:jr (phC c I).b b=some (az2 c I b):=ai1 N b1;have aL:=M.bok aA;have a5:=hck.bok (yQ N b1)
 have H:bw l2 (ac0 (kX c b) (qk c I b)) r/\0<=r:=by
  rcases hu with ⟨y,l,rfl,hy⟩ | ⟨rfl,⟨h1,h2⟩ | ⟨n,f,i,⟨n0,n1⟩,K,hi,ha⟩⟩
  ·have aJ : y ∈ (kX c b).i := by rw [W]; simp
   have:=(iok (a5.i y aJ)).A r hy;exact ⟨.inl hy,this.1⟩
  ·rw [a6] at h1 h2;have aF:(kX c b).j≠1:=h1;have aD:r=(kX c b).on:=h2;refine ⟨.inr ⟨aF,aD⟩,?_⟩;have:=a5.j;omega
  ·rw [hl] at n1;rw [hB n n0 n1] at K;rw [hg.g] at hi;have a7:b∈kH c n:=List.mem_of_getElem? hi
   have aK:n∈(kX c b).n:=by
    have:=bu0 a7
    rwa [nZ (yQ N b1)] at this
   have aE:0<=r:=(((M.bok (ai1 n0 n1)).a f K).2.2.2 r (List.mem_of_getElem? ha)).1;refine ⟨.inl ⟨n,aK,?_⟩,aE⟩;rcases List.mem_append.1 (show f∈phS c I n 0 c.r.toNat++(kX c n).a from K) with h | h
   ·obtain ⟨q,_,aI,rfl⟩:=br8 h;have:r∈List.replicate (kH c n).length (q:Int):=List.mem_of_getElem? ha;rw [(List.mem_replicate.1 this).2];exact .inl aI.2
   ·refine .inr ⟨f,h,?_⟩
    have a0:idx b (kH c n) 0=(i:Int):=by
     obtain ⟨j,_,j2⟩:=ay8 (v:=b) (xs:=kH c n) (i:=0) a7;have aG:=yW c n;have aH:=(lgE.1 hi);have aM:=(lgE.1 j2);have:i=j:=(List.getElem?_inj aH.1 aG).1 (hi.trans j2.symm);omega
    rw [a0];unfold at_;rw [List.getD_eq_getElem?_getD,Int.toNat_natCast,ha];rfl
 have aB:c.P<=r:=Int.not_lt.1 λh=>hr ⟨H.2,h⟩
 have a8:I b r:=by
  refine (hI.2.1 b r N b1).2 ⟨?_,λ⟨f,K,e⟩=>O ⟨f,List.mem_append_right _ K,e⟩⟩;have:=az4 aC H.1;rw [<- W] at this;exact this
 have L:=a9 b r a8;rcases ca6 hck hall hcnt hI h0 aB a8 with h | ⟨a,a1,a2,a3,a4⟩
 ·obtain ⟨f,K,e⟩:=bt5 L.1 L.2 h;exact absurd ⟨f,List.mem_append_left _ K,e⟩ O
 ·refine ⟨a, a1, by rw [hl]; exact a2, hg.d.2 a3, ?_⟩;rw [hB a a2.1 a2.2];rcases a4 with h | h
  ·exact h.imp (λ⟨f,K,e⟩=>⟨f,List.mem_append_right _ K,e⟩) id
  ·obtain ⟨f,K,e⟩:=bt5 L.1 L.2 h;exact .inl ⟨f,List.mem_append_left _ K,e⟩
end
end Unt
end Go.Wk
namespace Go.Wk
open Go
namespace Unt
set_option maxRecDepth 10000
structure Vis (c:jv) (b:Int) (seen seen':List Bool) (new:List Int):Prop where
 len:seen'.length=seen.length
 iff:∀ r,mq seen' r↔mq seen r\/r∈new
 fresh:∀ r∈new,¬ mq seen r
 nodup:new.Nodup
 last:∃ pre,new=pre++[b]
 closed:∀ r∈new,∀ n∈nk c r,mq seen' n
 cnt:seen'.count false+new.length=seen.count false
 led:∀ r∈new,r=b\/∃ p∈new,p≠r/\r∈nk c p
section
variable {c:jv} (hnx:∀ b x,jr c.b b=some x->∀ n∈x.n,0<=n/\n<(c.b.length:Int)) (hnl:∀ b x,jr c.b b=some x->x.n.length<=1048576)
include hnx hnl
theorem cc7:∀ (N:Nat) (b:Int) (seen:List Bool) (K:List Int),seen.length=c.b.length->0<=b->b<(c.b.length:Int)->¬ mq seen b->seen.count false<=N->K.length+seen.count false<=1048576 ->
  ∃ M a7,nz b seen c K=some (M,K++a7)/\lL c b seen K=some (K++a7,M)/\Vis c b seen M a7:=by
 intro N
 induction N with
 | zero =>
  intro b seen K hl h0 h1 a2 hN _;obtain ⟨v,O,a0,_⟩:=kV (xs:=seen) (j:=b) h0 (by omega);cases v with
  | true=>exact absurd O a2
  | false=>have:=vn a0;omega
 | succ N ih =>
  intro b seen K hl h0 h1 a2 hN _;obtain ⟨v,O,a0,_⟩:=kV (xs:=seen) (j:=b) h0 (by omega);cases v with
  | true=>exact absurd O a2
  | false =>
   have aD:=vn a0;obtain ⟨x,hx,_⟩:=kV (xs:=c.b) (j:=b) h0 h1;have aC:=hnl b x hx;have a3:∀ r,mq (seen.set b.toNat true) r↔(r=b\/mq seen r):=λr=>z8 h0 (by omega)
   rcases lB (xs := x.n) (body := (fun (uP : Int) (uJ : (List Bool) × (List Int)) => (((jr x.n uP).bind fun uD => (jr uJ.1 uD).bind fun uQ => (if !(uQ) then (nz uD uJ.1 c uJ.2).bind fun uN => some (uN.1, uN.2) else some (uJ.1, uJ.2) : Option ((List Bool) × (List Int))).bind fun uE => some (uE.1, uE.2) : Option ((List Bool) × (List Int))).bind fun uO => some (.inl (uO.1, uO.2)) : Option (((List Bool) × (List Int)) ⊕ (Empty))))) (s := (seen.set b.toNat true, K))
    (λpre s=>∃ L,s.2=K++L/\s.1.length=c.b.length/\(∀ r,mq s.1 r↔mq (seen.set b.toNat true) r\/r∈L)/\(∀ r∈L,¬ mq (seen.set b.toNat true) r)/\L.Nodup/\(∀ r∈L,∀ n∈nk c r,mq s.1 n)/\(∀ n∈pre,mq s.1 n) /\
     s.1.count false+L.length=(seen.set b.toNat true).count false/\kx (λ(H:(List Bool) × (List Int) × Int)=>((jr c.b b).bind λuD=>if decide (H.2.2<((uD.n.length:Int))) then ((jr uD.n H.2.2).bind λuG=>(jr H.1 uG).bind λuL=>(if !(uL) then (lL c uG H.1 H.2.1).bind λuH=>some (uH.2,uH.1) else some (H.1,H.2.1):Option ((List Bool) × (List Int))).bind λuI=>some (uI.1,uI.2):Option ((List Bool) × (List Int))).bind λuE=>some (.inl (uE.1,uE.2,w64 (H.2.2+1))) else some (.inr (H.2.1,H.1)):Option (((List Bool) × (List Int) × Int) ⊕ ((List Int) × (List Bool))))) (seen.set b.toNat true,K,0)=kx (λ(H:(List Bool) × (List Int) × Int)=>((jr c.b b).bind λuD=>if decide (H.2.2<((uD.n.length:Int))) then ((jr uD.n H.2.2).bind λuG=>(jr H.1 uG).bind λuL=>(if !(uL) then (lL c uG H.1 H.2.1).bind λuH=>some (uH.2,uH.1) else some (H.1,H.2.1):Option ((List Bool) × (List Int))).bind λuI=>some (uI.1,uI.2):Option ((List Bool) × (List Int))).bind λuE=>some (.inl (uE.1,uE.2,w64 (H.2.2+1))) else some (.inr (H.2.1,H.1)):Option (((List Bool) × (List Int) × Int) ⊕ ((List Int) × (List Bool))))) (s.1,s.2,(pre.length:Int))/\∀ r∈L,∃ p∈L++[b],p≠r/\r∈nk c p) (λ_=>False)
    ⟨[],by simp,by simpa using hl,λr=>by simp,λr h=>by simp at h,List.nodup_nil,λr h=>by simp at h,λn h=>by simp at h,by simp,rfl,λr h=>by simp at h⟩
    (λpre n _ s he hI=>by
     obtain ⟨s,o⟩:=s;obtain ⟨L,i1,i2,i3,i4,i5,i6,i7,i8,i9,a1⟩:=hI;dsimp only at i1 i2 i3 i6 i7 i8 i9 ⊢;have a9:n∈x.n:=by rw [he];simp
     have hn:=hnx b x hx n a9;have hg:jr x.n (pre.length:Int)=some n:=by rw [he];exact kK
     have a8:(pre.length:Int)<(x.n.length:Int):=by rw [he];simp;omega
     have hw:w64 ((pre.length:Int)+1)=(pre.length:Int)+1:=kv (by omega) (by omega);obtain ⟨v,O,a0,_⟩:=kV (xs:=s) (j:=n) hn.1 (by omega);cases v with
     | true =>
      refine .inl ⟨(s,o),?_,L,i1,i2,i3,i4,i5,i6,λk hk=>?_,i8,?_,a1⟩
      ·rw [hg,obS,O];rfl
      ·rcases List.mem_append.1 hk with h | h
       ·exact i7 k h
       ·rw [List.mem_singleton.1 h];exact O
      ·rw [i9];refine sR ?_;rw [hx,obS,if_pos (by simpa using a8),hg,obS,O];simp [hw]
     | false =>
      have a4:¬ mq s n:=λh=>by unfold mq at h;rw [O] at h;cases h
      obtain ⟨s',aA,g1,g2,W⟩:=ih n s o i2 hn.1 hn.2 a4 (by omega) (by rw [i1,List.length_append];omega);refine .inl ⟨(s',o++aA),?_,L++aA,by rw [i1,List.append_assoc],by rw [W.len];exact i2,λr=>?_,λr hr=>?_,?_,λr hr k hk=>?_,λk hk=>?_,?_,?_,λr hr=>?_⟩
      ·rw [hg,obS,O,obS];simp only [Bool.not_false,if_true];rw [g1];rfl
      ·dsimp only;rw [W.iff,i3,List.mem_append,or_assoc]
      ·rcases List.mem_append.1 hr with h | h
       ·exact i4 r h
       ·exact λhh=>W.fresh r h ((i3 r).2 (.inl hh))
      ·refine List.nodup_append.2 ⟨i5,W.nodup,λr h1 r2 h2 e=>?_⟩;subst e;exact W.fresh r h2 ((i3 r).2 (.inr h1))
      ·rcases List.mem_append.1 hr with h | h
       ·exact (W.iff k).2 (.inl (i6 r h k hk))
       ·exact W.closed r h k hk
      ·rcases List.mem_append.1 hk with h | h
       ·exact (W.iff k).2 (.inl (i7 k h))
       ·obtain ⟨_,aB⟩:=W.last;rw [List.mem_singleton.1 h];exact (W.iff n).2 (.inr (by rw [aB];simp))
      ·dsimp only;have:=W.cnt;rw [List.length_append];omega
      ·rw [i9];refine sR ?_;rw [hx,obS,if_pos (by simpa using a8),hg,obS,O,obS];simp only [Bool.not_false,if_true];rw [g2];simp [hw]
      ·rcases List.mem_append.1 hr with h | h
       ·obtain ⟨p,p1,p2,p3⟩:=a1 r h;refine ⟨p,?_,p2,p3⟩;rcases List.mem_append.1 p1 with q | q
        ·simp [q]
        ·simp [List.mem_singleton.1 q]
       ·rcases W.led r h with e | ⟨p,p1,p2,p3⟩
        ·refine ⟨b, by simp, fun eb => ?_, by rw [nZ hx, e]; exact a9⟩;rw [e] at eb;exact a4 ((i3 n).2 (.inl ((a3 n).2 (.inl eb.symm))))
        ·exact ⟨p,by simp [p1],p2,p3⟩) with ⟨⟨s,o⟩,e1,L,i1,i2,i3,i4,i5,i6,i7,i8,i9,a1⟩ | ⟨e,_,h⟩
   rotate_left
   ·exact h.elim
   dsimp only at i1 i2 i3 i6 i7 i8 i9
   have a6:kx (λ(H:(List Bool) × (List Int) × Int)=>((jr c.b b).bind λuD=>if decide (H.2.2<((uD.n.length:Int))) then ((jr uD.n H.2.2).bind λuG=>(jr H.1 uG).bind λuL=>(if !(uL) then (lL c uG H.1 H.2.1).bind λuH=>some (uH.2,uH.1) else some (H.1,H.2.1):Option ((List Bool) × (List Int))).bind λuI=>some (uI.1,uI.2):Option ((List Bool) × (List Int))).bind λuE=>some (.inl (uE.1,uE.2,w64 (H.2.2+1))) else some (.inr (H.2.1,H.1)):Option (((List Bool) × (List Int) × Int) ⊕ ((List Int) × (List Bool))))) (seen.set b.toNat true,K,0)=some (o,s):=by
    rw [i9];refine rH ?_;rw [hx,obS,if_neg (by simp)]
   have a5:k8 o [b]=some (K++(L++[b])):=by
    rw [ka (by rw [i1,List.length_append];simp;omega),i1,List.append_assoc]
   refine ⟨s,L++[b],?_,?_,⟨by rw [i2,hl],λr=>?_,λr hr=>?_,?_,⟨L,rfl⟩,λr hr k hk=>?_,by rw [List.length_append,List.length_singleton];omega,λr hr=>?_⟩⟩
   ·rw [nz,O,obS,hx,obS];refine kN e1 ?_;show (k8 o [b]).bind _=_;rw [a5];rfl
   ·rw [lL,O,obS];refine kN (a:=(o,s)) (kN a6 rfl) ?_;dsimp only;rw [a5];rfl
   ·rw [i3,a3,List.mem_append,List.mem_singleton];constructor
    ·rintro ((h | h) | h)
     ·exact .inr (.inr h)
     ·exact .inl h
     ·exact .inr (.inl h)
    ·rintro (h | h | h)
     ·exact .inl (.inr h)
     ·exact .inr h
     ·exact .inl (.inl h)
   ·rcases List.mem_append.1 hr with h | h
    ·exact λhh=>i4 r h ((a3 r).2 (.inr hh))
    ·rw [List.mem_singleton.1 h];exact a2
   ·refine List.nodup_append.2 ⟨i5, by simp, fun r h1 r2 h2 e => ?_⟩;subst e;rw [List.mem_singleton] at h2;exact i4 r h1 ((a3 r).2 (.inl h2))
   ·rcases List.mem_append.1 hr with h | h
    ·exact i6 r h k hk
    ·rw [List.mem_singleton.1 h,nZ hx] at hk;exact i7 k hk
   ·rcases List.mem_append.1 hr with h | h
    ·exact .inr (a1 r h)
    ·exact .inl (List.mem_singleton.1 h)
structure ag7 (c:jv) (l:List Int):Prop where
 nodup:l.Nodup
 rng:∀ r∈l,0<=r/\r<(c.b.length:Int)
 closed:∀ r∈l,∀ n∈nk c r,n∈l
 led:∀ r∈l,r=0\/∃ p∈l,p≠r/\r∈nk c p
theorem av2 (h0:0<c.b.length) (W:c.b.length<=1048576):∃ pre,rP c=some (pre++[0])/\(∃ e,lL c 0 (List.replicate c.b.length false) []=some (pre++[0],e))/\ag7 c (pre++[0]):=by
 have O:∀ r,¬ mq (List.replicate c.b.length false) r:=λr h=>by
  have:=(qh.1 h).2;rw [List.getElem?_replicate] at this;split at this<;>simp at this
 obtain ⟨e,L,N,M,H⟩:=cc7 hnx hnl c.b.length 0 (List.replicate c.b.length false) [] (by simp) (Int.le_refl _) (by omega) (O 0) (by simp) (by simpa using W);obtain ⟨pre,hp⟩:=H.last;rw [List.nil_append] at N M;have hs:∀ r,mq e r↔r∈L:=λr=>by rw [H.iff];exact ⟨λh=>h.elim (λh=>absurd h (O r)) id,.inr⟩
 refine ⟨pre,?_,⟨e,by rw [M,hp]⟩,⟨by rw [<- hp];exact H.nodup,λr K=>?_,λr K n hn=>?_,by rw [<- hp];exact H.led⟩⟩
 ·unfold rP;rw [nW (by omega) (by omega),obS,Int.toNat_natCast,N,hp];rfl
 ·rw [<- hp] at K;have h1:=qh.1 ((hs r).2 K);have h2:=(lgE.1 h1.2).1;rw [H.len,List.length_replicate] at h2;omega
 ·rw [<- hp] at K ⊢;exact (hs n).1 (H.closed r K n hn)
end
end Unt
end Go.Wk
namespace Go.Wk
open Go
namespace Unt
set_option maxRecDepth 10000
theorem ap9:∀ {l l':List Int},l.Nodup->(∀ x∈l,x∈l')->l.length<=l'.length
 | [],l',_,_=>Nat.zero_le _
 | x::l,l',hn,h=>by
  have K:=h x (List.mem_cons_self ..);rw [List.nodup_cons] at hn
  have:=ap9 (l:=l) (l':=l'.erase x) hn.2 λy H=>by
   have:y≠x:=λe=>hn.1 (e▸H)
   exact (List.mem_erase_of_ne this).2 (h y (List.mem_cons_of_mem _ H))
  rw [List.length_erase_of_mem K] at this;have:=List.length_pos_of_mem K;simp only [List.length_cons];omega
theorem ag7.len {c:jv} {l:List Int} (h:ag7 c l):l.length<=c.b.length:=by
 have:=ap9 (l':=(List.range c.b.length).map λ(i:Nat)=>(i:Int)) h.nodup λr e=>by
  have:=h.rng r e;exact List.mem_map.2 ⟨r.toNat,List.mem_range.2 (by omega),by omega⟩
 simpa using this
theorem ax2:∀ {xs ys:List Int},xs.Pairwise (·<·)->ys.Pairwise (·<·)->(∀ r,r∈xs↔r∈ys)->xs=ys
 | [],[],_,_,_=>rfl
 | [],y::ys,_,_,h=>by have:=(h y).2 (List.mem_cons_self ..);simp at this
 | x::xs,[],_,_,h=>by have:=(h x).1 (List.mem_cons_self ..);simp at this
 | x::xs,y::ys,hx,hy,h=>by
  rw [List.pairwise_cons] at hx hy
  have K:x=y:=by
   rcases List.mem_cons.1 ((h x).1 (List.mem_cons_self ..)) with e | e
   ·exact e
   ·rcases List.mem_cons.1 ((h y).2 (List.mem_cons_self ..)) with L | L
    ·exact L.symm
    ·have:=hy.1 x e;have:=hx.1 y L;omega
  subst K;rw [ax2 hx.2 hy.2 λr=>?_];constructor
  ·intro H;rcases List.mem_cons.1 ((h r).1 (List.mem_cons_of_mem _ H)) with e | e
   ·subst e;have:=hx.1 r H;omega
   ·exact e
  ·intro H;rcases List.mem_cons.1 ((h r).2 (List.mem_cons_of_mem _ H)) with e | e
   ·subst e;have:=hy.1 r H;omega
   ·exact e
theorem bp7 {zs:List Int} (h:zs.Pairwise (·<·)):Lib.compact zs=zs:=by
 unfold Lib.compact Lib.compactUpTo
 have H:(List.range zs.length).filter (Lib.keeps zs.toArray)=List.range zs.length:=List.filter_eq_self.2 λj K=>by
  have K:=List.mem_range.1 K;by_cases e:j=0
  ·subst e;simp [Lib.keeps]
  ·refine Lib.keeps_pos ?_;rw [bn0 K,bn0 (show j - 1<zs.length by omega)];have:=(List.pairwise_iff_getElem.1 h) (j - 1) j (by omega) K (by omega);omega
 rw [H];apply List.ext_getElem?;intro k;by_cases H:k<zs.length
 ·rw [List.getElem?_map,List.getElem?_range H,Option.map_some,bn0 H,List.getElem?_eq_getElem H]
 ·rw [List.getElem?_eq_none (by simp;omega),List.getElem?_eq_none (by omega)]
theorem ba7 {l:List Int} (L:l.Nodup):(rY l).Pairwise (·<·):=by
 have tr:∀ a b c:Int,decide (a<=b)=true->decide (b<=c)=true->decide (a<=c)=true:=λa b c H e=>by simp at *;omega
 have K:∀ a b:Int,(decide (a<=b)||decide (b<=a))=true:=λa b=>by simp;omega
 have H:(rY l).Pairwise (λa b=>decide (a<=b)=true):=List.pairwise_mergeSort tr K l;have e:(rY l).Nodup:=(List.mergeSort_perm l _).nodup_iff.2 L
 exact (H.and e).imp λ{a b} h=>by
  have N:a<=b:=by simpa using h.1
  have M:a≠b:=h.2;omega
theorem bv0 {l:List Int} {x:Int}:x∈rY l↔x∈l:=(List.mergeSort_perm l _).mem_iff
theorem au9 (xs:List Int) (hl:xs.length<=1048576):∃ l,qC xs=some l/\l.Pairwise (·<·)/\∀ x,x∈l↔x∈xs:=by
 unfold qC
 rcases lB (xs:=xs) (body:=(λ(uC:Int) (K:(List Int))=>((jr xs uC).bind λuE=>(lZ K uE).bind λO=>some (.inl O):Option (((List Int)) ⊕ (Empty))))) (s:=([]:List Int)) (λpre s=>s.Pairwise (·<·)/\(∀ x,x∈s↔x∈pre)/\s.length<=pre.length) (λ_=>False) ⟨.nil,λx=>Iff.rfl,Nat.le_refl _⟩ (λpre x _ s H M=>by
  obtain ⟨h1,W,_⟩:=M;have:=congrArg List.length H;simp at this;obtain ⟨l',N,L,g3,_⟩:=xm (n:=x) h1 (by omega);refine .inl ⟨l',?_,L,λy=>?_,by simp;omega⟩
  ·rw [show jr xs (pre.length:Int)=some x by rw [H];exact kK,obS,N];rfl
  ·rw [g3,W];simp;exact Or.comm) with ⟨s,e1,e2,e3,_⟩ | ⟨e,_,h⟩
 ·exact ⟨s,kN e1 rfl,e2,e3⟩
 ·exact h.elim
section
variable {u:kU} {k:Int} {c:jv} (hck:COk u k c) (hsn:∀ x∈c.b,x.n.length<=1048576)
include hck
include hsn
theorem br2:rW c=some true:=by
 have a2:=hck.nb;unfold rW
 rcases lB (xs:=c.b) (body:=(λ(uH:Int) (_:Unit)=>(((kx (S:=Int) (X:=Bool ⊕ Unit) (λH=>(jr c.b uH).bind λK=>if decide (H<((K.n.length:Int))) then (jr K.n H).bind λN=>(l3 N 0 (((c.b.length:Int)) - 1)).bind λO=>if !(O) then some (.inr (.inl false)) else some (.inl (w64 (H+1))) else some (.inr (.inr ()))) 0).bind (Sum.elim (λM=>some (.inr M)) (λL=>some (.inl L))):Option ((Unit) ⊕ (Bool))).bind (Sum.elim (λ_=>some (.inl ())) (λM=>some (.inr M))):Option ((Unit) ⊕ (Bool))))) (s:=()) (λ_ _=>True) (λ_=>False) trivial (λpre x _ s he _=>by
  have hx:jr c.b (pre.length:Int)=some x:=by rw [he];exact kK
  have a1:=hsn x (by rw [he];simp)
  obtain ⟨r,L,e2⟩:=lp (b1:=(λ(H:Int)=>((jr c.b (pre.length:Int)).bind λK=>if decide (H<((K.n.length:Int))) then (jr K.n H).bind λN=>(l3 N 0 (((c.b.length:Int)) - 1)).bind λO=>if !(O) then some (.inr (.inl false)) else some (.inl (w64 (H+1))) else some (.inr (.inr ())):Option ((Int) ⊕ (Bool ⊕ Unit))))) (λi:Int=>0<=i/\i<=(x.n.length:Int)) (λr=>r=.inr ()) (λi=>((x.n.length:Int) - i).toNat) (λi hi=>by
   by_cases e:i<(x.n.length:Int)
   ·left;obtain ⟨n,hn,_,a0⟩:=kV (xs:=x.n) (j:=i) hi.1 e;have:=an5 hck _ x hx n a0;have W:inB n 0 ((c.b.length:Int) - 1)=true:=lO.2 (by omega);have hw:w64 (i+1)=i+1:=kv (by omega) (by omega);refine ⟨i+1,?_,by omega,by omega⟩;rw [hx,obS,if_pos (by simpa using e),hn,obS,sT,W,obS,if_neg (by simp),hw]
   ·right
    exact ⟨_,by rw [hx,obS,if_neg (by simpa using e)],rfl⟩) (x.n.length+1) 0 ⟨Int.le_refl _,by omega⟩ (by omega)
  subst e2;refine .inl ⟨(),?_,trivial⟩
  exact kN (kN L rfl) rfl) with ⟨s,L,_⟩ | ⟨e,_,h⟩
 ·refine kN L ?_;show some (decide (0<((c.b.length:Int))))=_;rw [decide_eq_true (by omega)]
 ·exact h.elim
theorem av1:∃ pre,rP c=some (pre++[0])/\pb c=some (0::pre.reverse)/\ag7 c (pre++[0])/\ag7 c (0::pre.reverse):=by
 have a1:=hck.nb;obtain ⟨pre,g1,⟨_,g2⟩,L⟩:=av2 (c:=c) (λb x N n hn=>by have:=an5 hck b x N n hn;omega) (λb x N=>hsn x (List.mem_of_getElem? (jz.1 N).2)) (by omega) (by omega);have a0:(pre++[0]).length<=1048576:=Nat.le_trans L.len (by omega);have H:(pre++[0]).reverse=0::pre.reverse:=by simp
 refine ⟨pre,g1,?_,L,⟨?_,λr K=>L.rng r (by rw [<- H] at K;exact List.mem_reverse.1 K),λr K n hn=>?_,λr K=>?_⟩⟩
 ·unfold pb;refine kN (a:=pre++[0]) ?_ ?_
  ·rw [nW (by omega) (by omega),obS,Int.toNat_natCast,g2];rfl
  ·obtain ⟨r,e1,e2⟩:=lp (b1:=(λ(M:(List Int) × Int)=>(if decide (0<=M.2) then (jr (pre++[0]) M.2).bind λuD=>(k8 M.1 ([uD]:List Int)).bind λuE=>some (.inl (uE,w64 (M.2 - 1))) else some (.inr M.1):Option (((List Int) × Int) ⊕ ((List Int)))))) (λs:List Int × Int=>-1<=s.2/\s.2<((pre++[0]).length:Int)/\s.1=((pre++[0]).drop (s.2+1).toNat).reverse) (λr=>r=(pre++[0]).reverse) (λs=>(s.2+1).toNat) (λs hs=>by
    obtain ⟨o,i⟩:=s;obtain ⟨h1,h2,O⟩:=hs;dsimp only at h1 h2 O ⊢;by_cases e:0<=i
    ·left;obtain ⟨x,N,W,_⟩:=kV (xs:=pre++[0]) (j:=i) e h2;have hw:w64 (i - 1)=i - 1:=kv (by omega) (by omega)
     have hd:(pre++[0]).drop i.toNat=x::(pre++[0]).drop (i+1).toNat:=by
      obtain ⟨hl,hv⟩:=lgE.1 W;rw [show (i+1).toNat=i.toNat+1 by omega,List.drop_eq_getElem_cons hl,hv]
     refine ⟨(o++[x],i - 1),?_,⟨by dsimp only;omega,by dsimp only;omega,?_⟩,by dsimp only;omega⟩
     ·rw [if_pos (by simpa using e),N,obS,ka (by rw [O,List.length_reverse,List.length_drop];simp only [List.length_singleton];omega),obS,hw]
     ·dsimp only;rw [show i - 1+1=i by omega,hd,List.reverse_cons,O]
    ·right;refine ⟨o,by rw [if_neg (by simpa using e)],?_⟩
     rw [O,show (i+1).toNat=0 by omega,List.drop_zero]) ((pre++[0]).length+1) ([],(((pre++[0]).length:Int)) - 1) ⟨by dsimp only;omega,by dsimp only;omega,by dsimp only;rw [List.drop_eq_nil_of_le (by omega)];rfl⟩ (by dsimp only;omega)
   subst e2;rw [<- H];exact kN (kN e1 rfl) rfl
 ·rw [<- H];exact (List.reverse_perm _).nodup_iff.2 L.nodup
 ·rw [<- H] at K ⊢;exact List.mem_reverse.2 (L.closed r (List.mem_reverse.1 K) n hn)
 ·rw [<- H] at K ⊢;rcases L.led r (List.mem_reverse.1 K) with e | ⟨p,p1,p2⟩
  ·exact .inl e
  ·exact .inr ⟨p,List.mem_reverse.2 p1,p2⟩
theorem bg4:∃ l,qG c=some (0::l)/\oF c=some (0::l)/\ag7 c (0::l)/\(0::l).Pairwise (·<·):=by
 have a1:=hck.nb;obtain ⟨pre,g1,o2,g3,W⟩:=av1 hck hsn;have M:∀ (l:List Int),ag7 c l->l.length<=1048576:=λl h=>Nat.le_trans h.len (by omega)
 have O:∀ r,r∈pre++[0]↔r∈0::pre.reverse:=λr=>by simp [or_comm]
 obtain ⟨s,s1,s2,K⟩:=au9 (0::pre.reverse) (M _ W);have N:=ba7 g3.nodup;have he:rY (pre++[0])=s:=ax2 N s2 λr=>by rw [bv0,K,O]
 have h0:∃ l',s=0::l':=by
  have a0:(0:Int)∈s:=(K 0).2 (by simp);cases s with
  | nil=>simp at a0
  | cons y l' =>
   refine ⟨l',?_⟩;have hy:=W.rng y ((K y).1 (by simp));rcases List.mem_cons.1 a0 with e | e
   ·rw [<- e]
   ·have:=(List.pairwise_cons.1 s2).1 0 e;omega
 obtain ⟨l',H⟩:=h0;refine ⟨l',?_,?_,⟨?_,λr L=>?_,λr L n hn=>?_,λr L=>?_⟩,by rw [<- H];exact s2⟩
 ·unfold qG;rw [ao7 hck,obS];simp only [Bool.not_true,Bool.false_eq_true,if_false,g1,obS];unfold rz;rw [uq _ (by have:=M _ g3;omega),obS,bp7 N,he,H];rfl
 ·unfold oF;rw [br2 hck hsn,obS];simp only [Bool.not_true,Bool.false_eq_true,if_false,o2,obS,s1];rw [H]
 ·rw [<- H];exact s2.imp λh=>by omega
 ·rw [<- H] at L;exact W.rng r ((K r).1 L)
 ·rw [<- H] at L ⊢;exact (K n).2 (W.closed r ((K r).1 L) n hn)
 ·rw [<- H] at L ⊢;rcases W.led r ((K r).1 L) with e | ⟨p,p1,p2⟩
  ·exact .inl e
  ·exact .inr ⟨p,(K p).2 p1,p2⟩
end
end Unt
end Go.Wk
namespace Go.Wk
open Go
namespace Unt
set_option maxRecDepth 10000
theorem zj {β:Type} (m:jw β) (k r:Int) (v:β):(m.i k v).get r=if r=k then some v else m.get r:=by
 by_cases e:r=k
 ·rw [if_pos e];subst e;exact (lx (m.i r v).nodup).2 (((m.ins_perm r v).mem_iff).1 (List.mem_cons_self ..))
 ·rw [if_neg e];cases h:m.get r with
  | none =>
   cases K:(m.i k v).get r with
   | none=>rfl
   | some x =>
    have L:=((m.ins_perm k v).mem_iff).2 (zN K);rcases List.mem_cons.1 L with H | H
    ·exact absurd (congrArg Prod.fst H) e
    ·have:=(lx m.nodup).2 (List.mem_filter.1 H).1;rw [show rn m.es r=m.get r from rfl,h] at this;cases this
  | some x=>exact (lx (m.i k v).nodup).2 (((m.ins_perm k v).mem_iff).1 (List.mem_cons_of_mem _ (List.mem_filter.2 ⟨zN h,by simpa using e⟩)))
theorem ab6 {l:List Int} (M:l.Nodup) {i j:Nat} {v:Int} (L:l[i]?=some v) (K:l[j]?=some v):i=j:=by
 obtain ⟨e,H⟩:=lgE.1 L;obtain ⟨b1,b2⟩:=lgE.1 K;have hp:=List.pairwise_iff_getElem.1 M;rcases Nat.lt_trichotomy i j with h | h | h
 ·exact absurd (H.trans b2.symm) (hp i j e b1 h)
 ·exact h
 ·exact absurd (b2.trans H.symm) (hp j i b1 e h)
theorem ao2 {v:Int}:∀ {xs:List Int} {i:Int},v∈xs->∃ n:Nat,idx v xs i=i+n/\xs[n]?=some v
 | x::r,i,h=>by
  unfold idx;by_cases e:v=x
  ·rw [if_pos e];exact ⟨0,by simp,by simp [e]⟩
  ·rw [if_neg e];obtain ⟨n,H,K⟩:=ao2 (xs:=r) (i:=i+1) (by simpa [e] using h);exact ⟨n+1,by rw [H];omega,by simpa using K⟩
theorem yw (b:Int):∀ (l:List jq) (i j:Int),j∈mv b l i↔∃ n:Nat,j=i+n/\∃ y,l[n]?=some y/\b∈y.n
 | [],i,j=>by simp [mv]
 | x::r,i,j=>by
  have L:=yw b r (i+1) j
  have key:(∃ n:Nat,j=i+n/\∃ y,(x::r)[n]?=some y/\b∈y.n)↔(j=i/\b∈x.n)\/∃ n:Nat,j=i+1+n/\∃ y,r[n]?=some y/\b∈y.n:=by
   constructor
   ·rintro ⟨n,H,y,e,K⟩;cases n with
    | zero=>simp at e;subst e;exact .inl ⟨by simpa using H,K⟩
    | succ n=>exact .inr ⟨n,by omega,y,by simpa using e,K⟩
   ·rintro (⟨H,e⟩ | ⟨n,H,y,e,K⟩)
    ·exact ⟨0,by simpa using H,x,rfl,e⟩
    ·exact ⟨n+1,by omega,y,by simpa using e,K⟩
  rw [key,<- L];simp only [mv];by_cases h:b∈x.n
  ·rw [if_pos h];simp [h]
  ·rw [if_neg h];simp [h]
theorem yT (b:Int):∀ (l:List jq) (i:Int),(mv b l i).Pairwise (·<·)
 | [],_=>.nil
 | x::r,i=>by
  have e:=yT b r (i+1);simp only [mv];by_cases h:b∈x.n
  ·rw [if_pos h];refine List.pairwise_cons.2 ⟨λj H=>?_,e⟩;obtain ⟨n,_,_⟩:=(yw b r (i+1) j).1 H;omega
  ·rw [if_neg h];exact e
theorem ba8 (c:jv) (b:Int):(kH c b).Nodup:=(yT b c.b 0).imp λh=>by omega
theorem an6 {c:jv} {b j:Int}:j∈kH c b↔∃ y,jr c.b j=some y/\b∈y.n:=by
 unfold kH;rw [yw];constructor
 ·rintro ⟨n,H,y,e,K⟩;exact ⟨y,jz.2 ⟨by omega,by rw [show j.toNat=n by omega];exact e⟩,K⟩
 ·rintro ⟨y,H,e⟩;obtain ⟨a,b⟩:=jz.1 H;exact ⟨j.toNat,by omega,y,b,e⟩
theorem wz (b:Int):∀ {l1 l2:List jq} (i:Int),l1.map (·.n)=l2.map (·.n)->mv b l1 i=mv b l2 i
 | [],[],_,_=>rfl
 | [],_::_,_,h=>by simp at h
 | _::_,[],_,h=>by simp at h
 | x::r,y::s,i,h=>by
  simp only [List.map_cons,List.cons.injEq] at h;simp only [mv,h.1,wz b (i+1) h.2]
def px (c:jv) (b:Int):jq:=(jr c.b b).getD default
theorem ap6 {c:jv} {b:Int} {x:jq} (h:jr c.b b=some x):px c b=x:=by unfold px;rw [h];rfl
section
variable {u:kU} {k:Int} {c:jv} (hck:COk u k c) (hsm:∀ b∈c.b,SmB b)
include hck hsm
omit hck in
theorem aw2 {b:Int} {x:jq} (e:jr c.b b=some x):SmB x:=hsm x (List.mem_of_getElem? (jz.1 e).2)
def dd1 (c:jv) (b:Int) (f:kA) (m:jw Int):Prop:=∀ p∈kH c b,(p,at_ f.A (idx p (kH c b) 0))∈m.es
omit hck hsm in
theorem db9 {ps ags:List Int} (hn:ps.Nodup) (hl:ags.length=ps.length):∃ m,kO (λ(L:Int) (N:(jw Int))=>((jr ps L).bind λuE=>(jr ags L).bind λO=>some (.inl (jw.i N uE O)):Option (((jw Int)) ⊕ (Empty)))) (((ps.length:Int)) - 0).toNat 0 (jw.mk0:jw Int)=some (.inl m)/\∀ (j:Nat) p r,ps[j]?=some p->ags[j]?=some r->m.get p=some r:=by
 rcases np (body:=(λ(L:Int) (N:(jw Int))=>((jr ps L).bind λuE=>(jr ags L).bind λO=>some (.inl (jw.i N uE O)):Option (((jw Int)) ⊕ (Empty))))) (k:=(((ps.length:Int)) - 0).toNat) (i:=0) (s:=(jw.mk0:jw Int)) (λi m=>∀ (j:Nat) p r,(j:Int)<i->ps[j]?=some p->ags[j]?=some r->m.get p=some r) (λ_=>False) (λj p r h=>by omega) (λi m h0 _ hI=>by
  obtain ⟨p,hp,H,_⟩:=kV (xs:=ps) (j:=i) h0 (by omega);obtain ⟨r,W,K,_⟩:=kV (xs:=ags) (j:=i) h0 (by omega);refine .inl ⟨m.i p r,by rw [hp,obS,W,obS],λj q s _ M hs=>?_⟩;rw [zj];by_cases e:q=p
  ·rw [if_pos e];subst e;have:=ab6 hn M H;subst this;rw [hs] at K;exact K.symm
  ·rw [if_neg e];have a0:j≠i.toNat:=λe2=>by subst e2;rw [H] at M;exact e (Option.some.inj M).symm
   exact hI j q s (by omega) M hs) with ⟨m,e1,e2⟩ | ⟨e,_,h⟩
 ·exact ⟨m,e1,λj p r hp W=>e2 j p r (by have:=(lgE.1 hp).1;omega) hp W⟩
 ·exact h.elim
def bf8 (c:jv) (b:Int) (H:List kA) (e:List (jw Int)):Prop:=e.length=H.length/\∀ (q:Nat) f m,H[q]?=some f->e[q]?=some m->dd1 c b f m
theorem bl9:∃ P,qQ c=some P/\P.length=c.b.length/\∀ b x,jr c.b b=some x->∃ H,jr P b=some H/\bf8 c b x.a H:=by
 have aA:=hck.nb;unfold qQ;rw [nW (by omega) (by omega),obS,Int.toNat_natCast]
 rcases np (body:=(λ(uE:Int) (uS:(List (List (jw Int))))=>((jr c.b uE).bind λuQ=>(lQ c uE).bind λuR=>(kO (S:=(List (List (jw Int)))) (X:=Empty) (λuG L=>(jr uQ.a uG).bind λuH=>(kO (S:=(jw Int)) (X:=Empty) (λM uI=>(jr uR M).bind λuJ=>(jr uH.A M).bind λuL=>some (.inl (jw.i uI uJ uL))) (((uR.length:Int):Int) - 0).toNat 0 (jw.mk0:jw Int)).bind (Sum.elim (λuN=>(jr L uE).bind λuO=>(k8 uO ([uN]:List (jw Int))).bind λuP=>some (.inl (L.set (uE).toNat uP))) (λ(K:Empty)=>nomatch K))) (((uQ.a.length:Int):Int) - 0).toNat 0 uS).bind (Sum.elim (λuU=>some (.inl uU)) (λ(K:Empty)=>nomatch K)):Option (((List (List (jw Int)))) ⊕ (Empty))))) (k:=(((c.b.length:Int)) - 0).toNat) (i:=0) (s:=List.replicate c.b.length ([]:List (jw Int))) (λi s=>s.length=c.b.length/\(∀ j:Nat,i<=(j:Int)->j<c.b.length->s[j]?=some [])/\∀ (j:Nat) x,(j:Int)<i->c.b[j]?=some x->∃ H,s[j]?=some H/\bf8 c (j:Int) x.a H) (λ_=>False)
  ⟨by simp,λj _ hj=>by simp [hj],λj x h=>by omega⟩ (λi s h0 h1 hI=>by
   obtain ⟨i1,i2,i3⟩:=hI;obtain ⟨x,hx,a3,_⟩:=kV (xs:=c.b) (j:=i) h0 (by omega);have a7:=hck.bok hx;have a8:=aw2 hsm hx;have a6:=u0 c i (by omega) (lO.2 (by omega));have a5:=i2 i.toNat (by omega) (by omega)
   rcases lB (xs:=x.a) (body:=(λ(uG:Int) (L:(List (List (jw Int))))=>((jr x.a uG).bind λuH=>(kO (S:=(jw Int)) (X:=Empty) (λM uI=>(jr (kH c i) M).bind λuJ=>(jr uH.A M).bind λuL=>some (.inl (jw.i uI uJ uL))) ((((kH c i).length:Int):Int) - 0).toNat 0 (jw.mk0:jw Int)).bind (Sum.elim (λuN=>(jr L i).bind λuO=>(k8 uO ([uN]:List (jw Int))).bind λuP=>some (.inl (L.set (i).toNat uP))) (λ(K:Empty)=>nomatch K)):Option (((List (List (jw Int)))) ⊕ (Empty))))) (s:=s) (λpre t=>∃ H,t=s.set i.toNat H/\bf8 c i pre H) (λ_=>False) ⟨[],(sI a5).symm,rfl,λq f m h=>by simp at h⟩ (λpre f _ t he hI=>by
    obtain ⟨H,j1,j2,j3⟩:=hI;have a1:f∈x.a:=by rw [he];simp
    have hf:=a7.a f a1;obtain ⟨m,g1,g2⟩:=db9 (ba8 c i) (ags:=f.A) hf.2.2.1;have W:=congrArg List.length he;simp at W;have a9:=a8.a;refine .inl ⟨s.set i.toNat (H++[m]),?_,H++[m],rfl,by simp [j2],λq f' m' N hm=>?_⟩
    ·rw [show jr x.a (pre.length : Int) = some f by rw [he]; exact kK, obS];refine kN g1 ?_;have hg:jr t i=some H:=jz.2 ⟨h0,by rw [j1,List.getElem?_set_self (by omega)]⟩;show (jr t i).bind _=_;rw [hg,obS,ka (by rw [j2];simp;omega),obS,j1,List.set_set]
    ·by_cases e:q<pre.length
     ·rw [List.getElem?_append_left e] at N;rw [List.getElem?_append_left (by omega)] at hm;exact j3 q f' m' N hm
     ·have a2:=(lgE.1 N).1;have:q=pre.length:=by simp at a2;omega
      subst this;rw [List.getElem?_append_right (Nat.le_refl _),Nat.sub_self] at N;rw [<- j2,List.getElem?_append_right (Nat.le_refl _),Nat.sub_self] at hm;cases N;cases hm;intro p hp;obtain ⟨j,a4,a0⟩:=ao2 (xs:=kH c i) (i:=0) hp;have O:=(lgE.1 a0).1;have ha:=yi (l:=f.A) (i:=(j:Int)) (by omega) (by omega);rw [a4,Int.zero_add]
      exact zN (g2 j p _ a0 (by have:=(jz.1 ha).2;simpa using this))) with ⟨t,e1,H,e2,e3⟩ | ⟨e,_,h⟩
   rotate_left
   ·exact h.elim
   refine .inl ⟨t,?_,by rw [e2];simpa using i1,λj hj O=>?_,λj y hj hy=>?_⟩
   ·rw [hx,obS,a6,obS];exact kN e1 rfl
   ·rw [e2,List.getElem?_set_ne (by omega)];exact i2 j (by omega) O
   ·by_cases e:j=i.toNat
    ·subst e;rw [a3] at hy;cases hy;refine ⟨H,by rw [e2,List.getElem?_set_self (by omega)],?_⟩;rw [show ((i.toNat:Nat):Int)=i by omega];exact e3
    ·rw [e2,List.getElem?_set_ne (by omega)];exact i3 j y (by omega) hy) with ⟨s,e1,e2,_,e3⟩ | ⟨e,_,h⟩
 ·refine ⟨s,kN e1 rfl,e2,λb x hx=>?_⟩;obtain ⟨h0,h1⟩:=jz.1 hx;have hl:=(lgE.1 h1).1;obtain ⟨H,g1,g2⟩:=e3 b.toNat x (by omega) h1;rw [show ((b.toNat:Nat):Int)=b by omega] at g2;exact ⟨H,jz.2 ⟨h0,g1⟩,g2⟩
 ·exact h.elim
theorem by2:∃ P,qQ c=some P/\∀ b x,jr c.b b=some x->∃ e,jr P b=some e/\bf8 c b x.a e:=by
 obtain ⟨P,K,_,H⟩:=bl9 hck hsm;exact ⟨P,K,H⟩
end
end Unt
end Go.Wk
namespace Go.Wk
open Go
namespace Unt
set_option maxRecDepth 10000
def pl (l:List Int) (n:Int):Int:=idx n l 0
theorem av8 {l:List Int} {n:Int} (h:n∈l):∃ j:Nat,pl l n=(j:Int)/\l[j]?=some n:=by
 obtain ⟨j,_,e⟩:=ao2 (xs:=l) (i:=0) h;exact ⟨j,by unfold pl;omega,e⟩
def stB (c:jv) (l:List Int) (b:Int):jq:=⟨(px c b).a,(px c b).i,(px c b).j,(px c b).on,(px c b).n.map (pl l)⟩
def stC (c:jv) (l:List Int):jv:=⟨c.P,c.r,l.map (stB c l)⟩
def pkF (c:jv) (l:List Int) (i:Int) (b:Int) (f:kA):kA:=⟨f.to,(kH (stC c l) i).map λj=>at_ f.A (idx (at_ l j) (kH c b) 0)⟩
def pkB (c:jv) (l:List Int) (i:Int) (b:Int):jq:=⟨(px c b).a.map (pkF c l i b),(px c b).i,(px c b).j,(px c b).on,(px c b).n.map (pl l)⟩
def pkC (c:jv) (l:List Int):jv:=⟨c.P,c.r,l.mapIdx λi b=>pkB c l (i:Int) b⟩
structure bh9 (l:List Int) (now:jw Int):Prop where
 to:∀ (j:Nat) n,l[j]?=some n->now.get n=some (j:Int)
 of:∀ n x,now.get n=some x->∃ j:Nat,x=(j:Int)/\l[j]?=some n
theorem bh9.nodup {l:List Int} {now:jw Int} (h:bh9 l now):(now.es.map (·.2)).Nodup:=by
 refine List.pairwise_map.2 (List.Pairwise.imp_of_mem (λ{a b} K M _ _=>?_) now.so);obtain ⟨i,_,L⟩:=h.of a.1 a.2 ((lx now.nodup).2 K);obtain ⟨j,_,H⟩:=h.of b.1 b.2 ((lx now.nodup).2 M);have:i=j:=by omega
 subst this;rw [L] at H;have:=Option.some.inj H;omega
theorem cw0 {l:List Int} (hn:l.Nodup):∃ now,kO (λ(M:Int) (O:(jw Int))=>((jr l M).bind λN=>some (.inl (jw.i O N M)):Option (((jw Int)) ⊕ (Empty)))) (((l.length:Int)) - 0).toNat 0 (jw.mk0:jw Int)=some (.inl now)/\bh9 l now:=by
 rcases np (body:=(λ(M:Int) (O:(jw Int))=>((jr l M).bind λN=>some (.inl (jw.i O N M)):Option (((jw Int)) ⊕ (Empty))))) (k:=(((l.length:Int)) - 0).toNat) (i:=0) (s:=(jw.mk0:jw Int)) (λi m=>(∀ (j:Nat) n,(j:Int)<i->l[j]?=some n->m.get n=some (j:Int))/\∀ n x,m.get n=some x->∃ j:Nat,x=(j:Int)/\(j:Int)<i/\l[j]?=some n) (λ_=>False) ⟨λj n h=>by omega,λn x h=>by cases h⟩ (λi m h0 h1 hI=>by
  obtain ⟨i1,i2⟩:=hI;obtain ⟨p,hp,K,_⟩:=kV (xs:=l) (j:=i) h0 (by omega);refine .inl ⟨m.i p i,by rw [hp,obS],λj n hj H=>?_,λn x L=>?_⟩
  ·rw [zj];by_cases e:n=p
   ·subst e;have:=ab6 hn H K;subst this;rw [if_pos rfl];congr 1;omega
   ·rw [if_neg e];have a0:j≠i.toNat:=λW=>by subst W;rw [K] at H;exact e (Option.some.inj H).symm
    exact i1 j n (by omega) H
  ·rw [zj] at L;by_cases e:n=p
   ·subst e;rw [if_pos rfl] at L;cases L;exact ⟨i.toNat,by omega,by omega,K⟩
   ·rw [if_neg e] at L;obtain ⟨j,h3,_,h5⟩:=i2 n x L
    exact ⟨j,h3,by omega,h5⟩) with ⟨m,e1,W,e3⟩ | ⟨e,_,h⟩
 ·exact ⟨m,e1,λj n hj=>W j n (by have:=(lgE.1 hj).1;omega) hj,λn x L=>by obtain ⟨j,h1,_,h3⟩:=e3 n x L;exact ⟨j,h1,h3⟩⟩
 ·exact h.elim
theorem bz9 {l : List Int} {now : jw Int} (K : bh9 l now) : ∀ (es : List (Int × Int)) (L : jw Int), (es.map (·.1)).Nodup -> ∃ m, lM (fun (p : Int × Int) (xs : jw Int) => ((if (jw.get now p.1).isSome then some (jw.i xs ((jw.get now p.1).getD 0) p.2) else some xs : Option ((jw Int))).bind fun s => some s : Option ((jw Int))).bind fun s => some s) es L = some m /\
  (∀ (j:Nat) p r,l[j]?=some p->(p,r)∈es->m.get (j:Int)=some r)/\∀ (j:Nat) p,l[j]?=some p->(∀ r,(p,r) ∉ es)->m.get (j:Int)=L.get (j:Int)
 | [],L,_=>⟨L,rfl,λj p r _ h=>by simp at h,λ_ _ _ _=>rfl⟩
 | (q,s)::es,L,hn=>by
  rw [List.map_cons,List.nodup_cons] at hn;have hq:∀ r,(q,r) ∉ es:=λr h=>hn.1 (List.mem_map.2 ⟨_,h,rfl⟩)
  simp only [lM];cases M:now.get q with
  | none =>
   obtain ⟨m,h1,h2,N⟩:=bz9 K es L hn.2;refine ⟨m,by simpa [M] using h1,λj p r H h=>?_,λj p H h=>N j p H λr hr=>h r (List.mem_cons_of_mem _ hr)⟩;rcases List.mem_cons.1 h with e | e
   ·have W:p=q:=congrArg Prod.fst e;rw [W] at H;have:=K.to j q H;rw [M] at this;cases this
   ·exact h2 j p r H e
  | some y =>
   obtain ⟨i,O,a0⟩:=K.of q y M;subst O;obtain ⟨m,h1,h2,N⟩:=bz9 K es (L.i (i:Int) s) hn.2;refine ⟨m,by simpa [M] using h1,λj p r H h=>?_,λj p H h=>?_⟩
   ·rcases List.mem_cons.1 h with e | e
    ·have W:p=q:=congrArg Prod.fst e;have e2:r=s:=congrArg Prod.snd e;subst W;subst e2
     have a1:(j:Int)=(i:Int):=by
      have:=K.to j p H;rw [M] at this;exact (Option.some.inj this).symm
     rw [N j p H hq,zj,if_pos a1]
    ·exact h2 j p r H e
   ·rw [N j p H λr hr=>h r (List.mem_cons_of_mem _ hr),zj,if_neg];intro e;have:j=i:=by omega
    subst this;rw [a0] at H;cases H;exact h s (List.mem_cons_self ..)
def db3 (c:jv) (l:List Int) (b:Int) (f:kA) (m:jw Int):Prop:=∀ (j:Nat) p,l[j]?=some p->p∈kH c b->m.get (j:Int)=some (at_ f.A (idx p (kH c b) 0))
def bq6 (c:jv) (l:List Int) (b:Int) (H:List kA) (e:List (jw Int)):Prop:=e.length=H.length/\∀ (q:Nat) f m,H[q]?=some f->e[q]?=some m->db3 c l b f m
section
variable {u:kU} {k:Int} {c:jv} (hck:COk u k c) (hsm:∀ b∈c.b,SmB b) {l:List Int} (hol:ag7 c l)
include hck hsm hol
omit hck hol in
theorem cj3 {now:jw Int} (W:bh9 l now) {i:Int} (h0:0<=i) {b:Int} {x:jq} (hx:jr c.b b=some x) {L:List (jw Int)} (K:bf8 c b x.a L) {s:List (List (jw Int))} (hs:s[i.toNat]?=some []) :
  ∃ H,kO (λ(uG:Int) (uD:(List (List (jw Int))))=>((jr L uG).bind λuH=>((xI (List.map (λq=>q.2) now.es)).bind λ_=>(lM (λ(M:Int × Int) (uE:(jw Int))=>((if (jw.get now M.1).isSome then some (jw.i uE ((jw.get now M.1).getD 0) M.2) else some uE:Option ((jw Int))).bind λuI=>some uI:Option ((jw Int))).bind λuJ=>some uJ) (uH:jw Int).es (jw.mk0:jw Int)).bind (λuL=>some uL):Option ((jw Int))).bind λuN=>(jr uD i).bind λuO=>(k8 uO ([uN]:List (jw Int))).bind λuP=>some (.inl (uD.set (i).toNat uP)):Option (((List (List (jw Int)))) ⊕ (Empty)))) (((L.length:Int)) - 0).toNat 0 s=some (.inl (s.set i.toNat H))/\bq6 c l b x.a H:=by
 have a4:=aw2 hsm hx;have a7:=(lgE.1 hs).1
 rcases lB (xs:=L) (body:=(λ(uG:Int) (uD:(List (List (jw Int))))=>((jr L uG).bind λuH=>((xI (List.map (λq=>q.2) now.es)).bind λ_=>(lM (λ(M:Int × Int) (uE:(jw Int))=>((if (jw.get now M.1).isSome then some (jw.i uE ((jw.get now M.1).getD 0) M.2) else some uE:Option ((jw Int))).bind λuI=>some uI:Option ((jw Int))).bind λuJ=>some uJ) (uH:jw Int).es (jw.mk0:jw Int)).bind (λuL=>some uL):Option ((jw Int))).bind λuN=>(jr uD i).bind λuO=>(k8 uO ([uN]:List (jw Int))).bind λuP=>some (.inl (uD.set (i).toNat uP)):Option (((List (List (jw Int)))) ⊕ (Empty))))) (s:=s) (λpre t=>∃ H,t=s.set i.toNat H/\H.length=pre.length/\∀ (q:Nat) f m,q<pre.length->x.a[q]?=some f->H[q]?=some m->db3 c l b f m) (λ_=>False) ⟨[],(sI hs).symm,rfl,λq f m h=>by simp at h⟩ (λpre m0 _ t he hI=>by
  obtain ⟨H,j1,j2,j3⟩:=hI;have a0:=congrArg List.length he;simp at a0;obtain ⟨m,g1,g2,_⟩:=bz9 W m0.es jw.mk0 m0.nodup;have a5:=a4.a;have a6:=K.1;refine .inl ⟨s.set i.toNat (H++[m]),?_,H++[m],rfl,by simp [j2],λq f m' hq N O=>?_⟩
  ·rw [show jr L (pre.length : Int) = some m0 by rw [he]; exact kK, obS];have hg:xI (List.map (λq=>q.2) now.es)=some ():=by unfold xI;rw [if_pos W.nodup]
   refine kN (a:=m) ?_ ?_
   ·rw [hg,obS];exact kN g1 rfl
   ·have a2 : jr t i = some H := jz.2 ⟨h0, by rw [j1, List.getElem?_set_self (by omega)]⟩;rw [a2,obS,ka (by rw [j2];simp;omega),obS,j1,List.set_set]
  ·by_cases e:q<pre.length
   ·rw [List.getElem?_append_left (by omega)] at O;exact j3 q f m' e N O
   ·have : q = pre.length := by simp at hq; omega
    subst this;rw [<- j2,List.getElem?_append_right (Nat.le_refl _),Nat.sub_self] at O;cases O;have a1:L[pre.length]?=some m0:=by rw [he];simp
    have a3:=K.2 pre.length f m0 (by rw [<- j2] at N ⊢;exact N) a1
    exact λj p hj hp=>g2 j p _ hj (a3 p hp)) with ⟨t,e1,H,e2,e3,e4⟩ | ⟨e,_,h⟩
 ·refine ⟨H, by rw [e1, e2], by rw [e3, K.1], fun q f m N O => ?_⟩;have:=(lgE.1 N).1;exact e4 q f m (by rw [K.1];exact this) N O
 ·exact h.elim
end
end Unt
end Go.Wk
namespace Go.Wk
open Go
namespace Unt
set_option maxRecDepth 10000
theorem cf1 (xs:List Int) (v:Int):lj xs v=some (idx v xs 0):=by
 unfold lj;rw [x7 (λK H (O:Unit)=>if decide (H=v) then some (.inr K) else some (.inl ()))]
 have:∀ (xs:List Int) (i:Int),(oA (λK H (O:Unit)=>if decide (H=v) then some (Sum.inr K) else some (.inl ())) xs i ()).bind (Sum.elim (λ_=>some (-1)) (λL=>some L))=some (idx v xs i):=by
  intro xs
  induction xs with
  | nil=>intro i;rfl
  | cons x r M =>
   intro i;simp only [oA,idx];by_cases e:v=x
   ·subst e;simp
   ·have N:¬ x=v:=λh=>e h.symm
    simp only [N,decide_false,Bool.false_eq_true,if_false,e];exact M (i+1)
 exact this xs 0
end Unt
end Go.Wk
namespace Go.Wk
open Go
namespace Unt
set_option maxRecDepth 10000
section
variable {u:kU} {k:Int} {c:jv} (hck:COk u k c) (hsm:∀ b∈c.b,SmB b) {l:List Int} (hol:ag7 c l)
include hck hsm hol
omit hck hsm in
theorem af1 {j:Nat} {b:Int} (h:l[j]?=some b):∃ x,jr c.b b=some x/\px c b=x:=by
 have:=hol.rng b (List.mem_of_getElem? h);obtain ⟨x,e,_⟩:=kV (xs:=c.b) this.1 this.2;exact ⟨x,e,ap6 e⟩
omit hck hsm in
theorem bb9 {j:Nat} {b n:Int} {x:jq} (h:l[j]?=some b) (e:jr c.b b=some x) (H:n∈x.n):n∈l :=
 hol.closed b (List.mem_of_getElem? h) n (by rw [nZ e];exact H)
omit hck hsm in
theorem bb3 {i j b:Int} (h0:0<=i) (hb:l[i.toNat]?=some b) (O:j∈kH (stC c l) i):∃ p,0<=j/\l[j.toNat]?=some p/\at_ l j=p/\p∈kH c b:=by
 obtain ⟨y,W,hn⟩:=an6.1 O;obtain ⟨j0,L⟩:=jz.1 W;have e:(l.map (stB c l))[j.toNat]?=some y:=L;rw [List.getElem?_map] at e;cases hp:l[j.toNat]? with
 | none=>rw [hp] at e;simp at e
 | some p =>
  rw [hp] at e;simp only [Option.map_some,osI] at e;subst e;obtain ⟨x,N,M⟩:=af1 hol hp;obtain ⟨n,H,_⟩:=List.mem_map.1 hn;rw [M] at H;have hnl:=bb9 hol hp N H;obtain ⟨q,_,K⟩:=av8 hnl;have:q=i.toNat:=by omega
  subst this;rw [hb] at K;cases K;refine ⟨p,j0,rfl,?_,an6.2 ⟨x,N,H⟩⟩;unfold at_;rw [List.getD_eq_getElem?_getD,hp];rfl
def bc4 (c:jv) (l:List Int) (i:Int) (xs:List jq):Prop:=xs.length=l.length/\∀ (j:Nat) b,l[j]?=some b->xs[j]?=some (if (j:Int)<i then pkB c l (j:Int) b else stB c l b)
omit hck hsm hol in
theorem bg5:bc4 c l 0 (l.map (stB c l)):=⟨by simp,λj b h=>by rw [List.getElem?_map,h,if_neg (by omega)];rfl⟩
omit hck hsm hol in
theorem bk8 {xs:List jq} (h:bc4 c l (l.length:Int) xs):xs=l.mapIdx λi b=>pkB c l (i:Int) b:=by
 apply List.ext_getElem?;intro j;rw [List.getElem?_mapIdx];cases e:l[j]? with
 | none =>
  have:=List.getElem?_eq_none_iff.1 e;rw [List.getElem?_eq_none (by rw [h.1];exact this)];rfl
 | some b =>
  have:=(lgE.1 e).1;rw [h.2 j b e,if_pos (by omega)];rfl
omit hck hsm hol in
theorem bi1 {i:Int} {xs:List jq} (h:bc4 c l i xs) (b:Int):kH ⟨c.P,c.r,xs⟩ b=kH (stC c l) b:=by
 refine wz b 0 ?_;apply List.ext_getElem?;intro j;show (xs.map (·.n))[j]?=((l.map (stB c l)).map (·.n))[j]?;rw [List.getElem?_map,List.getElem?_map,List.getElem?_map];cases e:l[j]? with
 | none =>
  have:=List.getElem?_eq_none_iff.1 e;rw [List.getElem?_eq_none (by rw [h.1];exact this)];rfl
 | some b =>
  rw [h.2 j b e];split<;>rfl
def va (c:jv) (l:List Int) (i b:Int) (q:Nat):jq:=⟨((px c b).a.take q).map (pkF c l i b)++(px c b).a.drop q,(px c b).i,(px c b).j,(px c b).on,(px c b).n.map (pl l)⟩
omit hck hsm hol in
theorem bj3 {i b:Int} {q:Nat} {f:kA} (K:(px c b).a[q]?=some f):(((px c b).a.take q).map (pkF c l i b)++(px c b).a.drop q)[q]?=some f /\
  (((px c b).a.take q).map (pkF c l i b)++(px c b).a.drop q).set q (pkF c l i b f)=((px c b).a.take (q+1)).map (pkF c l i b)++(px c b).a.drop (q+1):=by
 obtain ⟨M,L⟩:=lgE.1 K;have e:(((px c b).a.take q).map (pkF c l i b)).length=q:=by simp;omega
 have H:(px c b).a.drop q=f::(px c b).a.drop (q+1):=by rw [List.drop_eq_getElem_cons M,L]
 constructor
 ·rw [List.getElem?_append_right (by omega),e,Nat.sub_self,H];rfl
 ·rw [List.set_append_right _ _ (by omega), e, Nat.sub_self, H, List.set_cons_zero, List.take_add_one, K];simp
omit hsm in
theorem bo8 {i b:Int} {x:jq} (h0:0<=i) (hb:l[i.toNat]?=some b) (hx:jr c.b b=some x) {K:List (jw Int)} (L:bq6 c l b x.a K) {xs:List jq} (W:bc4 c l i xs) :
  kO (λ(M:Int) (O:(List jq))=>((jr K M).bind λuG=>((jr O i).bind λH=>(mJ (kH (stC c l) i) (λy0=>nG y0 uG)).bind λuH=>(jr H.a M).bind λuI=>some (O.set (i).toNat (⟨(H.a.set (M).toNat (⟨uI.to,uH⟩:kA)),H.i,H.j,H.on,H.n⟩:jq)):Option ((List jq))).bind λuJ=>some (.inl uJ):Option (((List jq)) ⊕ (Empty)))) (((K.length:Int)) - 0).toNat 0 xs=some (.inl (xs.set i.toNat (pkB c l i b))):=by
 have N:=ap6 hx;have a8:=(lgE.1 hb).1;have a9:xs[i.toNat]?=some (va c l i b 0):=by rw [W.2 i.toNat b hb,if_neg (by omega)];simp [va,stB]
 have aC:=hck.nb
 have aA:(kH (stC c l) i).length<=1048576:=by
  have:=pJ (stC c l) i;have h2:(stC c l).b.length=l.length:=by simp [stC]
  have:=hol.len;omega
 rcases lB (xs:=K) (body:=(λ(M:Int) (O:(List jq))=>((jr K M).bind λuG=>((jr O i).bind λH=>(mJ (kH (stC c l) i) (λy0=>nG y0 uG)).bind λuH=>(jr H.a M).bind λuI=>some (O.set (i).toNat (⟨(H.a.set (M).toNat (⟨uI.to,uH⟩:kA)),H.i,H.j,H.on,H.n⟩:jq)):Option ((List jq))).bind λuJ=>some (.inl uJ):Option (((List jq)) ⊕ (Empty))))) (s:=xs) (λpre t=>t=xs.set i.toNat (va c l i b pre.length)) (λ_=>False) (sI a9).symm (λpre m _ t he hI=>by
  have hm:K[pre.length]?=some m:=by rw [he];simp
  have aB:=L.1;have a0:=congrArg List.length he;simp at a0;obtain ⟨f,hf⟩:∃ f,x.a[pre.length]?=some f:=⟨_,List.getElem?_eq_getElem (by omega)⟩;have a4:=L.2 _ f m hf hm;obtain ⟨g1,g2⟩:=bj3 (c:=c) (l:=l) (i:=i) (b:=b) (q:=pre.length) (f:=f) (by rw [N];exact hf);refine .inl ⟨xs.set i.toNat (va c l i b (pre.length+1)),?_,by simp⟩;have a5:jr t i=some (va c l i b pre.length):=jz.2 ⟨h0,by rw [hI,List.getElem?_set_self (by rw [W.1];exact a8)]⟩
  have a1:mJ (kH (stC c l) i) (λy0=>nG y0 m)=some (pkF c l i b f).A:=by
   unfold mJ
   have h1:=rl (xs:=kH (stC c l) i) (body:=(λ(uL:Int) (uN:(List Int))=>((jr (kH (stC c l) i) uL).bind λuO=>((λy↦nG y m) uO).bind λuP=>(k8 uN ([uP]:List Int)).bind λuQ=>some (.inl uQ):Option (((List Int)) ⊕ (Empty))))) (λj=>(m.get j).getD 0) (by omega) (λpr j _ s he hs=>by
    rw [show jr (kH (stC c l) i) (pr.length:Int)=some j by rw [he];exact kK,obS];show (some ((m.get j).getD 0)).bind _=_
    rw [obS,ka (by simpa using hs)];rfl)
   refine kN h1 ?_;show some _=some _
   congr 1
   refine List.map_congr_left λj hj=>?_
   obtain ⟨p,_,a2,a7,a6⟩:=bb3 hol h0 hb hj;have:=a4 j.toNat p a2 a6;rw [show ((j.toNat:Nat):Int)=j by omega] at this;rw [this,a7];rfl
  have a3:jr (va c l i b pre.length).a (pre.length:Int)=some f:=jz.2 ⟨by omega,by rw [Int.toNat_natCast];exact g1⟩;rw [show jr K (pre.length:Int)=some m by rw [he];exact kK,obS,a5,obS,a1,obS,a3,obS,obS];rw [hI,List.set_set]
  have g3:(va c l i b pre.length).a.set ((pre.length:Int)).toNat ⟨f.to,(pkF c l i b f).A⟩=(va c l i b (pre.length+1)).a:=by
   rw [Int.toNat_natCast];exact g2
  rw [g3];rfl) with ⟨t,e1,e2⟩ | ⟨e,_,h⟩
 ·rw [e1,e2]
  have:va c l i b K.length=pkB c l i b:=by
   unfold va pkB;rw [L.1,N,List.take_length,List.drop_length,List.append_nil]
  rw [this]
 ·exact h.elim
omit hck hsm hol in
theorem bs7 {i b:Int} (h0:0<=i) (N:l[i.toNat]?=some b) {xs:List jq} (H:bc4 c l i xs):bc4 c l (i+1) (xs.set i.toNat (pkB c l i b)):=by
 refine ⟨by simpa using H.1,λj M K=>?_⟩;have L:=(lgE.1 K).1;by_cases e:j=i.toNat
 ·subst e;rw [N] at K;cases K;rw [List.getElem?_set_self (by rw [H.1];exact L),if_pos (by omega),show ((i.toNat:Nat):Int)=i by omega]
 ·rw [List.getElem?_set_ne (by omega), H.2 j M K];by_cases q:(j:Int)<i
  ·rw [if_pos q,if_pos (by omega)]
  ·rw [if_neg q,if_neg (by omega)]
omit hsm in
theorem bw9 {ph:List (List (jw Int))} (a0:∀ (j:Nat) b x,l[j]?=some b->jr c.b b=some x->∃ M,ph[j]?=some M/\bq6 c l b x.a M):rO (stC c l) ph=some (pkC c l):=by
 have a4:=hck.nb;have a3:=hol.len;have K:(stC c l).b.length=l.length:=by simp [stC]
 unfold rO
 rcases np (body:=(λ(O:Int) (uG:(List jq))=>((lQ (⟨(stC c l).P,(stC c l).r,uG⟩:jv) O).bind λuJ=>(jr ph O).bind λuH=>(kO (S:=(List jq)) (X:=Empty) (λW uI=>(jr uH W).bind λuL=>((jr uI O).bind λL=>(mJ uJ (λy0=>nG y0 uL)).bind λuN=>(jr L.a W).bind λuO=>some (uI.set (O).toNat (⟨(L.a.set (W).toNat (⟨uO.to,uN⟩:kA)),L.i,L.j,L.on,L.n⟩:jq)):Option ((List jq))).bind λuP=>some (.inl uP)) (((uH.length:Int):Int) - 0).toNat 0 uG).bind (Sum.elim (λuQ=>some (.inl uQ)) (λ(e0:Empty)=>nomatch e0)):Option (((List jq)) ⊕ (Empty))))) (k:=((((stC c l).b.length:Int)) - 0).toNat) (i:=0) (s:=(stC c l).b) (λi xs=>bc4 c l i xs) (λ_=>False) bg5 (λi xs h0 h1 H=>by
  rw [K] at h1;obtain ⟨b,_,N,_⟩:=kV (xs:=l) (j:=i) h0 (by omega);obtain ⟨x,hx,_⟩:=af1 hol N;obtain ⟨M,a1,a2⟩:=a0 i.toNat b x N hx
  have hp:lQ (⟨(stC c l).P,(stC c l).r,xs⟩:jv) i=some (kH (stC c l) i):=by
   rw [u0 _ _ (by show xs.length<=_;rw [H.1];omega) (lO.2 (by show _/\_<=(xs.length:Int) - 1;rw [H.1];omega))];exact congrArg some (bi1 H i)
  refine .inl ⟨xs.set i.toNat (pkB c l i b),?_,bs7 h0 N H⟩;rw [hp,obS,show jr ph i=some M from jz.2 ⟨h0,a1⟩,obS]
  exact kN (bo8 hck hol h0 N hx a2 H) rfl) with ⟨xs,e1,e2⟩ | ⟨e,_,h⟩
 ·refine kN e1 ?_;have:xs=l.mapIdx λi b=>pkB c l (i:Int) b:=bk8 (by rw [K] at e2;simpa using e2)
  show some (⟨c.P,c.r,xs⟩:jv)=_;rw [this];rfl
 ·exact h.elim
theorem bu6:tD c l=some (pkC c l):=by
 have a9:=hck.nb;have a8:=hol.len;obtain ⟨now,n1,n2⟩:=cw0 hol.nodup;obtain ⟨P,p1,p2⟩:=by2 hck hsm;unfold tD;refine kN n1 ?_;show (qQ c).bind _=_;rw [p1,obS,nW (by omega) (by omega),obS,Int.toNat_natCast]
 rcases np (body := (fun (uG : Int) (uJ : (List jq) × (List (List (jw Int)))) => ((jr l uG).bind fun uL => (jr c.b uL).bind fun uQ => (mr uQ).bind fun N => (kO (S := (List Int)) (X := Empty) (fun uD W => (jr W uD).bind fun uH => some (.inl (W.set (uD).toNat ((jw.get now uH).getD 0)))) (((N.n.length : Int) : Int) - 0).toNat 0 N.n).bind (Sum.elim (fun uR => (jr P uL).bind fun uN => (kO (S := (List (List (jw Int)))) (X := Empty) (fun uS uO => (jr uN uS).bind fun uU => ((xI (List.map (fun q => q.2) now.es)).bind fun _ => (lM (fun (uI : Int × Int) (uP : (jw Int)) => ((if (jw.get now uI.1).isSome then some (jw.i uP ((jw.get now uI.1).getD 0) uI.2) else some uP : Option ((jw Int))).bind fun uV => some uV : Option ((jw Int))).bind fun uW => some uW) (uU : jw Int).es (jw.mk0 : jw Int)).bind (fun uX => some uX) : Option ((jw Int))).bind fun uY => (jr uO uG).bind fun uZ => (k8 uZ ([uY] : List (jw Int))).bind fun vA => some (.inl (uO.set (uG).toNat vA))) (((uN.length : Int) : Int) - 0).toNat 0 uJ.2).bind (Sum.elim (fun vB => (k8 uJ.1 ([(⟨N.a, N.i, N.j, N.on, uR⟩ : jq)] : List jq)).bind fun vC => some (.inl (vC, vB))) (fun (e0 : Empty) => nomatch e0))) (fun (e0 : Empty) => nomatch e0)) : Option (((List jq) × (List (List (jw Int)))) ⊕ (Empty))))) (k := (((l.length : Int)) - 0).toNat) (i := 0) (s := (([] : List jq), List.replicate l.length ([] : List (jw Int)))) (fun i s => s.1 = (l.take i.toNat).map (stB c l) /\ s.2.length = l.length /\ (∀ j : Nat, i <= (j : Int) -> j < l.length -> s.2[j]? = some []) /\ ∀ (j : Nat) b x, (j : Int) < i -> l[j]? = some b -> jr c.b b = some x -> ∃ ms, s.2[j]? = some ms /\ bq6 c l b x.a ms) (fun _ => False)
  ⟨rfl,by simp,λj _ hj=>by simp [hj],λj b x h=>by omega⟩ (λi s h0 _ hI=>by
   obtain ⟨i1,i2,i3,i4⟩:=hI;obtain ⟨b,hb,H,_⟩:=kV (xs:=l) (j:=i) h0 (by omega);obtain ⟨x,K,a1⟩:=af1 hol H;have a6:=aw2 hsm K;obtain ⟨ms,a4,a5⟩:=p2 b x K;obtain ⟨O,g1,g2⟩:=cj3 hsm n2 (i:=i) h0 K a5 (i3 i.toNat (by omega) (by omega))
   have hnx:=bt2 (xs:=x.n) (body:=(λ(uD:Int) (W:(List Int))=>((jr W uD).bind λuH=>some (.inl (W.set (uD).toNat ((jw.get now uH).getD 0))):Option (((List Int)) ⊕ (Empty))))) (pl l) (λpre n _ hn=>by
    obtain ⟨j,a2,a7⟩:=av8 (bb9 hol H K hn);have:=n2.to j n a7
    simp only [kK,obS,this,Option.getD_some,Int.toNat_natCast,nH,a2])
   refine .inl ⟨(s.1++[stB c l b],s.2.set i.toNat O),?_,?_,by simpa using i2,λj hj a3=>?_,λj b' x' hj M L=>?_⟩
   ·rw [hb,obS,K,obS,yZ x a6,obS];refine kN hnx ?_;show (jr P b).bind _=_;rw [a4,obS];refine kN g1 ?_;show (k8 s.1 _).bind _=_;rw [ka (by rw [i1];simp;omega),obS];unfold stB;rw [a1]
   ·rw [i1,show (i+1).toNat=i.toNat+1 by omega,List.take_add_one,H];simp
   ·dsimp only;rw [List.getElem?_set_ne (by omega)];exact i3 j (by omega) a3
   ·dsimp only;by_cases e:j=i.toNat
    ·subst e;rw [H] at M;cases M;rw [K] at L;cases L;exact ⟨O,by rw [List.getElem?_set_self (by omega)],g2⟩
    ·rw [List.getElem?_set_ne (by omega)];exact i4 j b' x' (by omega) M L) with ⟨⟨bs,ph⟩,e1,e2,_,_,e5⟩ | ⟨e,_,h⟩
 ·refine kN e1 ?_;dsimp only at e2 e5;have a0:bs=l.map (stB c l):=by rw [e2,List.take_of_length_le (by omega)]
  show (rO ⟨c.P,c.r,bs⟩ ph).bind _=_;have:=bw9 hck hol (ph:=ph) (λj b x hb K=>e5 j b x (by have:=(lgE.1 hb).1;omega) hb K);unfold stC at this;rw [a0,this];rfl
 ·exact h.elim
omit hck hsm in
theorem cj5 (a3:c.b.length<=1048576):∃ kf,qi (c.b.length:Int) l=some kf/\kf.length=c.b.length/\∀ n∈l,jr kf n=some (pl l n):=by
 unfold qi;rw [nW (by omega) (by omega),obS,Int.toNat_natCast,show tv (c.b.length:Int)=some () from sM.2 (by omega),obS]
 rcases np (body:=(λ(uC:Int) (uD:(List Int))=>((jr uD uC).bind λ_=>some (.inl (uD.set (uC).toNat (-1))):Option (((List Int)) ⊕ (Empty))))) (k:=(((c.b.length:Int):Int) - 0).toNat) (i:=0) (s:=List.replicate c.b.length (0:Int)) (λ_ s=>s.length=c.b.length) (λ_=>False) (by simp) (λi s h0 h1 O=>by
  obtain ⟨v,hv,_⟩:=kV (xs:=s) (j:=i) h0 (by omega)
  exact .inl ⟨s.set i.toNat (-1),by rw [hv,obS],by simpa using O⟩) with ⟨s,e1,N⟩ | ⟨e,_,h⟩
 rotate_left
 ·exact h.elim
 rcases np (body:=(λ(uE:Int) (uG:(List Int))=>((jr l uE).bind λuH=>(jr uG uH).bind λ_=>some (.inl (uG.set (uH).toNat uE)):Option (((List Int)) ⊕ (Empty))))) (k:=(((l.length:Int)) - 0).toNat) (i:=0) (s:=s) (λi s=>s.length=c.b.length/\∀ (j:Nat) n,(j:Int)<i->l[j]?=some n->jr s n=some (j:Int)) (λ_=>False) ⟨N,λj n h=>by omega⟩ (λi s h0 h1 O=>by
  obtain ⟨i1,i2⟩:=O;obtain ⟨n,W,H,a0⟩:=kV (xs:=l) (j:=i) h0 (by omega);have hr:=hol.rng n a0;obtain ⟨v,hv,_⟩:=kV (xs:=s) (j:=n) hr.1 (by omega);refine .inl ⟨s.set n.toNat i,by rw [W,obS,hv,obS],by simpa using i1,λj m _ K=>?_⟩;have a1:=hol.rng m (List.mem_of_getElem? K);by_cases e:m=n
  ·subst e;have:=ab6 hol.nodup K H;subst this;exact jz.2 ⟨hr.1,by rw [List.getElem?_set_self (by omega)];congr 1;omega⟩
  ·have a2 : j ≠ i.toNat := fun N => by subst N; rw [H] at K; exact e (Option.some.inj K).symm
   have h3:=(jz.1 (i2 j m (by omega) K)).2
   exact jz.2 ⟨a1.1,by rw [List.getElem?_set_ne (by omega)];exact h3⟩) with ⟨t,f1,f2,f3⟩ | ⟨e,_,h⟩
 ·refine ⟨t,?_,f2,λn W=>?_⟩
  ·refine kN e1 ?_;exact kN f1 rfl
  ·obtain ⟨j,M,L⟩:=av8 W;rw [M];exact f3 j n (by have:=(lgE.1 L).1;omega) L
 ·exact h.elim
theorem cf2 {i b:Int} {x:jq} (h0:0<=i) (hb:l[i.toNat]?=some b) (hx:jr c.b b=some x) {xs:List jq} (a0:bc4 c l i xs) :
  kx (λ(H:(List jq) × Int)=>((jr H.1 i).bind λuR=>if decide (H.2<((uR.a.length:Int))) then (kO (S:=(List Int)) (X:=Empty) (λuE uG=>((jr (kH (stC c l) i) uE).bind λuH=>(jr H.1 i).bind λuI=>(jr l uH).bind λuJ=>(jr uI.a H.2).bind λuL=>(lj (kH c b) uJ).bind λuN=>(jr uL.A uN).bind λuO=>(k8 uG ([uO]:List Int)).bind λuP=>some uP:Option ((List Int))).bind λO=>some (.inl O)) ((((kH (stC c l) i).length:Int):Int) - 0).toNat 0 ([]:List Int)).bind (Sum.elim (λuS=>(jr H.1 i).bind λK=>(jr K.a H.2).bind λuU=>some (.inl ((H.1.set (i).toNat (⟨(K.a.set (H.2).toNat (⟨uU.to,uS⟩:kA)),K.i,K.j,K.on,K.n⟩:jq)),w64 (H.2+1)))) (λ(e0:Empty)=>nomatch e0)) else some (.inr H.1):Option (((List jq) × Int) ⊕ ((List jq))))) (xs,0)=some (xs.set i.toNat (pkB c l i b)):=by
 have N:=ap6 hx;have a8:=(lgE.1 hb).1;have aB:xs[i.toNat]?=some (va c l i b 0):=by rw [a0.2 i.toNat b hb,if_neg (by omega)];simp [va,stB]
 have a6:=hck.bok hx;have a1:=aw2 hsm hx
 have aD:(kH (stC c l) i).length<=1048576:=by
  have:=pJ (stC c l) i;have h2:(stC c l).b.length=l.length:=by simp [stC]
  have:=hol.len;have:=hck.nb;omega
 obtain ⟨t,e1,e2⟩:=lp (b1:=(λ(H:(List jq) × Int)=>((jr H.1 i).bind λuR=>if decide (H.2<((uR.a.length:Int))) then (kO (S:=(List Int)) (X:=Empty) (λuE uG=>((jr (kH (stC c l) i) uE).bind λuH=>(jr H.1 i).bind λuI=>(jr l uH).bind λuJ=>(jr uI.a H.2).bind λuL=>(lj (kH c b) uJ).bind λuN=>(jr uL.A uN).bind λuO=>(k8 uG ([uO]:List Int)).bind λuP=>some uP:Option ((List Int))).bind λO=>some (.inl O)) ((((kH (stC c l) i).length:Int):Int) - 0).toNat 0 ([]:List Int)).bind (Sum.elim (λuS=>(jr H.1 i).bind λK=>(jr K.a H.2).bind λuU=>some (.inl ((H.1.set (i).toNat (⟨(K.a.set (H.2).toNat (⟨uU.to,uS⟩:kA)),K.i,K.j,K.on,K.n⟩:jq)),w64 (H.2+1)))) (λ(e0:Empty)=>nomatch e0)) else some (.inr H.1):Option (((List jq) × Int) ⊕ ((List jq)))))) (λs:List jq × Int=>0<=s.2/\s.2<=(x.a.length:Int)/\s.1=xs.set i.toNat (va c l i b s.2.toNat)) (λt=>t=xs.set i.toNat (pkB c l i b)) (λs=>((x.a.length:Int) - s.2).toNat) (λs hs=>by
  obtain ⟨t,q⟩:=s;obtain ⟨q0,q1,hI⟩:=hs;dsimp only at q0 q1 hI ⊢;have L:jr t i=some (va c l i b q.toNat):=jz.2 ⟨h0,by rw [hI,List.getElem?_set_self (by rw [a0.1];exact a8)]⟩
  have M:((va c l i b q.toNat).a.length:Int)=(x.a.length:Int):=by
   show (((((px c b).a.take q.toNat).map (pkF c l i b)++(px c b).a.drop q.toNat)).length:Int)=_;rw [N];simp;omega
  by_cases e:q<(x.a.length:Int)
  ·left;obtain ⟨f,_,aA,a2⟩:=kV (xs:=x.a) (j:=q) q0 e;obtain ⟨g1,g2⟩:=bj3 (c:=c) (l:=l) (i:=i) (b:=b) (q:=q.toNat) (f:=f) (by rw [N];exact aA);have aC:=a6.a f a2;have W:jr (va c l i b q.toNat).a q=some f:=jz.2 ⟨q0,g1⟩;have hw:w64 (q+1)=q+1:=kv (by have:=a1.a;omega) (by have:=a1.a;omega)
   have h1:=rl (xs:=kH (stC c l) i) (body:=(λ(uE:Int) (uG:(List Int))=>(((jr (kH (stC c l) i) uE).bind λuH=>(jr (t,q).1 i).bind λuI=>(jr l uH).bind λuJ=>(jr uI.a (t,q).2).bind λuL=>(lj (kH c b) uJ).bind λuN=>(jr uL.A uN).bind λuO=>(k8 uG ([uO]:List Int)).bind λuP=>some uP:Option ((List Int))).bind λO=>some (.inl O):Option (((List Int)) ⊕ (Empty))))) (λj=>at_ f.A (idx (at_ l j) (kH c b) 0)) (by omega) (λpr j _ s he hs=>by
    have a7:j∈kH (stC c l) i:=by rw [he];simp
    obtain ⟨p,j0,a3,a5,a4⟩:=bb3 hol h0 hb a7;obtain ⟨n,_,a9⟩:=ao2 (xs:=kH c b) (i:=0) a4;have hnl:=(lgE.1 a9).1;have ha:=yi (l:=f.A) (i:=idx p (kH c b) 0) (by omega) (by omega);dsimp only
    rw [show jr (kH (stC c l) i) (pr.length:Int)=some j by rw [he];exact kK,obS,L,obS,show jr l j=some p from jz.2 ⟨j0,a3⟩,obS,W,obS,cf1,obS,ha,obS,ka (by simpa using hs),a5];rfl)
   refine ⟨(xs.set i.toNat (va c l i b (q.toNat+1)),q+1),?_,⟨by dsimp only;omega,by dsimp only;omega,by dsimp only;rw [show (q+1).toNat=q.toNat+1 by omega]⟩,by dsimp only;omega⟩;refine kN L ?_;rw [if_pos (by rw [M];simpa using e)];refine kN h1 ?_;refine kN L ?_;refine kN W ?_;rw [hw,hI,List.set_set];have g3:(va c l i b q.toNat).a.set q.toNat ⟨f.to,(pkF c l i b f).A⟩=(va c l i b (q.toNat+1)).a:=g2;have g4:(kH (stC c l) i).map (λj=>at_ f.A (idx (at_ l j) (kH c b) 0))=(pkF c l i b f).A:=rfl;rw [g4,g3];rfl
  ·right;refine ⟨t,by rw [L,obS,if_neg (by rw [M];simpa using e)],?_⟩;have hq:q.toNat=x.a.length:=by omega
   have:va c l i b q.toNat=pkB c l i b:=by
    unfold va pkB;rw [hq,N,List.take_length,List.drop_length,List.append_nil]
   rw [hI,this]) (x.a.length+1) (xs,0) ⟨Int.le_refl _,by dsimp only;omega,(sI aB).symm⟩ (by dsimp only;omega)
 rw [e1,e2]
theorem cq8:q7 c l=some (pkC c l):=by
 have a8:=hck.nb;have a7:=hol.len;obtain ⟨kf,p1,p2,p3⟩:=cj5 hol (c:=c) (by omega);unfold q7;rw [p1,obS]
 rcases np (body:=(λ(uQ:Int) (uR:(List jq))=>(((jr l uQ).bind λuS=>(jr c.b uS).bind λuU=>(mz uU).bind λuH=>some (uH.a,uH.i,uH.j,uH.on,uH.n):Option ((List kA) × (List kD) × Int × Int × (List Int))).bind λN=>(kO (S:=(List Int)) (X:=Empty) (λuI uJ=>(jr uJ uI).bind λuL=>(jr kf uL).bind λuN=>some (.inl (uJ.set (uI).toNat uN))) (((N.2.2.2.2.length:Int):Int) - 0).toNat 0 N.2.2.2.2).bind (Sum.elim (λuV=>(k8 uR ([(⟨N.1,N.2.1,N.2.2.1,N.2.2.2.1,uV⟩:jq)]:List jq)).bind λuW=>some (.inl uW)) (λ(e0:Empty)=>nomatch e0)):Option (((List jq)) ⊕ (Empty))))) (k:=(((l.length:Int)) - 0).toNat) (i:=0) (s:=([]:List jq)) (λi s=>s=(l.take i.toNat).map (stB c l)) (λ_=>False) rfl (λi s h0 h1 hI=>by
  obtain ⟨b,hb,H,_⟩:=kV (xs:=l) (j:=i) h0 (by omega);obtain ⟨x,hx,a0⟩:=af1 hol H;have a6:=aw2 hsm hx
  have hnx:=bt2 (xs:=x.n) (body:=(λ(uI:Int) (uJ:(List Int))=>((jr uJ uI).bind λuL=>(jr kf uL).bind λuN=>some (.inl (uJ.set (uI).toNat uN)):Option (((List Int)) ⊕ (Empty))))) (pl l) (λpre n _ W=>by
   have:=p3 n (bb9 hol H hx W)
   simp only [kK,obS,this,Int.toNat_natCast,nH])
  refine .inl ⟨s++[stB c l b],?_,by rw [hI,show (i+1).toNat=i.toNat+1 by omega,List.take_add_one,H];simp⟩;rw [hb,obS,hx,obS,xC x a6,obS,obS];refine kN hnx ?_;show (k8 s _).bind _=_;rw [ka (by rw [hI];simp;omega),obS];unfold stB
  rw [a0]) with ⟨s,e1,e2⟩ | ⟨e,_,h⟩
 rotate_left
 ·exact h.elim
 have hs:s=l.map (stB c l):=by rw [e2,List.take_of_length_le (by omega)]
 subst hs;refine kN e1 ?_
 rcases np (body:=(λ(M:Int) (uO:(List jq))=>((jr l M).bind λuX=>(ku c uX).bind λuY=>(ku (⟨c.P,c.r,uO⟩:jv) M).bind λuP=>((kx (S:=(List jq) × Int) (X:=(List jq)) (λL=>(jr L.1 M).bind λuZ=>if decide (L.2<((uZ.a.length:Int))) then (kO (S:=(List Int)) (X:=Empty) (λvA vB=>((jr uP vA).bind λvC=>(jr L.1 M).bind λvD=>(jr l vC).bind λvE=>(jr vD.a L.2).bind λvF=>(lj uY vE).bind λvG=>(jr vF.A vG).bind λvH=>(k8 vB ([vH]:List Int)).bind λvI=>some vI:Option ((List Int))).bind λvJ=>some (.inl vJ)) (((uP.length:Int):Int) - 0).toNat 0 ([]:List Int)).bind (Sum.elim (λvK=>(jr L.1 M).bind λO=>(jr O.a L.2).bind λvL=>some (.inl ((L.1.set (M).toNat (⟨(O.a.set (L.2).toNat (⟨vL.to,vK⟩:kA)),O.i,O.j,O.on,O.n⟩:jq)),w64 (L.2+1)))) (λ(e0:Empty)=>nomatch e0)) else some (.inr L.1)) (uO,0)).bind (λe0=>some e0):Option ((List jq))).bind λvM=>some (.inl vM):Option (((List jq)) ⊕ (Empty))))) (k:=(((l.length:Int)) - 0).toNat) (i:=0) (s:=l.map (stB c l)) (λi xs=>bc4 c l i xs) (λ_=>False) bg5 (λi xs h0 h1 K=>by
  obtain ⟨b,hb,H,_⟩:=kV (xs:=l) (j:=i) h0 (by omega);obtain ⟨x,hx,a0⟩:=af1 hol H;have a4:ku c b=some (kH c b):=rC c b (by omega) λy hy=>(hsm y hy).next
  have a5:ku (⟨c.P,c.r,xs⟩:jv) i=some (kH (stC c l) i):=by
   rw [rC _ _ (by show xs.length<=_;rw [K.1];omega) (λy hy=>?_)]
   ·exact congrArg some (bi1 K i)
   ·obtain ⟨n,W⟩:=List.getElem?_of_mem hy;have hnl:=(lgE.1 W).1;rw [K.1] at hnl;obtain ⟨b',a1⟩:∃ b',l[n]?=some b':=⟨_,List.getElem?_eq_getElem hnl⟩;obtain ⟨x',a3,a2⟩:=af1 hol a1;rw [K.2 n b' a1] at W;have hnx:((px c b').n.map (pl l)).length<=1048576:=by rw [a2,List.length_map];exact (aw2 hsm a3).next
    split at W<;>(cases W;exact hnx)
  refine .inl ⟨xs.set i.toNat (pkB c l i b),?_,bs7 h0 H K⟩;rw [hb,obS,a4,obS,a5,obS]
  exact kN (kN (cf2 hck hsm hol h0 H hx K) rfl) rfl) with ⟨xs,f1,f2⟩ | ⟨e,_,h⟩
 ·refine kN f1 ?_;have:xs=l.mapIdx λi b=>pkB c l (i:Int) b:=bk8 (by simpa using f2)
  show some (⟨c.P,c.r,xs⟩:jv)=_;rw [this];rfl
 ·exact h.elim
end
end Unt
end Go.Wk
namespace Go.Wk
open Go
namespace Unt
set_option maxRecDepth 10000
theorem aw6 {α β:Type} {f:α->β} {l:List α} (M:l.Nodup) (h:∀ a∈l,∀ b∈l,f a=f b->a=b):(l.map f).Nodup :=
 List.pairwise_map.2 (List.Pairwise.imp_of_mem (λ{a b} K L H e=>H (h a K b L e)) M)
theorem bu2 {α:Type} {f:α->Nat} {l l':List α} (h:l.Perm l'):lD f l=lD f l':=by
 induction h with
 | nil=>rfl
 | cons x _ H=>simp only [lD,H]
 | swap x y l=>simp only [lD];omega
 | trans _ _ e K=>exact e.trans K
theorem ak1 {α β:Type} {f:β->Nat} {g:α->β}:∀ {l:List α},lD f (l.map g)=lD (λx=>f (g x)) l
 | []=>rfl
 | x::r=>by simp only [List.map_cons,lD,ak1 (l:=r)]
theorem y8 {α:Type} {f g:α->Nat}:∀ {l:List α},(∀ x∈l,f x=g x)->lD f l=lD g l
 | [],_=>rfl
 | x::r,h=>by simp only [lD];rw [h x (by simp),y8 (l:=r) λy e=>h y (by simp [e])]
theorem xi {α β:Type} {f:β->Nat} {f':α->Nat}:∀ {l:List α} {g:Nat->α->β},(∀ (i:Nat) b,l[i]?=some b->f (g i b)<=f' b)->lD f (l.mapIdx g)<=lD f' l
 | [],_,_=>by simp [lD]
 | x::r,g,h=>by
  have H:=h 0 x rfl;have K:=xi (l:=r) (g:=λi=>g (i+1)) (f:=f) (f':=f') λi b e=>h (i+1) b (by simpa using e)
  rw [List.mapIdx_cons];simp only [lD];omega
theorem ce4 {α:Type} (f:α->Nat) (d:α):∀ (xs:List α) (l:List Nat),l.Nodup->(∀ b∈l,b<xs.length)->lD (λb=>f (xs.getD b d)) l<=lD f xs
 | [],l,_,h=>by
  cases l with
  | nil=>exact Nat.le_refl _
  | cons b r=>have:=h b (by simp);simp at this
 | x::r,l,M,h=>by
  have K:∀ (l:List Nat),l.Nodup->(∀ b∈l,0<b/\b<(x::r).length)->lD (λb=>f ((x::r).getD b d)) l<=lD f r:=λl M hp=>by
   have e:lD (λb=>f ((x::r).getD b d)) l=lD (λb=>f (r.getD b d)) (l.map (· - 1)):=by
    rw [ak1];refine y8 λb H=>?_
    obtain ⟨n,rfl⟩:∃ n,b=n+1:=⟨b - 1,by have:=(hp b H).1;omega⟩;simp
   rw [e];refine ce4 f d r _ (aw6 M λa N b H e=>?_) (λb H=>?_)
   ·have:=(hp a N).1;have:=(hp b H).1;omega
   ·obtain ⟨a,N,rfl⟩:=List.mem_map.1 H;have:=hp a N;simp only [List.length_cons] at this;omega
  by_cases h0:0∈l
  ·have hp:=List.perm_cons_erase h0;rw [bu2 hp];have L:(0::l.erase 0).Nodup:=hp.nodup_iff.1 M;rw [List.nodup_cons] at L;have:=K (l.erase 0) L.2 λb H=>⟨Nat.pos_of_ne_zero λe=>L.1 (e▸H),h b (List.mem_of_mem_erase H)⟩
   simp only [lD,List.getD_cons_zero] at this ⊢;omega
  ·have:=K l M λb H=>⟨Nat.pos_of_ne_zero λe=>h0 (e▸H),h b H⟩
   simp only [lD];omega
section
variable {c:jv} {l:List Int} (hol:ag7 c l)
include hol
theorem bp4 (f:jq->Nat):lD (λb=>f (px c b)) l<=lD f c.b:=by
 have h:=ce4 f default c.b (l.map Int.toNat) (aw6 hol.nodup λa K b H _=>by have:=hol.rng a K;have:=hol.rng b H;omega) (λb H=>by
  obtain ⟨a,K,rfl⟩:=List.mem_map.1 H;have:=hol.rng a K
  omega)
 rw [ak1] at h;refine Nat.le_trans (Nat.le_of_eq (y8 λb H=>?_)) h;have:=hol.rng b H;unfold px jr;rw [if_pos this.1,List.getD_eq_getElem?_getD]
theorem cx9:pw (pkC c l)<=pw c:=by
 refine Nat.le_trans (xi (f:=qV) (f':=λb=>qV (px c b)) λi b _=>?_) (bp4 hol qV);unfold qV pkB;simp
end
end Unt
end Go.Wk
namespace Go.Wk
open Go
namespace Unt
set_option maxRecDepth 10000
theorem cm6 {u:kU} {k:Int} {c:jv} (hck:COk u k c) {t:List Int} (hol:ag7 c (0::t)):COk u k (pkC c (0::t)):=by
 have L:(0::t)[0]?=some 0:=rfl;have aC:=hck.nb;have a0:=hol.len;have K:((pkC c (0::t)).b.length:Int)=((0::t).length:Int):=by simp [pkC]
 have a7:∀ i,kH (pkC c (0::t)) i=kH (stC c (0::t)) i:=λi=>wz i 0 (by
  apply List.ext_getElem?;intro q;show (((0::t).mapIdx λi b=>pkB c (0::t) (i:Int) b).map (·.n))[q]?=(((0::t).map (stB c (0::t))).map (·.n))[q]?;rw [List.getElem?_map,List.getElem?_mapIdx,List.getElem?_map,List.getElem?_map]
  cases (0::t)[q]?<;>rfl)
 refine ⟨hck.r,hck.P,?_,λi y hy=>?_⟩
 ·rw [K];simp only [List.length_cons] at a0 ⊢;omega
 ·obtain ⟨i0,a5⟩:=jz.1 hy;have N:((0::t).mapIdx λi b=>pkB c (0::t) (i:Int) b)[i.toNat]?=some y:=a5;rw [List.getElem?_mapIdx] at N;obtain ⟨b,M,W⟩:=Option.map_eq_some_iff.1 N;have a8:((i.toNat:Nat):Int)=i:=by omega
  rw [a8] at W;subst W;obtain ⟨x,hx,a4⟩:=af1 hol M;have a2:=hck.bok hx;have a1:=hck.b b x hx;simp only [pf,Bool.and_eq_true] at a1 ⊢;obtain ⟨x1,x2,_,x4,x5⟩:=a1;rw [K];unfold pkB;rw [a4];refine ⟨by simpa using x1,x2,?_,x4,?_⟩
  ·rw [List.all_eq_true];intro n hn;obtain ⟨m,hm,rfl⟩:=List.mem_map.1 hn;have aB:=a2.next m hm;obtain ⟨q,a3,H⟩:=av8 (bb9 hol M hx hm);have aD:=(lgE.1 H).1;rw [a3,lO];have:q≠0:=λe=>by subst e;rw [L] at H;have:=Option.some.inj H;omega
   omega
  ·rw [List.all_eq_true] at x5 ⊢;intro f' a6;obtain ⟨f,hf,rfl⟩:=List.mem_map.1 a6;have O:=x5 f hf;have aA:=a2.a f hf;simp only [vg,Bool.and_eq_true,decide_eq_true_eq] at O ⊢;obtain ⟨f1,f2,_,f4⟩:=O;refine ⟨λe=>f1 ?_,f2,?_,?_⟩
   ·subst e;rw [show (0:Int).toNat=0 from rfl,L] at M;exact (Option.some.inj M).symm
   ·rw [a7];simp [pkF]
   ·simp only [rq,List.all_eq_true] at f4 ⊢;intro r hr;obtain ⟨q,hq,rfl⟩:=List.mem_map.1 hr;obtain ⟨p,_,p1,p2,p3⟩:=bb3 hol i0 M hq;obtain ⟨n,_,a9⟩:=ao2 (xs:=kH c b) (i:=0) p3;have hnl:=(lgE.1 a9).1;have ha:=yi (l:=f.A) (i:=idx p (kH c b) 0) (by omega) (by omega);rw [p2];exact f4 _ (List.mem_of_getElem? (jz.1 ha).2)
section
variable {u:kU} {k:Int} {c:jv} (hck:COk u k c)
include hck
theorem bl7 {L:List Int} (h:oF c=some L):∀ x∈L,Rt c (λ_=>False) 0 x:=by
 have a1:=hck.nb
 have hsn:∀ x∈c.b,x.n.length<=1048576:=λx H=>by
  obtain ⟨b,hb⟩:=cg0 H;have:=yc hck b x hb;omega
 obtain ⟨pre,g1,o2,_,o3⟩:=av1 hck hsn;obtain ⟨K,q1,⟨_,q2⟩,_⟩:=av2 (c:=c) (ye hck) (λb x H=>by have:=yc hck b x H;omega) (by omega) (by omega);rw [g1] at q1;have W:=Option.some.inj q1
 have a0:∀ r,¬ mq (List.replicate c.b.length false) r:=λr h=>by
  have:=(qh.1 h).2;rw [List.getElem?_replicate] at this;split at this<;>simp at this
 obtain ⟨_,N,v1,v2⟩:=cg3 (ye hck) (yc hck) c.b.length 0 (List.replicate c.b.length false) [] (by simp) (Int.le_refl _) (by omega) (a0 0) (by simp) (by simp;omega);rw [q2,List.nil_append] at v1;have M:K++[0]=N:=(Prod.mk.inj (Option.some.inj v1)).1;obtain ⟨s,s1,_,s3⟩:=au9 (0::pre.reverse) (Nat.le_trans o3.len (by omega));unfold oF at h;rw [br2 hck hsn,obS] at h;simp only [Bool.not_true,Bool.false_eq_true,if_false,o2,obS,s1] at h;have hL:s=L:=by simpa using h
 intro x H;rw [<- hL,s3] at H
 have O:x∈N:=by
  rw [<- M,<- W];rcases List.mem_cons.1 H with e | e
  ·rw [e];simp
  ·exact List.mem_append_left _ (List.mem_reverse.1 e)
 exact (v2.reach x O).mono λr h=>h.elim
omit hck in
theorem cz0 {l:List Int} (hol:ag7 c l) (h0:l[0]?=some 0) {x:Int} (h:Rt c (λ_=>False) 0 x):x∈l/\Rt (pkC c l) (λ_=>False) 0 (pl l x):=by
 have H:∀ {j:Nat} {b:Int},l[j]?=some b->pl l b=(j:Int):=λ{j b} e=>by
  obtain ⟨q,O,N⟩:=av8 (List.mem_of_getElem? e);have L:=(lgE.1 N).1;have:q=j:=(List.getElem?_inj L hol.nodup).1 (N.trans e.symm);rw [O,this]
 induction h with
 | refl _ =>
  refine ⟨List.mem_of_getElem? h0,?_⟩;rw [H h0];exact .refl id
 | @step r n h1 h2 h3 ih =>
  obtain ⟨M,W⟩:=ih;have hn:=hol.closed r M n h2;refine ⟨hn,W.step ?_ id⟩;obtain ⟨j,e⟩:=List.getElem?_of_mem M;obtain ⟨x,hx,K⟩:=af1 hol e;rw [H e]
  have hg:jr (pkC c l).b (j:Int)=some (pkB c l (j:Int) r):=jz.2 ⟨by omega,by
   show (l.mapIdx λi b=>pkB c l (i:Int) b)[((j:Int)).toNat]?=_
   rw [Int.toNat_natCast,List.getElem?_mapIdx,e];rfl⟩
  rw [nZ hg];show pl l n∈(px c r).n.map (pl l);rw [K];rw [nZ hx] at h2;exact List.mem_map.2 ⟨n,h2,rfl⟩
variable (hu:Ok u) (hc:pw c<=800)
include hu hc
open Classical in
theorem cd4:∃ d,ly c=some d/\oQ c=some d/\COk u k d/\pw d<=pw c/\d.P=c.P/\∀ b:Int,0<=b->b<(d.b.length:Int)->oW d b=true:=by
 have hsm:=cx0 hu hck hc;obtain ⟨t,h1,M,e,_⟩:=bg4 hck λx H=>(hsm x H).next
 refine ⟨pkC c (0::t),?_,?_,cm6 hck e,cx9 e,rfl,λb W b1=>?_⟩
 ·unfold ly;rw [h1,obS,bu6 hck hsm e];rfl
 ·unfold oQ;rw [M,obS,cq8 hck hsm e];rfl
 ·have K : ((pkC c (0 :: t)).b.length : Int) = ((0 :: t).length : Int) := by simp [pkC]
  rw [K] at b1;obtain ⟨x,_,H,_⟩:=kV (xs:=0::t) (j:=b) W b1;obtain ⟨_,N⟩:=cz0 e rfl (bl7 hck M x (List.mem_of_getElem? H));obtain ⟨q,q1,O⟩:=av8 (List.mem_of_getElem? H);have L:=(lgE.1 O).1;have:q=b.toNat:=(List.getElem?_inj L e.nodup).1 (O.trans H.symm);rw [q1,this,show ((b.toNat:Nat):Int)=b by omega] at N;exact decide_eq_true N
end
end Unt
end Go.Wk
namespace Go.Wk
open Go
namespace Unt
set_option maxRecDepth 10000
open Classical
section
variable {c:jv} {u:kU} {k:Int} (hck:COk u k c) (hall:∀ b:Int,0<=b->b<(c.b.length:Int)->oW c b=true)
include hck hall
theorem cr5 (M:∀ x∈c.b,x.a.length<=2000/\x.i.length<=2000):∀ x∈(bd5 c).b,x.a.length<=1048576/\x.i.length<=1048576/\x.n.length<=1048576:=λx W=>by
 have N:=hck.nb
 obtain ⟨st,hN⟩:∃ st,cp4 c (nM c (c.b.length+1) 0) (kr c (nM c (c.b.length+1) 0)) st:=by
  obtain ⟨L,K⟩:=ux hall (c.b.length+1) 0 [] (Int.le_refl _) (by omega) (by omega) List.nodup_nil (by simp) (by simp);exact ax8 _ L (λb O=>(K b O).1) (bb7 c _ _ _ (.inl (by rw [ao4];omega)))
 obtain ⟨b,e,b1,rfl⟩:=bc8 (show x∈tab c.b.length (tg c (kr c (nM c (c.b.length+1) 0))) from W);have H:=yQ e b1;have h1:=M (kX c b) (List.mem_of_getElem? (jz.1 H).2);have hj:=(hck.bok H).j;unfold tg;rw [xG hall hN e b1]
 generalize mR c (kr c (nM c (c.b.length+1) 0)) b=m
 refine ⟨?_,?_,?_⟩
 ·show ((nPh (kX c b).a m (st b)).1.map _).length <= _;rw [List.length_map,(pn _ _ _).1];omega
 ·show (nIn (kX c b).i _ _).1.length <= _;rw [(qz _ _ _).1];omega
 ·show (kX c b).n.length <= _;omega
end
theorem bj8 {u:kU} (hu:Ok u) {k:Int} {c:jv} (hck:COk u k c) (hc:pw c<=800):∃ d e,ly c=some d/\nf d=some e/\nI c=some e/\rA e=true/\∀ x∈e.b,x.a.length<=1048576/\x.i.length<=1048576/\x.n.length<=1048576:=by
 obtain ⟨d,d1,d2,d3,_,d5,d6⟩:=cd4 hck hu hc;obtain ⟨I,M,s1,s2,s3,s4,s5,W,s7,s8,s9,O⟩:=bi5 d3 d6 hu (by omega) d2 d5.symm;have a1:=W.len;have H:∀ b:Int,0<=b->b<((o7 d I).b.length:Int)->oW (o7 d I) b=true:=λb N b1=>by rw [W.inb];exact d6 b N (by omega)
 have L:=xn (c:=o7 d I) M;have a0:=L.len;have K:∀ b:Int,0<=b->b<((phC (o7 d I) M).b.length:Int)->oW (phC (o7 d I) M) b=true:=λb N b1=>by rw [L.inb];exact H b N (by omega)
 obtain ⟨b1,b2⟩:=bz7 d3 s1 s2 s3;exact ⟨d,_,d1,O,s9,bk9 s7 K (bw2 s4 H s5 s2 b2 λb r h=>s3 b r (b1 b r h)),cr5 s7 K s8.len⟩
theorem as6 (u:kU) (hf:xN u):∃ r b,oO u=some (r,b)/\pT u=some (r,b)/\(rE r.C:Int)<=900000000:=by
 have hs:=hf.small;unfold oO pT pI tU tL;rw [zM u hs,zC u hs,obS,obS];cases hv:tI u with
 | false=>exact ⟨⟨[]⟩,false,rfl,rfl,by decide⟩
 | true =>
 have hu:Ok u:=⟨hv,hs⟩;have a1:=hu.C;obtain ⟨g,hg⟩:∃ g:jv->jv,∀ c,g c=(ly c).getD c:=⟨_,λ_=>rfl⟩;obtain ⟨e,L⟩:∃ e:jv->jv,∀ c,e c=(nf c).getD c:=⟨_,λ_=>rfl⟩
 have H:∀ (j:Nat) c,u.C[j]?=some c->ly c=some (g c)/\nf (g c)=some (e (g c))/\nI c=some (e (g c))/\rA (e (g c))=true/\∀ x∈(e (g c)).b,x.a.length<=1048576/\x.i.length<=1048576/\x.n.length<=1048576:=λj c hc=>by
  have a2:=List.mem_of_getElem? hc;have hck:=hu.cok (jz.2 ⟨by omega,by simpa using hc⟩:jr u.C (j:Int)=some c)
  have hcnt:pw c<=800:=by
   have h2:pw c<=ap8 u:=td (f:=pw) a2;have a5:=hv;simp only [tI,Bool.and_eq_true,decide_eq_true_eq] at a5;omega
  obtain ⟨d,x,q1,q2,q3,q4,q5⟩:=bj8 hu hck hcnt;have e1:g c=d:=by rw [hg,q1];rfl
  have e2:e d=x:=by rw [L,q2];rfl
  rw [e1,e2];exact ⟨q1,q2,q3,q4,q5⟩
 have hsm:av9 ⟨u.C.map λc=>e (g c)⟩:=λc' a0 b hb=>by
  obtain ⟨c,hc,rfl⟩:=List.mem_map.1 a0;obtain ⟨j,M⟩:=List.getElem?_of_mem hc;exact (H j c M).2.2.2.2 b hb
 have a8:xx ⟨u.C.map λc=>e (g c)⟩=tI ⟨u.C.map λc=>e (g c)⟩:=by
  unfold xx
  have:(u.C.map λc=>e (g c)).all rA=true:=by
   rw [List.all_eq_true];intro c' a0;obtain ⟨c,hc,rfl⟩:=List.mem_map.1 a0;obtain ⟨j,M⟩:=List.getElem?_of_mem hc;exact (H j c M).2.2.2.1
  show (tI _&&(u.C.map λc=>e (g c)).all rA)=_;rw [this,Bool.and_true]
 have a3:(u.C.map g).map e=u.C.map λc=>e (g c):=by rw [List.map_map];rfl
 simp only [Bool.not_true,Bool.false_eq_true,if_false]
 have h1:=rl (xs:=u.C) (body:=(λ(N:Int) (W:(List jv))=>((jr u.C N).bind λO=>(ly O).bind λuG=>(k8 W ([uG]:List jv)).bind λuH=>some (.inl uH):Option (((List jv)) ⊕ (Empty))))) g (by omega) (λl x r s L hz=>by
  have M:u.C[l.length]?=some x:=by rw [L];simp
  rw [L,kK,obS,(H _ _ M).1,obS,ka (by simpa using hz)];rfl)
 have a6:lX u.C (λy0=>ly y0)=some (u.C.map g):=kN h1 rfl
 have h2:=rl (xs:=u.C.map g) (body:=(λ(N:Int) (W:(List jv))=>((jr (u.C.map g) N).bind λO=>(nf O).bind λuG=>(k8 W ([uG]:List jv)).bind λuH=>some (.inl uH):Option (((List jv)) ⊕ (Empty))))) e (by rw [List.length_map];omega) (λl x r s L hz=>by
  have M:(u.C.map g)[l.length]?=some x:=by rw [L];simp
  rw [List.getElem?_map] at M;obtain ⟨c,hc,a4⟩:=Option.map_eq_some_iff.1 M;subst a4
  rw [L,kK,obS,(H _ _ hc).2.1,obS,ka (by simpa using hz)];rfl)
 have a7:lX (u.C.map g) (λy0=>nf y0)=some (u.C.map λc=>e (g c)):=by rw [<- a3];exact kN h2 rfl
 have h3:=rl (xs:=u.C) (body:=(λ(N:Int) (W:(List jv))=>((jr u.C N).bind λO=>(pH O (mkS [115,105,110,103,108,101])).bind λuG=>(k8 W ([uG]:List jv)).bind λuH=>some (.inl uH):Option (((List jv)) ⊕ (Empty))))) (λc=>e (g c)) (by omega) (λl x r s L hz=>by
  have M:u.C[l.length]?=some x:=by rw [L];simp
  have ht:pH x (mkS [115,105,110,103,108,101])=some (e (g x)):=by
   unfold pH;show (nI x).bind _=_;rw [(H _ _ M).2.2.1];rfl
  rw [L,kK,obS,ht,obS,ka (by simpa using hz)];rfl)
 rw [a6];simp only [obS,Bool.not_true,Bool.false_eq_true,if_false];rw [a7];simp only [obS];rw [au7 hsm,a8]
 have K:∀ b,tI ⟨u.C.map λc=>e (g c)⟩=b->((kO (λ(N:Int) (W:(List jv))=>((jr u.C N).bind λO=>(pH O (mkS [115,105,110,103,108,101])).bind λuG=>(k8 W ([uG]:List jv)).bind λuH=>some (.inl uH):Option (((List jv)) ⊕ (Empty)))) (((u.C.length:Int):Int) - 0).toNat 0 []).bind (Sum.elim (λuI=>(nc (⟨uI⟩:kU)).bind λuJ=>if !(uJ) then some ((⟨[]⟩:kU),false) else some ((⟨uI⟩:kU),true)) (λ(e0:Empty)=>nomatch e0)))=some (if b=true then (⟨u.C.map λc=>e (g c)⟩,true) else (⟨[]⟩,false)):=λb hb=>by
  refine kN h3 ?_;show (nc ⟨u.C.map λc=>e (g c)⟩).bind _=_;rw [zC _ hsm,hb];cases b<;>rfl
 cases hq:tI ⟨u.C.map λc=>e (g c)⟩ with
 | false=>exact ⟨⟨[]⟩,false,rfl,kN (K _ hq) rfl,by decide⟩
 | true=>exact ⟨⟨u.C.map λc=>e (g c)⟩,true,rfl,kN (K _ hq) rfl,cm4 ⟨hq,hsm⟩⟩
theorem lawSingleUnit (u:kU) (O:cr7 u):nu u=some true:=by
 unfold nu;rw [bz3 u O (by decide) (by decide),obS,lt0 (by decide)];by_cases M:(xa u:Int)<=1048576
 rotate_left
 ·simp [M]
 have L:xN u:=by unfold xN;omega
 have hw:=dc4 u;obtain ⟨r,b,h1,W,_⟩:=as6 u L;have H:=ae9 u 1 (by decide) (by unfold BM;omega);have K:=ae9 r 1 (by decide) (by unfold BM;omega);have e:=bk6 r 1 (by decide) (by unfold BM;omega);have N:¬ (1+(rE u.C:Int)<0):=by omega
 have e2:¬ (1+(rE r.C:Int)<0):=by omega
 simp only [M,decide_true,Bool.not_true,Bool.false_eq_true,if_false,bx6 u L,obS,h1,W,bu3,H,K,e,N,e2,decide_false,ne_eq,not_true_eq_false]
end Unt
end Go.Wk
