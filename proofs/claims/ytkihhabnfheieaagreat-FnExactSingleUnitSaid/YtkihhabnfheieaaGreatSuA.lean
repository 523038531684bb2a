/- A part of the proof of FnExactSingleUnitSaid. -/
import Derived.Test.YtkihhabnfheieaaGreatWkY
import Derived.Test.YtkihhabnfheieaaGreatSuModels
import Derived.Test.YtkihhabnfheieaaGreatWkAd
namespace Go.Wk
open Go
namespace Unt
theorem sT (n a b:Int):l3 n a b=some (inB n a b):=by
 unfold l3 inB;by_cases h:a<=n<;>simp [h]
theorem oD (n a b:Int):mB n a b=some (inB n a b):=by
 unfold mB inB;by_cases h:a<=n<;>simp [h]
def kb (e:Int):Bool:=inB e 1 14&&(decide (e≠12)&&decide (e≠13))
theorem bh1 (e:Int):sK e=some (inB e 1 14):=by unfold sK;rw [oD];rfl
theorem zE (e:Int):oB e=some (kb e):=by
 unfold oB kb;simp only [bh1,obS];cases inB e 1 14<;>by_cases h:e=12<;>simp [h]
theorem xd (e:Int):n7 e=some (kb e):=by
 unfold n7 kb;simp only [sT,obS];cases inB e 1 14<;>by_cases h:e=12<;>simp [h]
theorem by0 (n:Int):sn n=some (inB n 0 255):=by unfold sn;rw [oD];rfl
def yY (e:Int):Int:=if e=1 then 0 else if e=2\/e=10\/e=11\/e=13 then 1 else 2
theorem bm9 (e:Int):rb e=some (yY e):=by
 unfold rb yY;by_cases L:e=1
 ·simp [L]
 by_cases H:e=2
 ·simp [H]
 by_cases M:e=10
 ·simp [M]
 by_cases K:e=11
 ·simp [K]
 by_cases N:e=13<;>simp [L,H,M,K,N]
theorem bv1 (e:Int) (h:inB e 1 14=true) (W:e≠14):sg e=some (yY e):=by
 rw [lO] at h;unfold sg yY;by_cases L:e=1
 ·simp [L]
 by_cases K:e=2
 ·simp [K]
 by_cases N:e=10
 ·simp [N]
 by_cases H:e=11
 ·simp [H]
 by_cases M:e=13
 ·simp [M]
 by_cases O:e=12
 ·simp [O,sT,inB]
 have:inB e 3 9=true:=by rw [lO];omega
 simp [L,K,N,H,M,sT,this]
section
variable {f:Int->Option Bool} {p:Int->Bool} {xs:List Int}
theorem bl5 (h:∀ x,f x=some (p x)):∃ n,lv xs f=some n/\decide (0<=n)=xs.any p:=by
 unfold lv
 rcases sA (xs := xs) p (fun i => i) (body := (fun (e : Int) (_ : Unit) => ((jr xs e).bind fun H => (f H).bind fun M => if M then some (.inr e) else some (.inl ()) : Option ((Unit) ⊕ (Int))))) (by
   intro a x r K;have L:jr xs (a.length:Int)=some x:=by rw [K,kK]
   simp only [L,obS,h]) with ⟨h1,h2⟩ | ⟨a,x,r,h1,h2,h3,h4⟩
 ·rw [h2];exact ⟨-1,rfl,by rw [h1];rfl⟩
 ·rw [h4];exact ⟨_,rfl,by rw [h1];simp [h3]⟩
theorem sY (h:∀ x,f x=some (p x)):kT xs f=some (xs.any p):=by
 obtain ⟨n,e,H⟩:=bl5 (xs:=xs) h;unfold kT;rw [e,<- H];rfl
end
theorem bm6 {f:kD->Option Bool} {p:kD->Bool} {xs:List kD} (h:∀ x,f x=some (p x)):∃ n,lV xs f=some n/\decide (0<=n)=xs.any p:=by
 unfold lV
 rcases sA (xs := xs) p (fun i => i) (body := (fun (e : Int) (_ : Unit) => ((jr xs e).bind fun H => (f H).bind fun M => if M then some (.inr e) else some (.inl ()) : Option ((Unit) ⊕ (Int))))) (by
   intro a x r K;have L:jr xs (a.length:Int)=some x:=by rw [K,kK]
   simp only [L,obS,h]) with ⟨h1,h2⟩ | ⟨a,x,r,h1,h2,h3,h4⟩
 ·rw [h2];exact ⟨-1,rfl,by rw [h1];rfl⟩
 ·rw [h4];exact ⟨_,rfl,by rw [h1];simp [h3]⟩
theorem at5 {f:kD->Option Bool} {p:kD->Bool} {xs:List kD} (h:∀ x,f x=some (p x)):lK xs f=some (xs.any p):=by
 obtain ⟨n,e,H⟩:=bm6 (xs:=xs) h;unfold lK;rw [e,<- H];rfl
def idx (v:Int):List Int->Int->Int
 | [],_=>-1
 | x::r,i=>if v=x then i else idx v r (i+1)
theorem al7 {v:Int}:∀ {xs:List Int} {i:Int},0<=i->(0<=idx v xs i↔v∈xs)
 | [],_,_=>by simp [idx]
 | x::r,i,h=>by
  unfold idx;by_cases e:v=x
  ·simp [e,h]
  ·rw [if_neg e,al7 (by omega)];simp [e]
theorem ax7 (xs:List Int) (v:Int):mE xs v=some (idx v xs 0):=by
 unfold mE;rw [x7 (λK H (N:Unit)=>if decide (v=H) then some (.inr K) else some (.inl ()))]
 have:∀ (xs:List Int) (i:Int),(oA (λK H (N:Unit)=>if decide (v=H) then some (Sum.inr K) else some (.inl ())) xs i ()).bind (Sum.elim (λ_=>some (-1)) (λL=>some L))=some (idx v xs i):=by
  intro xs
  induction xs with
  | nil=>intro i;rfl
  | cons x r M =>
   intro i;by_cases e:v=x
   ·simp [oA,idx,e]
   ·simp only [oA,idx,e,decide_false,if_false,Bool.false_eq_true];exact M _
 exact this xs 0
theorem bb5 (xs:List Int) (v:Int):mX xs v=some (decide (v∈xs)):=by
 unfold mX;rw [ax7,obS]
 congr 1
 exact decide_eq_decide.2 (al7 (Int.le_refl _))
def rq (c:jv) (l:List Int):Bool:=l.all λr=>inB r 0 (c.r - 1)
theorem aw8 (c:jv) (hr:0<=c.r/\c.r<=300) (l:List Int):rG c l=some (rq c l):=by
 unfold rG rq;simp only [sT,obS,kv (n:=c.r - 1) (by omega) (by omega)];rw [x7 (λ(_:Int) e (_:Unit)=>if !(inB e 0 (c.r - 1)) then some (.inr false) else some (.inl ()))];rw [aa6 (λ_ x=>inB x 0 (c.r - 1)) false (λj x _=>by cases inB x 0 (c.r - 1)<;>rfl),yq];cases l.all _<;>rfl
def bj4 (u:kU) (n:Int):Int:=match jr u.C n with | some c=>c.P | none=>0
def vd (u:kU) (k:Int) (c:jv) (x:kD):Bool :=
 inB x.op 1 14 && (rq c x.A && ((if kb x.op then inB x.to 0 (c.r - 1) else decide (x.to = -1)) &&
  (if x.op=14 then inB x.N 0 (k - 1)&&decide ((x.A.length:Int)=bj4 u x.N) else decide ((x.A.length:Int)=yY x.op)&&(if x.op=1 then inB x.N 0 255 else decide (x.N=0)))))
theorem ai2 {p:Int->Bool} {l:List Int}:l.any (λx=>!p x)=!l.all p:=by
 induction l with
 | nil=>rfl
 | cons x r e=>simp [e]
theorem xL {α:Type} {xs:List α} {k:Int} {c:α} (h:jr xs k=some c):0<=k/\k<(xs.length:Int):=by
 obtain ⟨h0,e⟩:=jz.1 h;have:=(lgE.1 e).1;omega
theorem ck6 {u:kU} {k:Int} {c:jv} {x:kD} (hk:jr u.C k=some c) (h:inB x.N 0 (k - 1)=true):∃ d,jr u.C x.N=some d/\d.P=bj4 u x.N:=by
 rw [lO] at h;have:=xL hk;obtain ⟨d,e,_⟩:=kV (xs:=u.C) (j:=x.N) h.1 (by omega);exact ⟨d,e,by simp [bj4,e]⟩
section
variable {u:kU} {k:Int} {c:jv} {x:kD} (hk:jr u.C k=some c) (hk4:k<=1000) (hr:0<=c.r/\c.r<=300)
include hk hk4 hr
theorem cd1:tq u k x=some (vd u k c x):=by
 unfold tq vd;have L:=kv (n:=c.r - 1) (by omega) (by omega);have a0:=xL hk;have K:=kv (n:=k - 1) (by omega) (by omega);have hc:=sY (xs:=x.A) (f:=λN=>qc N c) (p:=λy=>!inB y 0 (c.r - 1)) (λy=>by simp only [qc,qX,oD,L,obS]);rw [ai2] at hc;change _=some (!rq c x.A) at hc;simp only [hk,obS,bh1,zE,hc,qX,oD,L,K,by0,bm9];cases h1:inB x.op 1 14
 ·rfl
 cases h2:rq c x.A
 ·rfl
 simp only [Bool.not_true,Bool.false_eq_true,if_false,obS,Bool.true_and]
 have O : (if kb x.op then if !inB x.to 0 (c.r - 1) then some true else if !kb x.op then some (decide (x.to ≠ -1)) else some false else if !kb x.op then some (decide (x.to ≠ -1)) else some false) =
   some (!(if kb x.op then inB x.to 0 (c.r - 1) else decide (x.to=-1))):=by
  cases kb x.op<;>simp
  cases inB x.to 0 (c.r - 1)<;>rfl
 rw [O,obS];cases h3:(if kb x.op then inB x.to 0 (c.r - 1) else decide (x.to=-1))
 ·rfl
 simp only [Bool.not_true,Bool.false_eq_true,if_false,Bool.true_and];by_cases M:x.op=14
 ·rw [M];simp only [decide_eq_true_eq,show ¬ ((14:Int)=1) by decide,if_false,if_true];cases H:inB x.N 0 (k - 1)
  ·rfl
  ·obtain ⟨d,e,W⟩:=ck6 hk H;simp [e,W]
 ·by_cases H:x.op=1
  ·rw [H];simp [yY];by_cases e:x.A=[]<;>simp [e]
  ·simp only [M,H,decide_false,if_false,Bool.false_eq_true];by_cases e:x.N=0<;>simp [e]
theorem ch2:tp u k x=some (vd u k c x):=by
 unfold tp vd;have N:=kv (n:=c.r - 1) (by omega) (by omega);have a0:=xL hk;have L:=kv (n:=k - 1) (by omega) (by omega);simp only [hk,obS,xd,sT,N,L,aw8 c hr];cases W:inB x.op 1 14
 ·rfl
 cases h2:rq c x.A
 ·rfl
 simp only [Bool.not_true,Bool.false_eq_true,if_false,obS,Bool.true_and]
 have O : (if decide (kb x.op ≠ inB x.to 0 (c.r - 1)) then some true else if !kb x.op then some (decide (x.to ≠ -1)) else some false) =
   some (!(if kb x.op then inB x.to 0 (c.r - 1) else decide (x.to=-1))):=by
  cases kb x.op
  ·cases h:inB x.to 0 (c.r - 1)
   ·simp
   ·rw [lO] at h;have:x.to≠-1:=by omega
    simp [this]
  ·cases inB x.to 0 (c.r - 1)<;>simp
 rw [O,obS];cases h3:(if kb x.op then inB x.to 0 (c.r - 1) else decide (x.to=-1))
 ·rfl
 simp only [Bool.not_true,Bool.false_eq_true,if_false,Bool.true_and];by_cases K:x.op=14
 ·simp only [K,decide_true,if_true];cases h5:inB x.N 0 (k - 1)
  ·rfl
  ·obtain ⟨d,H,e⟩:=ck6 hk h5;simp [H,e]
 ·simp only [K,decide_false,if_false,Bool.false_eq_true,bv1 _ W K,obS];by_cases H:(x.A.length:Int)=yY x.op
  ·simp only [H,decide_true,if_true,Bool.true_and];by_cases e:x.N=0
   ·simp [e,inB]
   ·by_cases M:x.op=1
    ·simp [e,M];cases inB x.N 0 255<;>rfl
    ·simp [e,M]
  ·simp [H]
end
end Unt
end Go.Wk
namespace Go.Wk
open Go
namespace Unt
def mv (b:Int):List jq->Int->List Int
 | [],_=>[]
 | x::r,i=>if b∈x.n then i::mv b r (i+1) else mv b r (i+1)
def kH (c:jv) (b:Int):List Int:=mv b c.b 0
theorem aq1 (b:Int):∀ (l:List jq) (i:Int),(mv b l i).length<=l.length
 | [],_=>Nat.le_refl _
 | x::r,i=>by
  have:=aq1 b r (i+1);unfold mv;split<;>simp<;>omega
theorem pJ (c:jv) (b:Int):(kH c b).length<=c.b.length:=aq1 b _ _
theorem ab4 (b : Int) (g : Int -> jq -> List Int -> Option (List Int ⊕ Empty)) (e : ∀ i x s, s.length <= 1048576 -> g i x s = some (.inl (if b ∈ x.n then s ++ [i] else s))) :
  ∀ (l:List jq) (i:Int) (s:List Int),s.length+l.length<=1048576->oA g l i s=some (.inl (s++mv b l i))
 | [],i,s,_=>by simp [oA,mv]
 | x::r,i,s,h=>by
  simp only [List.length_cons] at h;simp only [oA,e i x s (by omega)];rw [ab4 b g e r (i+1) _ (by split<;>(try simp only [List.length_append,List.length_singleton])<;>omega)];simp only [mv];split<;>simp
theorem u0 (c:jv) (b:Int) (M:c.b.length<=1048576) (N:inB b 0 ((c.b.length:Int) - 1)=true):lQ c b=some (kH c b):=by
 unfold lQ;simp only [oD,obS,N,Bool.not_true,Bool.false_eq_true,if_false]
 rw [pG (xs := c.b) (fun K W (H : List Int) => if decide (b ∈ W.n) then (k8 H ([K] : List Int)).bind fun L => some (.inl L) else some (.inl H)) (by
  intro l x r s h;have O:jr c.b (l.length:Int)=some x:=by rw [h,kK]
  simp only [O,obS,bb5];by_cases e:b∈x.n
  ·simp only [e,decide_true,if_true];cases k8 s [(l.length:Int)]<;>rfl
  ·simp [e])]
 rw [ab4 b _ (λi x s h=>by
  by_cases e:b∈x.n
  ·simp only [e,decide_true,if_true,ka (xs:=s) (ys:=[i]) (by simp;omega)];rfl
  ·simp [e]) c.b 0 [] (by simpa using M)]
 rfl
theorem bl0 {S X:Type} {body:S->Option (S ⊕ X)} {s:S} (h:body s=none):kx body s=none:=by
 rw [wU,h]
theorem cb1 (b:Int) (xs:List Int) (g:Int->Option (Int ⊕ List Int)) (A:Option (List Int)) (B:List Int)
    (M:∀ j:Nat,∀ x,xs[j]?=some x->g (j:Int)=if x=b then A.map .inr else some (.inl ((j:Int)+1))) (L:g (xs.length:Int)=some (.inr B)) :
    kx g 0=if b∈xs then A else some B:=by
  have key:∀ (r l:List Int),xs=l++r->kx g (l.length:Int)=if b∈r then A else some B:=by
    intro r
    induction r with
    | nil => intro l h; rw [rH (x := B) (by have : l = xs := by simpa using h.symm
                                            rw [this];exact L)];rfl
    | cons x r K =>
      intro l h;have:=M l.length x (by rw [h];simp);by_cases e:x=b
      · rw [if_pos e] at this;cases A with
        | none=>rw [bl0 this];simp [e]
        | some A=>rw [rH this];simp [e]
      · rw [if_neg e] at this;rw [sR this];have H:=K (l++[x]) (by rw [h];simp);rw [show ((l++[x]).length:Int)=(l.length:Int)+1 by simp] at H;rw [H];simp [Ne.symm e]
  exact key xs [] rfl
theorem rC (c:jv) (b:Int) (W:c.b.length<=1048576) (hn:∀ x∈c.b,x.n.length<=1048576):ku c b=some (kH c b):=by
 unfold ku
 rw [pG (xs := c.b) (fun N x (M : List Int) => if b ∈ x.n then (k8 M ([N] : List Int)).bind fun uE => some (.inl uE) else some (.inl M)) (by
  intro l x r s h;have hx:jr c.b (l.length:Int)=some x:=by rw [h,kK]
  have K:x∈c.b:=by rw [h];simp
  have O:=hn x K;simp only [hx,obS]
  rw [cb1 b x.n _ (k8 s [(l.length:Int)]) s (by
    intro j y L;have hj:j<x.n.length:=(lgE.1 L).1;rw [if_pos (by simp;omega),bi9,L];simp only [obS];by_cases e:y=b
    ·simp only [e,decide_true,if_true];cases k8 s [(l.length:Int)]<;>rfl
    ·simp only [e,decide_false,Bool.false_eq_true,if_false]
     rw [kv (by omega) (by omega)]) (by simp)]
  by_cases H:b∈x.n
  ·simp only [H,if_true];cases k8 s [(l.length:Int)]<;>rfl
  ·simp only [H,if_false];rfl)]
 rw [ab4 b _ (λi x s h=>by
  by_cases H:b∈x.n
  ·simp only [H,if_true,ka (xs:=s) (ys:=[i]) (by simp;omega)];rfl
  ·simp [H]) c.b 0 [] (by simpa using W)]
 rfl
def x6 (j:Int):Int:=if j=1 then 1 else if j=2 then 2 else if j=3 then 0 else -1
theorem bc3 (j:Int):qO j=some (x6 j):=by
 unfold qO x6;by_cases e:j=1
 ·simp [e]
 by_cases H:j=2
 ·simp [H]
 by_cases K:j=3<;>simp [e,H,K]
theorem xo (j:Int):nB j=some (decide (j=2\/j=3)):=by
 unfold nB;by_cases e:j=2<;>simp [e]
def vg (c:jv) (b:Int) (f:kA):Bool:=decide (b≠0)&&(inB f.to 0 (c.r - 1)&&(decide (f.A.length=(kH c b).length)&&rq c f.A))
def pf (u:kU) (k:Int) (c:jv) (b:Int) (x:jq):Bool :=
 decide ((x.n.length : Int) = x6 x.j) && ((if x.j = 1 then decide (x.on = 0) else inB x.on 0 (c.r - 1)) &&
  (x.n.all (λn=>inB n 1 ((c.b.length:Int) - 1))&&(x.i.all (vd u k c)&&x.a.all (vg c b))))
def qd (u:kU) (k:Int) (c:jv):Bool :=
 inB c.r 0 300&&(inB c.P 0 (min 3 c.r)&&(inB (c.b.length:Int) 1 160&&py (pf u k c) c.b 0))
theorem cm1 {l:List kD} {p:kD->Bool}:l.any (λx=>!p x)=!l.all p:=by
 induction l with
 | nil=>rfl
 | cons x r e=>simp [e]
theorem xZ {α : Type} {X : Type} (p : α -> Bool) (e : X) {body : Int -> Unit -> Option (Unit ⊕ X)} {xs : List α} (H : ∀ (l : List α) x r s, xs = l ++ x :: r -> body (l.length : Int) s = if p x then some (.inl ()) else some (.inr e)) :
  kO body ((xs.length:Int) - 0).toNat 0 ()=if xs.all p then some (.inl ()) else some (.inr e):=by
 rw [pG (λ_ x _=>if p x then some (.inl ()) else some (.inr e)) H,aa6 (λ_ x=>p x) e (λ_ _ _=>rfl),yq]
theorem vv {α : Type} {X : Type} (p : Int -> α -> Bool) (e : X) {body : Int -> Unit -> Option (Unit ⊕ X)} {xs : List α} (H : ∀ (l : List α) x r s, xs = l ++ x :: r -> body (l.length : Int) s = if p (l.length : Int) x then some (.inl ()) else some (.inr e)) :
  kO body ((xs.length:Int) - 0).toNat 0 ()=if py p xs 0 then some (.inl ()) else some (.inr e):=by
 rw [pG (λi x _=>if p i x then some (.inl ()) else some (.inr e)) H,aa6 p e (λ_ _ _=>rfl)]
section
variable {u:kU} {k:Int} {c:jv} (hk:jr u.C k=some c) (hk4:k<=1000)
theorem bv4 (hk:jr u.C k=some c) (hk4:k<=1000):tB u k=some (qd u k c):=by
 unfold tB qd;simp only [hk,obS,oD,bq9];cases h1:inB c.r 0 300
 ·rfl
 have hr:=lO.1 h1;cases h2:inB c.P 0 (min 3 c.r)
 ·rfl
 cases h3:inB (c.b.length:Int) 1 160
 ·rfl
 have hb:=lO.1 h3;simp only [Bool.not_true,Bool.false_eq_true,if_false,obS,Bool.true_and];have hw:=kv (n:=c.r - 1) (by omega) (by omega)
 rw [vv (pf u k c) false (by
  intro l x r s h;have hx:jr c.b (l.length:Int)=some x:=by rw [h,kK]
  have a0:(l.length:Int)<(c.b.length:Int):=by rw [h];simp;omega
  have M:=sY (xs:=x.n) (f:=λL=>pW L c) (p:=λy=>!inB y 1 ((c.b.length:Int) - 1)) (λy=>by simp only [pW,oD,obS]);rw [ai2] at M;have K:=at5 (xs:=x.i) (f:=λL=>pc L u k) (p:=λy=>!vd u k c y) (λy=>by simp only [pc,cd1 hk hk4 hr,obS]);rw [cm1] at K;have hp:=u0 c (l.length:Int) (by omega) (by rw [lO];omega);simp only [hx,obS,bc3,xo,o5,oD,hw,M,K,hp,pf];by_cases N:(x.n.length:Int)=x6 x.j
  rotate_left
  ·simp [N]
  simp only [N,ne_eq,not_true_eq_false,decide_false,Bool.false_eq_true,if_false,Bool.true_and]
  have hj:x.j=1\/x.j=2\/x.j=3:=by
   unfold x6 at N;by_cases O:x.j=1
   ·exact .inl O
   by_cases e2:x.j=2
   ·exact .inr (.inl e2)
   by_cases e3:x.j=3
   ·exact .inr (.inr e3)
   ·rw [if_neg O,if_neg e2,if_neg e3] at N;omega
  have O : (if decide (x.j = 2 \/ x.j = 3) then if !inB x.on 0 (c.r - 1) then some true else if !decide (x.j = 2 \/ x.j = 3) then some (decide ¬x.on = 0) else some false else if !decide (x.j = 2 \/ x.j = 3) then some (decide ¬x.on = 0) else some false) =
    some (!(if x.j=1 then decide (x.on=0) else inB x.on 0 (c.r - 1))):=by
   rcases hj with e | e | e
   ·simp [e]
   ·simp [e];cases inB x.on 0 (c.r - 1)<;>rfl
   ·simp [e];cases inB x.on 0 (c.r - 1)<;>rfl
  rw [O,obS];by_cases W:(if x.j=1 then decide (x.on=0) else inB x.on 0 (c.r - 1))=true
  rotate_left
  ·rw [Bool.not_eq_true] at W;simp [W]
  by_cases g3:(x.n.all (λn=>inB n 1 ((c.b.length:Int) - 1)))=true
  rotate_left
  ·rw [Bool.not_eq_true] at g3;simp [g3]
  by_cases g4:(x.i.all (vd u k c))=true
  rotate_left
  ·rw [Bool.not_eq_true] at g4;simp [g4]
  simp only [W,g3,g4,Bool.not_true,Bool.false_eq_true,if_false,obS,Bool.true_and]
  rw [xZ (vg c (l.length:Int)) false (by
   intro l2 f _ _ h2;have hf:jr x.a (l2.length:Int)=some f:=by rw [h2,kK]
   have H:=sY (xs:=f.A) (f:=λL=>pZ L c) (p:=λy=>!inB y 0 (c.r - 1)) (λy=>by simp only [pZ,o5,oD,hw,obS]);rw [ai2] at H;change _=some (!rq c f.A) at H;simp only [hf,obS,H,vg];by_cases q1:(l.length:Int)=0
   ·simp [q1]
   simp only [q1,decide_false,Bool.false_eq_true,if_false,ne_eq,not_false_eq_true,decide_true,Bool.true_and];cases q2:inB f.to 0 (c.r - 1)
   ·rfl
   by_cases q3:f.A.length=(kH c (l.length:Int)).length
   ·simp only [q3,not_true_eq_false,decide_false,Bool.false_eq_true,if_false,Bool.not_true,decide_true,Bool.true_and,obS];cases rq c f.A<;>rfl
   ·have : ¬ (f.A.length : Int) = ((kH c (l.length : Int)).length : Int) := by omega
    simp [q3,this])]
  cases x.a.all (vg c (l.length:Int))<;>rfl)]
 cases py (pf u k c) c.b 0<;>rfl
theorem bm5 (hk:jr u.C k=some c) (hk4:k<=1000) (hr:0<=c.r/\c.r<=300) (hl:c.b.length<=160) (hn:∀ x∈c.b,x.n.length<=1048576) {b:Int} {x:jq} (hx:jr c.b b=some x):qb u k b=some (pf u k c b x):=by
 unfold qb pf;have hw:=kv (n:=c.r - 1) (by omega) (by omega);simp only [hk,hx,obS,sT,hw]
 have a0 : (if decide (x.j = 1) then if decide (x.on ≠ 0) then some (Sum.inr false) else some (Sum.inl 1) else (if decide (x.j = 2) then some (Sum.inl 2) else if decide (x.j = 3) then some (Sum.inl 0) else some (Sum.inr false) : Option ((Int) ⊕ (Bool))).bind (Sum.elim (fun uC => some (Sum.inl uC)) (fun e0 => some (Sum.inr e0))) : Option ((Int) ⊕ (Bool))) =
   if (x.j=1/\x.on=0)\/x.j=2\/x.j=3 then some (.inl (x6 x.j)) else some (.inr false):=by
  unfold x6;by_cases H:x.j=1
  ·by_cases L:x.on=0<;>simp [H,L]
  by_cases L:x.j=2
  ·simp [L]
  by_cases e3:x.j=3<;>simp [H,L,e3]
 rw [a0];by_cases K:(x.j=1/\x.on=0)\/x.j=2\/x.j=3
 rotate_left
 ·rw [if_neg K];simp only [obS,Sum.elim_inr];by_cases H:x.j=1
  ·have:¬ x.on=0:=λh=>K (.inl ⟨H,h⟩)
   simp [H,this]
  ·have : x6 x.j = -1 := by unfold x6; rw [if_neg H, if_neg (fun h => K (.inr (.inl h))), if_neg (fun h => K (.inr (.inr h)))]
   rw [this];have:¬ (x.n.length:Int)=-1:=by omega
   simp [this]
 rw [if_pos K];simp only [obS,Sum.elim_inl];by_cases O:(x.n.length:Int)=x6 x.j
 rotate_left
 ·simp [O]
 simp only [O,ne_eq,not_true_eq_false,decide_false,Bool.false_eq_true,if_false,decide_true,Bool.true_and]
 have H:(if decide (¬x.j=1) then some (!inB x.on 0 (c.r - 1)) else some false)=some (!(if x.j=1 then decide (x.on=0) else inB x.on 0 (c.r - 1))):=by
  rcases K with ⟨e,e'⟩ | e | e<;>simp [e]
  exact e'
 rw [H,obS];by_cases M:(if x.j=1 then decide (x.on=0) else inB x.on 0 (c.r - 1))=true
 rotate_left
 ·rw [Bool.not_eq_true] at M;simp [M]
 simp only [M,Bool.not_true,Bool.false_eq_true,if_false,Bool.true_and]
 rw [<- O,xZ (λn=>inB n 1 ((c.b.length:Int) - 1)) false (by
  intro l y r s h;have W:jr x.n (l.length:Int)=some y:=by rw [h,kK]
  simp only [W,obS]
  cases inB y 1 ((c.b.length:Int) - 1)<;>rfl)]
 by_cases g3:(x.n.all (λn=>inB n 1 ((c.b.length:Int) - 1)))=true
 rotate_left
 ·rw [Bool.not_eq_true] at g3;simp [g3]
 simp only [g3,if_true,obS,Sum.elim_inl,Bool.true_and]
 rw [xZ (vd u k c) false (by
  intro l y r s h;have W:jr x.i (l.length:Int)=some y:=by rw [h,kK]
  simp only [W,obS,ch2 hk hk4 hr]
  cases vd u k c y<;>rfl)]
 by_cases N:(x.i.all (vd u k c))=true
 rotate_left
 ·rw [Bool.not_eq_true] at N;simp [N]
 simp only [N,if_true,obS,Sum.elim_inl,Bool.true_and,rC c b (by omega) hn]
 rw [xZ (vg c b) false (by
  intro l f r s h;have hf:jr x.a (l.length:Int)=some f:=by rw [h,kK]
  simp only [hf,obS,aw8 c hr,vg];by_cases q1:b=0
  ·simp [q1]
  simp only [q1,decide_false,Bool.false_eq_true,if_false,ne_eq,not_false_eq_true,decide_true,Bool.true_and];by_cases q3:f.A.length=(kH c b).length
  ·simp only [q3,not_true_eq_false,decide_false,Bool.false_eq_true,if_false,decide_true,Bool.true_and];cases rq c f.A<;>cases inB f.to 0 (c.r - 1)<;>rfl
  ·have : ¬ (f.A.length : Int) = ((kH c b).length : Int) := by omega
   simp [q3,this])]
 cases x.a.all (vg c b)<;>rfl
end
end Unt
end Go.Wk
namespace Go.Wk
open Go
namespace Unt
set_option maxRecDepth 10000
def qV (b:jq):Nat:=b.a.length+b.i.length
def pw (c:jv):Nat:=lD qV c.b
def ap8 (u:kU):Nat:=lD pw u.C
def av9 (u:kU):Prop:=∀ c∈u.C,∀ b∈c.b,b.a.length<=1048576/\b.i.length<=1048576/\b.n.length<=1048576
def tI (u:kU):Bool:=inB (u.C.length:Int) 1 4&&(py (qd u) u.C 0&&decide (ap8 u<=800))
theorem bu7 {α:Type} (p:Int->α->Bool) (f:α->Nat) (B:Int) {X:Type} (e:X) {g:Int->α->Int->Option (Int ⊕ X)} {xs:List α}:∀ {i s:Int},0<=s->s+lD f xs<=B ->
  (∀ (j:Nat) (x:α),xs[j]?=some x->∀ s:Int,0<=s->s+f x<=B->g (i+j) x s=if p (i+j) x then some (.inl (s+f x)) else some (.inr e)) ->
  oA g xs i s=if py p xs i then some (.inl (s+lD f xs)) else some (.inr e):=by
 induction xs with
 | nil=>intro i s _ _ _;simp [oA,py,lD]
 | cons x r L =>
  intro i s h0 N h;simp only [lD] at N;have K:=h 0 x rfl s h0 (by omega);simp only [Int.ofNat_zero,Int.add_zero] at K;have H:g i x s=if p i x then some (.inl (s+f x)) else some (.inr e):=by simpa using K
  simp only [oA,H,py];by_cases hp:p i x=true
  rotate_left
  ·rw [Bool.not_eq_true] at hp;simp [hp]
  ·simp only [hp,if_true,Bool.true_and]
   rw [L (i:=i+1) (by omega) (by omega) (λj y M=>by
    have:=h (j+1) y (by simpa using M)
    rwa [show i+((j+1:Nat):Int)=i+1+(j:Int) by omega] at this)]
   simp only [lD];rw [show s+(f x:Int)+(lD f r:Int)=s+((f x+lD f r:Nat):Int) by omega]
theorem af2 {α:Type} (p:Int->α->Bool) (f:α->Nat) (M:Int) {X:Type} (e:X) {g:Int->α->Int->Option (Int ⊕ X)} {xs:List α}:∀ {i s:Int},0<=s->s<=M ->
  (∀ (j:Nat) (x:α),xs[j]?=some x->∀ s:Int,0<=s->s<=M->g (i+j) x s=if p (i+j) x&&decide (s+f x<=M) then some (.inl (s+f x)) else some (.inr e)) ->
  oA g xs i s=if py p xs i&&decide (s+lD f xs<=M) then some (.inl (s+lD f xs)) else some (.inr e):=by
 induction xs with
 | nil=>intro i s _ h _;simp [oA,py,lD,h]
 | cons x r N =>
  intro i s h0 W h;have h1:=h 0 x rfl s h0 W;have H:g i x s=if p i x&&decide (s+f x<=M) then some (.inl (s+f x)) else some (.inr e):=by simpa using h1
  have L:lD f (x::r)=f x+lD f r:=rfl;simp only [oA,H,py];by_cases hp:p i x=true
  rotate_left
  ·rw [Bool.not_eq_true] at hp;simp [hp]
  by_cases K:s+f x<=M
  rotate_left
  ·have : decide (s + (lD f (x :: r) : Int) <= M) = false := decide_eq_false (by omega);rw [this];simp [hp,K]
  ·simp only [hp,K,decide_true,if_true,Bool.true_and]
   rw [N (i:=i+1) (by omega) (by omega) (λj y O=>by
    have:=h (j+1) y (by simpa using O)
    rwa [show i+((j+1:Nat):Int)=i+1+(j:Int) by omega] at this)]
   rw [show s+(f x:Int)+(lD f r:Int)=s+(lD f (x::r):Int) by omega]
theorem bc2 {α:Type} {f:α->Nat} {B:Nat} {xs:List α} (h:∀ x∈xs,f x<=B):lD f xs<=xs.length*B:=by
 induction xs with
 | nil=>simp [lD]
 | cons x r e =>
  have L:=h x (by simp);have K:=e λy H=>h y (by simp [H])
  simp only [lD,List.length_cons,Nat.add_mul];omega
theorem cj1 (c:jv) (N:c.b.length<=160) (hs:∀ b∈c.b,b.a.length<=1048576/\b.i.length<=1048576):qN c=some (pw c:Int):=by
 unfold qN;rw [x7 (λ(_:Int) (K:jq) (L:Int)=>(some (.inl (w64 (L+(((K.a.length:Int))+((K.i.length:Int)))))):Option (Int ⊕ Empty)))];have O:lD qV c.b<=c.b.length*2097152:=bc2 λb e=>by have:=hs b e;unfold qV;omega
 have H:c.b.length*2097152<=160*2097152:=Nat.mul_le_mul_right _ N
 have h:∀ (g:Int->jq->Int->Option (Int ⊕ Empty)),(∀ i x s,g i x s=some (.inl (w64 (s+(((x.a.length:Int))+((x.i.length:Int)))))))->∀ (xs:List jq) (i s:Int),0<=s->s+lD qV xs<=1000000000->oA g xs i s=some (.inl (s+lD qV xs)):=by
  intro g W xs
  induction xs with
  | nil=>intro i s _ _;simp [oA,lD]
  | cons x r M =>
   intro i s h0 e;simp only [lD,qV] at e;simp only [oA,W];rw [kv (by omega) (by omega),M _ _ (by omega) (by omega)];simp only [lD,qV]
   congr 2
   omega
 rw [h _ (λ_ _ _=>rfl) c.b 0 0 (Int.le_refl _) (by omega)];simp [pw]
theorem zM (u:kU) (hs:av9 u):oq u=some (tI u):=by
 unfold oq tI;simp only [oD,obS];by_cases N:inB (u.C.length:Int) 1 4=true
 rotate_left
 ·rw [Bool.not_eq_true] at N;simp [N]
 have hc:=lO.1 N;simp only [N,Bool.not_true,Bool.false_eq_true,if_false,Bool.true_and]
 rw [pG (xs := u.C) (fun uD M (W : Int) => if qd u uD M then some (.inl (w64 (W + (pw M : Int)))) else some (.inr false)) (by
  intro l x r s h;have hx:jr u.C (l.length:Int)=some x:=by rw [h,kK]
  have a2:l.length<u.C.length:=by rw [h];simp
  simp only [hx,obS,bv4 hx (by omega)];by_cases K:qd u (l.length:Int) x=true
  rotate_left
  ·rw [Bool.not_eq_true] at K;simp [K]
  ·simp only [K,Bool.not_true,Bool.false_eq_true,if_false,if_true];have a0:=K;simp only [qd,Bool.and_eq_true,lO] at a0
   rw [cj1 x (by omega) (λb O=>by
    have:=hs x (by rw [h];simp) b O
    exact ⟨this.1,this.2.1⟩)]
   rfl)]
 by_cases H:py (qd u) u.C 0=true
 ·
  have a3:lD pw u.C<=u.C.length*(160*2097152):=bc2 λc L=>by
   obtain ⟨j,hj⟩:=List.getElem?_of_mem L;have:=zD H j c hj;simp only [qd,Bool.and_eq_true,lO] at this;have h2:lD qV c.b<=c.b.length*2097152:=bc2 λb K=>by have:=hs c L b K;unfold qV;omega
   have h3:c.b.length*2097152<=160*2097152:=Nat.mul_le_mul_right _ (by omega);exact Nat.le_trans h2 h3
  have a1:u.C.length*(160*2097152)<=4*(160*2097152):=Nat.mul_le_mul_right _ (by omega);rw [bu7 (qd u) pw 2000000000 false (Int.le_refl _) (by omega) (λj x hj s h0 _=>by rw [kv (by omega) (by omega)]),H];have e:decide ((ap8 u:Int)<=800)=decide (ap8 u<=800):=decide_eq_decide.2 (by omega);rw [Int.zero_add];change some (decide ((ap8 u:Int)<=800))=_;rw [e,Bool.true_and]
 ·
  rw [Bool.not_eq_true] at H
  have key:∀ (xs:List jv) (i s:Int),py (qd u) xs i=false->oA (λuD M (W:Int)=>if qd u uD M then some (Sum.inl (w64 (W+(pw M:Int)))) else some (.inr false)) xs i s=some (.inr false):=by
   intro xs
   induction xs with
   | nil=>intro i s h;simp [py] at h
   | cons x r ih =>
    intro i s h;simp only [py] at h;simp only [oA];by_cases hp:qd u i x=true
    ·simp only [hp,if_true];exact ih _ _ (by simpa [hp] using h)
    ·rw [Bool.not_eq_true] at hp;simp [hp]
  rw [key _ _ _ H,H];rfl
theorem zC (u:kU) (hs:av9 u):nc u=some (tI u):=by
 unfold nc tI;simp only [sT,obS];by_cases h1:inB (u.C.length:Int) 1 4=true
 rotate_left
 ·rw [Bool.not_eq_true] at h1;simp [h1]
 have hc:=lO.1 h1;simp only [h1,Bool.not_true,Bool.false_eq_true,if_false,Bool.true_and]
 rw [pG (xs := u.C) (fun N x (L : Int) => if 0 <= L /\ L <= 800 then if qd u N x && decide (L + pw x <= 800) then some (.inl (L + pw x)) else some (.inr false) else (fun (N : Int) (L : Int) => ((jr u.C N).bind fun M => ((l3 M.P 0 3).bind fun uJ => if !(uJ) then some true else (l3 M.r M.P 300).bind fun uL => if !(uL) then some true else (l3 (M.b.length : Int) 1 160).bind fun uN => some (!(uN)) : Option (Bool)).bind fun uO => if uO then some (.inr false) else (kO (S := Int) (X := Bool) (fun uH O => (jr M.b uH).bind fun uI => (if decide (800 < (w64 ((w64 (O + ((uI.i.length : Int)))) + ((uI.a.length : Int))))) then some true else (qb u N uH).bind fun uP => some (!(uP)) : Option (Bool)).bind fun uQ => if uQ then some (.inr false) else some (.inl (w64 ((w64 (O + ((uI.i.length : Int)))) + ((uI.a.length : Int)))))) (((M.b.length : Int) : Int) - 0).toNat 0 L).bind (Sum.elim (fun uR => some (.inl uR)) (fun e0 => some (.inr e0))) : Option ((Int) ⊕ (Bool)))) N L) (by
  intro l x r s h;have hx:jr u.C (l.length:Int)=some x:=by rw [h,kK]
  have a4:l.length<u.C.length:=by rw [h];simp
  have a0:x∈u.C:=by rw [h];simp
  by_cases K:0<=s/\s<=800
  rotate_left
  ·rw [if_neg K];simp only [sT,obS]
  rw [if_pos K];simp only [hx,obS]
  have e1:(if !inB x.P 0 3 then some true else if !inB x.r x.P 300 then some true else some (!inB (x.b.length:Int) 1 160))=some (!(inB x.r 0 300&&(inB x.P 0 (min 3 x.r)&&inB (x.b.length:Int) 1 160))):=by
   by_cases W:inB x.P 0 3=true
   ·by_cases q2:inB x.r x.P 300=true
    ·have q3 : inB x.r 0 300 = true := by rw [lO] at *; omega
     have q4:inB x.P 0 (min 3 x.r)=true:=by rw [lO] at *;omega
     simp [W,q2,q3,q4]
    ·have q3:(inB x.r 0 300&&inB x.P 0 (min 3 x.r))=false:=by
      rw [Bool.eq_false_iff];intro hh;apply q2;simp only [Bool.and_eq_true,lO] at hh ⊢;omega
     rw [Bool.not_eq_true] at q2;rw [<- Bool.and_assoc,q3];simp [W,q2]
   ·have q3:(inB x.r 0 300&&inB x.P 0 (min 3 x.r))=false:=by
     rw [Bool.eq_false_iff];intro hh;apply W;simp only [Bool.and_eq_true,lO] at hh ⊢;omega
    rw [Bool.not_eq_true] at W;rw [<- Bool.and_assoc,q3];simp [W]
  rw [e1,obS];by_cases H:(inB x.r 0 300&&(inB x.P 0 (min 3 x.r)&&inB (x.b.length:Int) 1 160))=true
  rotate_left
  ·rw [Bool.not_eq_true] at H
   have:qd u (l.length:Int) x=false:=by
    unfold qd;rw [<- Bool.and_assoc,<- Bool.and_assoc];rw [<- Bool.and_assoc] at H;rw [H];rfl
   simp [H,this]
  have a1:qd u (l.length:Int) x=py (pf u (l.length:Int) x) x.b 0:=by
   unfold qd;rw [<- Bool.and_assoc,<- Bool.and_assoc];rw [<- Bool.and_assoc] at H;rw [H];rfl
  simp only [H,Bool.not_true,Bool.false_eq_true,if_false,a1];simp only [Bool.and_eq_true,lO] at H
  rw [pG (xs := x.b) (fun uH b (O : Int) => if 800 < w64 (w64 (O + (b.i.length : Int)) + (b.a.length : Int)) then some (.inr false) else if pf u (l.length : Int) x uH b then some (.inl (w64 (w64 (O + (b.i.length : Int)) + (b.a.length : Int)))) else some (.inr false)) (by
   intro l2 b _ s2 a3;have hb:jr x.b (l2.length:Int)=some b:=by rw [a3,kK]
   simp only [hb,obS,bm5 hx (by omega) H.1 (by omega) (λy hy=>(hs x a0 y hy).2.2) hb];by_cases q:800<w64 (w64 (s2+(b.i.length:Int))+(b.a.length:Int))
   ·simp [q]
   ·simp only [q,decide_false,Bool.false_eq_true,if_false,obS]
    cases pf u (l.length:Int) x (l2.length:Int) b<;>rfl)]
  rw [af2 (pf u (l.length:Int) x) qV 800 false K.1 K.2 (λj b hj t h0 hM=>by
   have a2:b∈x.b:=List.mem_of_getElem? hj;have:=hs x a0 b a2;rw [kv (n:=t+(b.i.length:Int)) (by omega) (by omega),kv (by omega) (by omega)];have e:t+(b.i.length:Int)+(b.a.length:Int)=t+(qV b:Int):=by unfold qV;omega
   rw [e];by_cases q:t+(qV b:Int)<=800
   ·rw [if_neg (by omega)];simp [q]
   ·rw [if_pos (by omega)];simp [q])]
  change Option.bind (if (py (pf u (l.length:Int) x) x.b 0&&decide (s+(pw x:Int)<=800))=true then _ else _) _=_
  split<;>rfl)]
 rw [af2 (qd u) pw 800 false (Int.le_refl _) (by omega) (λj x hj s h0 hM=>by rw [if_pos ⟨h0,hM⟩])];simp only [Int.zero_add];change Option.bind (if (py (qd u) u.C 0&&decide ((ap8 u:Int)<=800))=true then _ else _) _=_;have e:decide ((ap8 u:Int)<=800)=decide (ap8 u<=800):=decide_eq_decide.2 (by omega);rw [e];by_cases q:(py (qd u) u.C 0&&decide (ap8 u<=800))=true
 ·rw [q];rfl
 ·rw [Bool.not_eq_true] at q;rw [q];rfl
end Unt
end Go.Wk
namespace Go.Wk
open Go
namespace Unt
set_option maxRecDepth 10000
structure St where
 said:List Int
 cells:List Int
 trace:List Int
inductive Res
 | done (v:Int) (n:Nat) (s:St)
 | stop (e:Int) (n:Nat) (s:St)
inductive RI
 | ok (n:Nat) (regs:List Int) (s:St)
 | stop (e:Int) (n:Nat) (s:St)
def at_ (l:List Int) (i:Int):Int:=l.getD i.toNat 0
inductive Eff
 | set (v:Int)
 | say (v:Int)
 | put (i v:Int)
 | call
 | bad (e:Int)
def cc9:List kA->List Int->List Int->List Int
 | f::fs,v::vs,r=>cc9 fs vs (r.set f.to.toNat v)
 | _,_,r=>r
def kX (c:jv) (b:Int):jq:=c.b.getD b.toNat default
def cm5 (c:jv) (H b:Int) (e:List Int):List Int:=(kX c b).a.map λf=>at_ e (at_ f.A (idx H (kH c b) 0))
def enter (c:jv) (H b:Int) (e:List Int):List Int:=cc9 (kX c b).a (cm5 c H b e) e
def da8 (u:kU):Int:=(u.C.length:Int) - 1
def tr (u:kU) (k:Int) (s:St) (b:Int):St:=if k=da8 u then { s with trace:=s.trace++[b] } else s
def V (x:Int):Prop:=0<=x/\x<=255
structure Ok (u:kU):Prop where
 valid:tI u=true
 small:av9 u
theorem Ok.C {u:kU} (h:Ok u):1<=(u.C.length:Int)/\(u.C.length:Int)<=4:=by
 have:=h.valid;simp only [tI,Bool.and_eq_true,lO] at this;exact this.1
theorem Ok.code {u:kU} (h:Ok u) {k:Int} {c:jv} (hk:jr u.C k=some c):qd u k c=true:=by
 have:=h.valid;simp only [tI,Bool.and_eq_true] at this;obtain ⟨h0,e⟩:=jz.1 hk;have H:=zD this.2.1 k.toNat c e
 rwa [show (0:Int)+(k.toNat:Int)=k by omega] at H
structure COk (u:kU) (k:Int) (c:jv):Prop where
 r:0<=c.r/\c.r<=300
 P:0<=c.P/\c.P<=c.r/\c.P<=3
 nb:1<=(c.b.length:Int)/\(c.b.length:Int)<=160
 b:∀ (b:Int) (x:jq),jr c.b b=some x->pf u k c b x=true
theorem Ok.cok {u:kU} (h:Ok u) {k:Int} {c:jv} (hk:jr u.C k=some c):COk u k c:=by
 have:=h.code hk;simp only [qd,Bool.and_eq_true,lO] at this;refine ⟨this.1,⟨this.2.1.1,by omega,by omega⟩,this.2.2.1,λb x K=>?_⟩;obtain ⟨h0,e⟩:=jz.1 K;have H:=zD this.2.2.2 b.toNat x e
 rwa [show (0:Int)+(b.toNat:Int)=b by omega] at H
structure BOk (u:kU) (k:Int) (c:jv) (b:Int) (x:jq):Prop where
 j:(x.j=1/\x.n.length=1/\x.on=0)\/(x.j=2/\x.n.length=2/\0<=x.on/\x.on<c.r)\/(x.j=3/\x.n.length=0/\0<=x.on/\x.on<c.r)
 next:∀ n∈x.n,1<=n/\n<(c.b.length:Int)
 i:∀ i∈x.i,vd u k c i=true
 a:∀ f∈x.a,b≠0/\(0<=f.to/\f.to<c.r)/\f.A.length=(kH c b).length/\∀ r∈f.A,0<=r/\r<c.r
theorem COk.bok {u:kU} {k:Int} {c:jv} (h:COk u k c) {b:Int} {x:jq} (hx:jr c.b b=some x):BOk u k c b x:=by
 have:=h.b b x hx;simp only [pf,Bool.and_eq_true,decide_eq_true_eq,List.all_eq_true] at this;obtain ⟨e,H,h3,W,h5⟩:=this;refine ⟨?_,λn hn=>?_,W,λf N=>?_⟩
 ·unfold x6 at e;by_cases K:x.j=1
  ·rw [if_pos K] at e H;exact .inl ⟨K,by omega,by simpa using H⟩
  rw [if_neg K] at e H;rw [lO] at H;by_cases M:x.j=2
  ·rw [if_pos M] at e;exact .inr (.inl ⟨M,by omega,by omega,by omega⟩)
  rw [if_neg M] at e;by_cases L:x.j=3
  ·rw [if_pos L] at e;exact .inr (.inr ⟨L,by omega,by omega,by omega⟩)
  ·rw [if_neg L] at e;omega
 ·have:=h3 n hn;rw [lO] at this;omega
 ·have:=h5 f N;simp only [vg,rq,Bool.and_eq_true,decide_eq_true_eq,List.all_eq_true,lO] at this;obtain ⟨q1,_,q3,O⟩:=this;exact ⟨q1,by omega,q3,λr hr=>by have:=O r hr;omega⟩
structure IOk (u:kU) (k:Int) (c:jv) (x:kD):Prop where
 op:1<=x.op/\x.op<=14
 A:∀ r∈x.A,0<=r/\r<c.r
 to:x.op≠12->x.op≠13->0<=x.to/\x.to<c.r
 call:x.op=14->0<=x.N/\x.N<k/\(x.A.length:Int)=bj4 u x.N
 plain:x.op≠14->(x.A.length:Int)=yY x.op
 num:x.op=1->V x.N
theorem iok {u:kU} {k:Int} {c:jv} {x:kD} (h:vd u k c x=true):IOk u k c x:=by
 simp only [vd,rq,Bool.and_eq_true,List.all_eq_true,lO] at h;obtain ⟨K,M,N,H⟩:=h;refine ⟨K,λr hr=>by have:=M r hr;omega,λa b=>?_,λe=>?_,λe=>?_,λe=>?_⟩
 ·have : kb x.op = true := by simp [kb, lO, K, a, b]
  rw [if_pos this,lO] at N;omega
 ·rw [if_pos e] at H;simp only [Bool.and_eq_true,lO,decide_eq_true_eq] at H;omega
 ·rw [if_neg e] at H;simp only [Bool.and_eq_true,decide_eq_true_eq] at H;exact H.1
 ·rw [if_neg (by omega)] at H;simp only [Bool.and_eq_true] at H;have L:=H.2;rw [if_pos e,lO] at L;exact L
theorem l0 {c:jv} {b:Int} {x:jq} (h:jr c.b b=some x):kX c b=x:=by
 obtain ⟨_,e⟩:=jz.1 h;unfold kX;rw [List.getD_eq_getElem?_getD,e];rfl
theorem yi {l:List Int} {i:Int} (h0:0<=i) (h:i<(l.length:Int)):jr l i=some (at_ l i):=by
 rw [az7 h0 h];unfold at_;rw [List.getD_eq_getElem?_getD,List.getElem?_eq_getElem (by omega)];rfl
end Unt
end Go.Wk
namespace Go.Wk
open Go
namespace Unt
set_option maxRecDepth 10000
theorem ad9 {α S X:Type} {xs:List α} {body:S->Option (S ⊕ X)} (I:List α->S->Prop) (Q:X->Prop) {s:S} (h0:I [] s)
  (hs:∀ (pre:List α) x e s,xs=pre++x::e->I pre s->(∃ L,body s=some (.inl L)/\I (pre++[x]) L)\/∃ q,body s=some (.inr q)/\Q q)
  (W:∀ s,I xs s->∃ q,body s=some (.inr q)/\Q q):∃ q,kx body s=some q/\Q q:=by
 have key:∀ (e pre:List α) (s:S),xs=pre++e->I pre s->∃ q,kx body s=some q/\Q q:=by
  intro e
  induction e with
  | nil =>
   intro pre s h M;rw [List.append_nil] at h;subst h;obtain ⟨q,K,H⟩:=W s M;exact ⟨q,rH K,H⟩
  | cons x e ih =>
   intro pre s h M;rcases hs pre x e s h M with ⟨L,K,H⟩ | ⟨q,K,H⟩
   ·obtain ⟨q, O, N⟩ := ih (pre ++ [x]) L (by rw [h]; simp) H;exact ⟨q,(sR K).trans O,N⟩
   ·exact ⟨q,rH K,H⟩
 exact key xs [] s rfl h0
def nk (c:jv) (b:Int):List Int:=match jr c.b b with | some x=>x.n | none=>[]
theorem nZ {c:jv} {b:Int} {x:jq} (h:jr c.b b=some x):nk c b=x.n:=by unfold nk;rw [h]
def mq (l:List Bool) (r:Int):Prop:=jr l r=some true
theorem qh {l:List Bool} {r:Int}:mq l r↔0<=r/\l[r.toNat]?=some true:=jz
theorem z8 {l:List Bool} {q r:Int} (h0:0<=q) (H:q<(l.length:Int)):mq (l.set q.toNat true) r↔(r=q\/mq l r):=by
 rw [qh,qh];by_cases e:r=q
 ·subst e;rw [List.getElem?_set_self (by omega)];simp [h0]
 ·constructor
  ·rintro ⟨a,b⟩;rw [List.getElem?_set_ne (by omega)] at b;exact .inr ⟨a,b⟩
  ·rintro (a | ⟨a,b⟩)
   ·exact absurd a e
   ·exact ⟨a,by rw [List.getElem?_set_ne (by omega)];exact b⟩
theorem vn:∀ {l:List Bool} {i:Nat},l[i]?=some false->(l.set i true).count false+1=l.count false
 | [],i,h=>by simp at h
 | b::l,0,h=>by simp at h;subst h;simp
 | b::l,i+1,h=>by
  have:=vn (l:=l) (i:=i) (by simpa using h);simp only [List.set_cons_succ,List.count_cons];omega
end Unt
end Go.Wk
namespace Go.Wk
open Go
namespace Unt
set_option maxRecDepth 10000
open Classical
def tab {α:Type} (n:Nat) (f:Int->α):List α:=(List.range n).map λ(j:Nat)=>f (j:Int)
section
variable {α:Type} {n:Nat} {f g:Int->α}
theorem mn:(tab n f).length=n:=by simp [tab]
theorem xz {k:Nat} (h:k<n):(tab n f)[k]?=some (f (k:Int)):=by simp [tab,h]
theorem lf {k:Int} (h0:0<=k) (e:k<(n:Int)):jr (tab n f) k=some (f k):=by
 refine jz.2 ⟨h0,?_⟩;rw [xz (by omega),show ((k.toNat:Nat):Int)=k by omega]
theorem qa {k:Int} {v:α} (h0:0<=k):(tab n f).set k.toNat v=tab n (λr=>if r=k then v else f r):=by
 apply List.ext_getElem?;intro j;by_cases H:j<n
 ·rw [xz H];by_cases e:k.toNat=j
  ·subst e;rw [List.getElem?_set_self (by rw [mn];exact H),if_pos (by omega)]
  ·rw [List.getElem?_set_ne e,xz H,if_neg (by omega)]
 ·rw [List.getElem?_eq_none (by rw [List.length_set,mn];omega),List.getElem?_eq_none (by rw [mn];omega)]
theorem wQ {z:α}:List.replicate n z=tab n (λ_=>z):=by simp [tab,List.map_const']
theorem lE (h:∀ k:Int,0<=k->k<(n:Int)->f k=g k):tab n f=tab n g:=by
 unfold tab;refine List.map_congr_left λj e=>h _ (by omega) ?_
 have:=List.mem_range.1 e;omega
theorem ca1:tab (n+1) f=tab n f++[f (n:Int)]:=by simp [tab,List.range_succ]
theorem bc8 {x:α} (h:x∈tab n f):∃ k:Int,0<=k/\k<(n:Int)/\x=f k:=by
 obtain ⟨j,e,H⟩:=List.mem_map.1 h;have:=List.mem_range.1 e;exact ⟨j,by omega,by omega,H.symm⟩
theorem ca9 {X:Type} {body:Int->List α->Option (List α ⊕ X)} (z:α) (O:∀ (i:Int) (ys:List α),0<=i->i<(n:Int)->ys.length=n->body i ys=some (.inl (ys.set i.toNat (f i)))) :
  kO body ((n:Int) - 0).toNat 0 (List.replicate n z)=some (.inl (tab n f)):=by
 obtain ⟨ys, H, L⟩ := oE (body := body) (k := ((n : Int) - 0).toNat) (i := 0) (s := List.replicate n z) (fun i ys => ys = tab n (fun r => if r < i then f r else z)) (by
   rw [wQ];exact lE λk h0 _=>by rw [if_neg (by omega)]) (λi ys H L K=>by
   refine ⟨_,O i ys H (by omega) (by rw [K,mn]),?_⟩;rw [K,qa H];refine lE λk N _=>?_
   by_cases e:k=i
   ·rw [if_pos e,if_pos (by omega),e]
   ·rw [if_neg e];by_cases M:k<i
    ·rw [if_pos M,if_pos (by omega)]
    ·rw [if_neg M,if_neg (by omega)])
 rw [H,L]
 congr 2
 exact lE λk K N=>by rw [if_pos (by omega)]
theorem bm4 {X:Type} {body:Int->List α->Option (List α ⊕ X)} (L:∀ (i:Int) (ys:List α),0<=i->i<(n:Int)->(ys.length:Int)=i->body i ys=some (.inl (ys++[f i]))) :
  kO body ((n:Int) - 0).toNat 0 []=some (.inl (tab n f)):=by
 obtain ⟨ys,e,H⟩:=oE (body:=body) (k:=((n:Int) - 0).toNat) (i:=0) (s:=[]) (λi ys=>ys=tab i.toNat f) rfl (λi ys e H K=>by
   refine ⟨_,L i ys e (by omega) (by rw [K,mn];omega),?_⟩
   rw [K,show (i+1).toNat=i.toNat+1 by omega,ca1,show ((i.toNat:Nat):Int)=i by omega])
 rw [e,H]
 congr 3
 omega
end
inductive Rt (c:jv) (av:Int->Prop):Int->Int->Prop
 | refl {b:Int}:¬ av b->Rt c av b b
 | step {b r n:Int}:Rt c av b r->n∈nk c r->¬ av n->Rt c av b n
section
variable {c:jv} {av av':Int->Prop}
theorem Rt.end_ {b r:Int} (h:Rt c av b r):¬ av r:=by cases h<;>assumption
theorem Rt.start {b r:Int} (h:Rt c av b r):¬ av b:=by
 induction h with
 | refl h=>exact h
 | step _ _ _ e=>exact e
theorem Rt.trans {a b r:Int} (L:Rt c av a b) (K:Rt c av b r):Rt c av a r:=by
 induction K with
 | refl _=>exact L
 | step _ M e H=>exact .step H M e
theorem Rt.mono (h:∀ r,av' r->av r) {b r:Int} (L:Rt c av b r):Rt c av' b r:=by
 induction L with
 | refl e=>exact .refl λH=>e (h _ H)
 | step _ M e K=>exact .step K M λH=>e (h _ H)
end
structure Vs (c:jv) (b:Int) (seen seen':List Bool) (new:List Int):Prop where
 len:seen'.length=seen.length
 iff:∀ r,mq seen' r↔mq seen r\/r∈new
 fresh:∀ r∈new,¬ mq seen r
 nodup:new.Nodup
 me:b∈new
 closed:∀ r∈new,∀ n∈nk c r,mq seen' n
 cnt:seen'.count false+new.length=seen.count false
 reach:∀ r∈new,Rt c (mq seen) b r
section
variable {c:jv} (hnx:∀ b x,jr c.b b=some x->∀ n∈x.n,0<=n/\n<(c.b.length:Int)) (hnl:∀ b x,jr c.b b=some x->x.n.length<=2)
include hnx hnl
theorem cg3:∀ (N:Nat) (b:Int) (seen:List Bool) (K:List Int),seen.length=c.b.length->0<=b->b<(c.b.length:Int)->¬ mq seen b->seen.count false<=N->K.length+seen.count false<=1048576 ->
  ∃ a0 a6,lL c b seen K=some (K++a6,a0)/\Vs c b seen a0 a6:=by
 intro N
 induction N with
 | zero =>
  intro b seen K hl h0 h1 M hN _;obtain ⟨v,hv,a1,_⟩:=kV (xs:=seen) (j:=b) h0 (by omega);cases v with
  | true=>exact absurd hv M
  | false=>have:=vn a1;omega
 | succ N ih =>
  intro b seen K hl h0 h1 M hN _;obtain ⟨v,hv,a1,_⟩:=kV (xs:=seen) (j:=b) h0 (by omega);cases v with
  | true=>exact absurd hv M
  | false =>
   have aB:=vn a1;obtain ⟨x,hx,_⟩:=kV (xs:=c.b) (j:=b) h0 h1;have aA:=hnl b x hx;have a2:∀ r,mq (seen.set b.toNat true) r↔(r=b\/mq seen r):=λr=>z8 h0 (by omega)
   obtain ⟨⟨o, s⟩, e1, H, i1, i2, O, i4, i5, i6, i7, i8, L⟩ := ad9 (xs := x.n) (body := (fun (uC : (List Bool) × (List Int) × Int) => ((jr c.b b).bind fun uD => if decide (uC.2.2 < ((uD.n.length : Int))) then ((jr uD.n uC.2.2).bind fun uE => (jr uC.1 uE).bind fun uJ => (if !(uJ) then (lL c uE uC.1 uC.2.1).bind fun uG => some (uG.2, uG.1) else some (uC.1, uC.2.1) : Option ((List Bool) × (List Int))).bind fun uH => some (uH.1, uH.2) : Option ((List Bool) × (List Int))).bind fun uI => some (.inl (uI.1, uI.2, w64 (uC.2.2 + 1))) else some (.inr (uC.2.1, uC.1)) : Option (((List Bool) × (List Int) × Int) ⊕ ((List Int) × (List Bool)))))) (s := (seen.set b.toNat true, K, 0))
    (λpre s=>∃ H,s.2.1=K++H/\s.1.length=c.b.length/\(∀ r,mq s.1 r↔mq (seen.set b.toNat true) r\/r∈H)/\(∀ r∈H,¬ mq (seen.set b.toNat true) r)/\H.Nodup/\(∀ r∈H,∀ n∈nk c r,mq s.1 n)/\(∀ n∈pre,mq s.1 n) /\
     s.1.count false+H.length=(seen.set b.toNat true).count false/\(∀ r∈H,Rt c (mq seen) b r)/\s.2.2=(pre.length:Int))
    (λq=>∃ H,q.1=K++H/\q.2.length=c.b.length/\(∀ r,mq q.2 r↔mq (seen.set b.toNat true) r\/r∈H)/\(∀ r∈H,¬ mq (seen.set b.toNat true) r)/\H.Nodup/\(∀ r∈H,∀ n∈nk c r,mq q.2 n)/\(∀ n∈x.n,mq q.2 n) /\
     q.2.count false+H.length=(seen.set b.toNat true).count false/\(∀ r∈H,Rt c (mq seen) b r))
    ⟨[],by simp,by simpa using hl,λr=>by simp,λr h=>by simp at h,List.nodup_nil,λr h=>by simp at h,λn h=>by simp at h,by simp,λr h=>by simp at h,rfl⟩
    (λpre n _ s he hI=>by
     obtain ⟨s,o,i⟩:=s;obtain ⟨H,i1,i2,O,i4,i5,i6,i7,i8,L,i9⟩:=hI;dsimp only at i1 i2 O i6 i7 i8 i9 ⊢;subst i9;have a8:n∈x.n:=by rw [he];simp
     have hn:=hnx b x hx n a8;have hg:jr x.n (pre.length:Int)=some n:=by rw [he];exact kK
     have a3:(pre.length:Int)<(x.n.length:Int):=by rw [he];simp;omega
     have hw:w64 ((pre.length:Int)+1)=(pre.length:Int)+1:=kv (by omega) (by omega);obtain ⟨v,hv,a1,_⟩:=kV (xs:=s) (j:=n) hn.1 (by omega);cases v with
     | true =>
      refine .inl ⟨(s,o,(pre.length:Int)+1),?_,H,i1,i2,O,i4,i5,i6,λk hk=>?_,i8,L,by simp⟩
      ·rw [hx, obS, if_pos (by simpa using a3), hg, obS, hv];simp [hw]
      ·rcases List.mem_append.1 hk with h | h
       ·exact i7 k h
       ·rw [List.mem_singleton.1 h];exact hv
     | false =>
      have a4:¬ mq s n:=λh=>by unfold mq at h;rw [hv] at h;cases h
      obtain ⟨s',a9,g2,W⟩:=ih n s o i2 hn.1 hn.2 a4 (by omega) (by rw [i1,List.length_append];omega);have a7:∀ r,mq seen r->mq s r:=λr hr=>(O r).2 (.inl ((a2 r).2 (.inr hr)))
      refine .inl ⟨(s',o++a9,(pre.length:Int)+1),?_,H++a9,by dsimp only;rw [i1,List.append_assoc],by rw [W.len];exact i2,λr=>?_,λr hr=>?_,?_,λr hr k hk=>?_,λk hk=>?_,?_,λr hr=>?_,by simp⟩
      ·rw [hx, obS, if_pos (by simpa using a3), hg, obS, hv, obS];simp only [Bool.not_false,if_true];rw [g2];simp [hw]
      ·dsimp only;rw [W.iff,O,List.mem_append,or_assoc]
      ·rcases List.mem_append.1 hr with h | h
       ·exact i4 r h
       ·exact λhh=>W.fresh r h ((O r).2 (.inl hh))
      ·refine List.nodup_append.2 ⟨i5,W.nodup,λr h1 r2 h2 e=>?_⟩;subst e;exact W.fresh r h2 ((O r).2 (.inr h1))
      ·rcases List.mem_append.1 hr with h | h
       ·exact (W.iff k).2 (.inl (i6 r h k hk))
       ·exact W.closed r h k hk
      ·rcases List.mem_append.1 hk with h | h
       ·exact (W.iff k).2 (.inl (i7 k h))
       ·rw [List.mem_singleton.1 h];exact (W.iff n).2 (.inr W.me)
      ·dsimp only;have:=W.cnt;rw [List.length_append];omega
      ·rcases List.mem_append.1 hr with h | h
       ·exact L r h
       ·have h2:=(W.reach r h).mono a7
        exact (Rt.step (.refl M) (by rw [nZ hx];exact a8) h2.start).trans h2)
    (λs hI=>by
     obtain ⟨s,o,i⟩:=s;obtain ⟨H,i1,i2,O,i4,i5,i6,i7,i8,L,i9⟩:=hI;dsimp only at i1 i2 O i6 i7 i8 i9 ⊢;subst i9;refine ⟨(o,s),?_,H,i1,i2,O,i4,i5,i6,i7,i8,L⟩
     rw [hx,obS,if_neg (by simp)])
   dsimp only at i1 i2 O i6 i7 i8
   have a5:k8 o [b]=some (K++(H++[b])):=by
    rw [ka (by rw [i1,List.length_append];simp;omega),i1,List.append_assoc]
   refine ⟨s,H++[b],?_,⟨by rw [i2,hl],λr=>?_,λr hr=>?_,?_,by simp,λr hr k hk=>?_,by rw [List.length_append,List.length_singleton];omega,λr hr=>?_⟩⟩
   ·rw [lL,hv,obS];refine kN (a:=(o,s)) (kN e1 rfl) ?_;dsimp only;rw [a5];rfl
   ·rw [O,a2,List.mem_append,List.mem_singleton];constructor
    ·rintro ((h | h) | h)
     ·exact .inr (.inr h)
     ·exact .inl h
     ·exact .inr (.inl h)
    ·rintro (h | h | h)
     ·exact .inl (.inr h)
     ·exact .inr h
     ·exact .inl (.inl h)
   ·rcases List.mem_append.1 hr with h | h
    ·exact λhh=>i4 r h ((a2 r).2 (.inr hh))
    ·rw [List.mem_singleton.1 h];exact M
   ·refine List.nodup_append.2 ⟨i5, by simp, fun r h1 r2 h2 e => ?_⟩;subst e;rw [List.mem_singleton] at h2;exact i4 r h1 ((a2 r).2 (.inl h2))
   ·rcases List.mem_append.1 hr with h | h
    ·exact i6 r h k hk
    ·rw [List.mem_singleton.1 h,nZ hx] at hk;exact i7 k hk
   ·rcases List.mem_append.1 hr with h | h
    ·exact L r h
    ·rw [List.mem_singleton.1 h];exact .refl M
theorem ax5 {b:Int} {seen:List Bool} (O:seen.length=c.b.length) (hlen:c.b.length<=1048576) (h0:0<=b) (h1:b<(c.b.length:Int)) (L:¬ mq seen b) :
  ∃ H e,lL c b seen []=some (H,e)/\e.length=c.b.length/\(∀ r,mq e r↔mq seen r\/Rt c (mq seen) b r)/\e.count false+H.length=seen.count false:=by
 have M:seen.count false<=1048576:=Nat.le_trans List.count_le_length (by omega);obtain ⟨e,H,N,K⟩:=cg3 hnx hnl _ b seen [] O h0 h1 L (Nat.le_refl _) (by simpa using M);rw [List.nil_append] at N;refine ⟨H,e,N,by rw [K.len,O],λr=>?_,K.cnt⟩;rw [K.iff];constructor
 ·rintro (h | h)
  ·exact .inl h
  ·exact .inr (K.reach r h)
 ·rintro (h | h)
  ·exact .inl h
  ·right
   induction h with
   | refl _=>exact K.me
   | step _ hn W ih=>exact (((K.iff _).1 (K.closed _ ih _ hn))).resolve_left W
end
end Unt
end Go.Wk
namespace Go.Wk
open Go
namespace Unt
set_option maxRecDepth 10000
theorem ag5 {f:jq->Option Bool} {p:jq->Bool} {xs:List jq} (h:∀ x,f x=some (p x)):lA xs f=some (xs.any p):=by
 unfold lA l5
 rcases sA (xs := xs) p (fun i => i) (body := (fun (e : Int) (_ : Unit) => ((jr xs e).bind fun H => (f H).bind fun M => if M then some (.inr e) else some (.inl ()) : Option ((Unit) ⊕ (Int))))) (by
   intro a x r K;have L:jr xs (a.length:Int)=some x:=by rw [K,kK]
   simp only [L,obS,h]) with ⟨h1,h2⟩ | ⟨a,x,r,h1,h2,h3,h4⟩
 ·rw [h2,h1];rfl
 ·rw [h4,h1];simp [h3]
section
variable {u:kU} {k:Int} {c:jv} (hck:COk u k c)
include hck
theorem an5:∀ b x,jr c.b b=some x->∀ n∈x.n,1<=n/\n<(c.b.length:Int):=λ_ _ e=>(hck.bok e).next
omit hck in
theorem cg0 {x:jq} (h:x∈c.b):∃ b,jr c.b b=some x:=by
 obtain ⟨n,e⟩:=List.getElem?_of_mem h;exact ⟨(n:Int),jz.2 ⟨by omega,by simpa using e⟩⟩
theorem ao7:pM c=some true:=by
 have hnb:=hck.nb;unfold pM
 rw [if_pos (by simp;omega),ag5 (p:=λx=>x.n.any λn=>!(inB n 0 ((c.b.length:Int) - 1))) (λx=>by
  unfold qE
  rw [sY (p:=λn=>!(inB n 0 ((c.b.length:Int) - 1))) (λn=>by unfold oe;rw [oD];rfl)];rfl)]
 have:(c.b.any λx=>x.n.any λn=>!(inB n 0 ((c.b.length:Int) - 1)))=false:=List.any_eq_false.2 λx e=>by
  obtain ⟨b,K⟩:=cg0 e
  have:(x.n.any λn=>!(inB n 0 ((c.b.length:Int) - 1)))=false:=List.any_eq_false.2 λn H=>by
   have:=an5 hck b x K n H;have:inB n 0 ((c.b.length:Int) - 1)=true:=lO.2 (by omega);simp [this]
  simp [this]
 rw [this];rfl
end
end Unt
end Go.Wk
namespace Go.Wk
open Go
namespace Unt
set_option maxRecDepth 10000
open Classical
noncomputable def oW (c:jv) (b:Int):Bool:=decide (Rt c (λ_=>False) 0 b)
noncomputable def w7 (c:jv) (a b:Int):Bool:=oW c a&&(oW c b&&!decide (Rt c (λr=>r=a) 0 b))
noncomputable def inT (c:jv):List Bool:=tab c.b.length (oW c)
noncomputable def domT (c:jv):List (List Bool):=tab c.b.length λa=>tab c.b.length (w7 c a)
theorem zw {l:List Bool} {p:Int->Prop} (h:∀ r,mq l r↔p r):l=tab l.length (λb=>decide (p b)):=by
 apply List.ext_getElem?;intro j;by_cases K:j<l.length
 ·rw [xz K];have H:=h (j:Int);rw [qh,show ((j:Int)).toNat=j by omega] at H;rw [List.getElem?_eq_getElem K] at H ⊢
  congr 1
  by_cases e:p (j:Int)
  ·have:=(H.2 e).2;rw [decide_eq_true e];simpa using this
  ·rw [decide_eq_false e];cases L:l[j] with
   | false=>rfl
   | true=>exact absurd (H.1 ⟨by omega,by rw [L]⟩) e
 ·rw [List.getElem?_eq_none (by omega),List.getElem?_eq_none (by rw [mn];omega)]
section
variable {c:jv} (hnx:∀ b x,jr c.b b=some x->∀ n∈x.n,0<=n/\n<(c.b.length:Int)) (hnl:∀ b x,jr c.b b=some x->x.n.length<=2) (hpos:0<c.b.length) (hlen:c.b.length<=1048576)
include hnx hnl hpos hlen
theorem as3 (H:Int):∃ l,mL c H=some l/\l.length=c.b.length/\∀ r,mq l r↔Rt c (λr=>r=H) 0 r:=by
  unfold mL;have a6:(List.replicate c.b.length false).count false=c.b.length:=by simp
  obtain ⟨l, e1, e2, e3⟩ := lp (b1 := (fun (O : (List Bool) × (List Int)) => (if decide (0 < ((O.2.length : Int))) then ((jr O.2 (((O.2.length : Int)) - 1)).bind fun uD => (tl O.2 0 (((O.2.length : Int)) - 1)).bind fun uE => (if decide (uD = H) then some true else (jr O.1 uD).bind fun uH => some uH : Option (Bool)).bind fun uI => if uI then some (O.1, uE) else (jr O.1 uD).bind fun _ => (jr c.b uD).bind fun uJ => (k8 uE uJ.n).bind fun uL => some ((O.1.set (uD).toNat true), uL) : Option ((List Bool) × (List Int))).bind fun uG => some (.inl (uG.1, uG.2)) else some (.inr O.1) : Option (((List Bool) × (List Int)) ⊕ ((List Bool)))))) (fun s : List Bool × List Int => s.1.length = c.b.length /\ (∀ t ∈ s.2, 0 <= t /\ t < (c.b.length : Int)) /\ s.2.length + 3 * s.1.count false <= 3 * c.b.length + 1 /\
      (∀ r,mq s.1 r->Rt c (λr=>r=H) 0 r)/\(∀ t∈s.2,t≠H->Rt c (λr=>r=H) 0 t)/\(∀ r,mq s.1 r->∀ n∈nk c r,n=H\/mq s.1 n\/n∈s.2)/\(0=H\/mq s.1 0\/0∈s.2))
    (λl=>l.length=c.b.length/\∀ r,mq l r↔Rt c (λr=>r=H) 0 r) (λs=>s.2.length+3*s.1.count false) (λs hs=>by
      obtain ⟨seen,a3⟩:=s;obtain ⟨h1,h2,h3,h4,h5,h6,h7⟩:=hs;dsimp only at h1 h2 h3 h4 h5 h6 h7 ⊢;rcases List.eq_nil_or_concat a3 with e | ⟨pre,t,e⟩
      · subst e;right;refine ⟨seen,by rw [if_neg (by simp)],h1,λr=>⟨h4 r,λhr=>?_⟩⟩
        induction hr with
        | refl hv => rcases h7 with h | h | h
                     · exact absurd h hv
                     · exact h
                     · simp at h
        | step _ hn hv ih => rcases h6 _ ih _ hn with h | h | h
                             · exact absurd h hv
                             · exact h
                             · simp at h
      · rw [List.concat_eq_append] at e;subst e;left;have L:=h2 t (by simp)
        have hg:jr (pre++[t]) (((pre++[t]).length:Int) - 1)=some t:=by
          rw [show ((pre++[t]).length:Int) - 1=(pre.length:Int) by simp];exact kK
        have N:tl (pre++[t]) 0 (((pre++[t]).length:Int) - 1)=some pre:=by
          refine oN.2 ⟨by simp;omega,?_⟩;rw [show (((pre++[t]).length:Int) - 1).toNat=pre.length by simp];simp
        have a1:decide (0<(((pre++[t]).length:Int)))=true:=by simp
        have a4:(pre++[t]).length=pre.length+1:=by simp
        rw [a4] at h3
        have K:(t=H\/mq seen t)->∀ r,(r=H\/mq seen r\/r∈pre++[t])->r=H\/mq seen r\/r∈pre:=by
          intro L r hr;rcases hr with h | h | h
          · exact .inl h
          · exact .inr (.inl h)
          · rcases List.mem_append.1 h with h | h
            · exact .inr (.inr h)
            · rw [List.mem_singleton.1 h];rcases L with h | h
              · exact .inl h
              · exact .inr (.inl h)
        by_cases e:t=H
        · refine ⟨(seen, pre), ?_, ⟨h1, fun q M => h2 q (by simp [M]), by dsimp only; omega, h4, fun q M => h5 q (by simp [M]), fun r hr n hn => K (.inl e) n (h6 r hr n hn), K (.inl e) 0 h7⟩, by dsimp only; omega⟩;rw [if_pos a1,hg,obS,N,obS,if_pos (by simpa using e)];rfl
        · obtain ⟨v, hv, a5, _⟩ := kV (xs := seen) (j := t) L.1 (by omega);cases v with
          | true =>
            refine ⟨(seen,pre),?_,⟨h1,λq M=>h2 q (by simp [M]),by dsimp only;omega,h4,λq M=>h5 q (by simp [M]),λr hr n hn=>K (.inr hv) n (h6 r hr n hn),K (.inr hv) 0 h7⟩,by dsimp only;omega⟩;rw [if_pos a1,hg,obS,N,obS,if_neg (by simpa using e),hv];rfl
          | false =>
            obtain ⟨x,hx,_⟩:=kV (xs:=c.b) (j:=t) L.1 L.2;have a7:=hnl t x hx;have hc:=vn a5;have a0:∀ r,mq (seen.set t.toNat true) r↔(r=t\/mq seen r):=λr=>z8 L.1 (by omega)
            have a8:seen.count false<=1048576:=Nat.le_trans List.count_le_length (by omega)
            have conv:∀ r,(r=H\/mq seen r\/r∈pre++[t])->r=H\/mq (seen.set t.toNat true) r\/r∈pre++x.n:=by
              intro r hr;rcases hr with h | h | h
              · exact .inl h
              · exact .inr (.inl ((a0 r).2 (.inr h)))
              · rcases List.mem_append.1 h with h | h
                · exact .inr (.inr (by simp [h]))
                · exact .inr (.inl ((a0 r).2 (.inl (List.mem_singleton.1 h))))
            have a2:=h5 t (by simp) e;refine ⟨(seen.set t.toNat true,pre++x.n),?_,⟨by simpa using h1,λq M=>?_,by dsimp only;rw [List.length_append];omega,λr hr=>?_,λq M W=>?_,λr hr n hn=>?_,conv 0 h7⟩,by dsimp only;rw [List.length_append];omega⟩
            · rw [if_pos a1, hg, obS, N, obS, if_neg (by simpa using e), hv];simp only [obS,Bool.false_eq_true,if_false];rw [hx,obS,ka (by omega)];rfl
            · rcases List.mem_append.1 M with h | h
              · exact h2 q (by simp [h])
              · exact hnx t x hx q h
            · rcases (a0 r).1 hr with h | h
              · rw [h];exact a2
              · exact h4 r h
            · rcases List.mem_append.1 M with h | h
              · exact h5 q (by simp [h]) W
              · exact .step a2 (by rw [nZ hx];exact h) W
            · rcases (a0 r).1 hr with h | h
              · rw [h,nZ hx] at hn;exact .inr (.inr (by simp [hn]))
              · exact conv n (h6 r h n hn)) (3*c.b.length+2) (List.replicate c.b.length false,[0])
    ⟨by simp,λt L=>by simp at L;omega,by simp;omega,λr hr=>by
      have:=(qh.1 hr).2;rw [List.getElem?_replicate] at this
      split at this<;>simp at this,λt L W=>by
        rw [List.mem_singleton] at L;subst L;exact .refl W,λr hr=>by
      have:=(qh.1 hr).2;rw [List.getElem?_replicate] at this
      split at this<;>simp at this,.inr (.inr (by simp))⟩ (by simp;omega)
  refine ⟨l,?_,e2,e3⟩;rw [nW (by omega) (by omega),obS,Int.toNat_natCast];exact kN (kN e1 rfl) rfl
omit hnl hpos hlen in
theorem ct3 {b:Int} (L:0<=b) {r:Int}:Rt c (λr=>r=-1) b r↔Rt c (λ_=>False) b r:=by
 refine ⟨λh=>h.mono λ_ h=>h.elim,λh=>?_⟩
 induction h with
 | refl _=>exact .refl (by omega)
 | step hr e _ H =>
  refine .step H e ?_;unfold nk at e;split at e
  ·rename_i x K;have:=hnx _ x K _ e;omega
  ·simp at e
theorem be7:mL c (-1)=some (inT c):=by
 obtain ⟨l,e,H,K⟩:=as3 hnx hnl hpos hlen (-1);rw [e,zw (p:=λr=>Rt c (λ_=>False) 0 r) λr=>(K r).trans (ct3 hnx (Int.le_refl _)),H];rfl
theorem be1 (a:Int):mL c a=some (tab c.b.length λb=>decide (Rt c (λr=>r=a) 0 b)):=by
 obtain ⟨l,e,H,K⟩:=as3 hnx hnl hpos hlen a;rw [e,zw K,H]
theorem ax4 (hg:pM c=some true):rM c=some (some ⟨c,domT c,inT c⟩):=by
 unfold rM;simp only [hg,obS,Bool.not_true,Bool.false_eq_true,if_false,be7 hnx hnl hpos hlen]
 rw [bm4 (f:=λa=>tab c.b.length (w7 c a)) (λi ys h0 W _=>by
  have e:jr (inT c) i=some (oW c i):=lf h0 W;simp only [nW (n:=(c.b.length:Int)) (by omega) (by omega),obS,Int.toNat_natCast,e];cases M:oW c i with
  | false =>
   have N:List.replicate c.b.length false=tab c.b.length (w7 c i):=by
    rw [wQ];exact lE λk _ _=>by simp [w7,M]
   simp only [Bool.false_eq_true,if_false,obS,N];rw [ka (by simp;omega)];rfl
  | true =>
   simp only [if_true,be1 hnx hnl hpos hlen,obS,List.length_replicate]
   rw [ca9 (f:=w7 c i) false (λj zs H L _=>by
    have O:jr (inT c) j=some (oW c j):=lf H L;obtain ⟨z,K,_⟩:=kV (xs:=zs) (j:=j) H (by omega);have ht:jr (tab c.b.length λb=>decide (Rt c (λr=>r=i) 0 b)) j=some (decide (Rt c (λr=>r=i) 0 j)):=lf H L;simp only [O,obS,ht,K];unfold w7;rw [M]
    cases oW c j<;>simp)]
   simp only [obS,Sum.elim_inl]
   rw [ka (by simp;omega)];rfl)]
 rfl
theorem bo0:∃ H,lL c 0 (List.replicate c.b.length false) []=some (H,inT c)/\(inT c).count false+H.length=c.b.length:=by
 have K:∀ r,¬ mq (List.replicate c.b.length false) r:=λr hr=>by
  have:=(qh.1 hr).2;rw [List.getElem?_replicate] at this;split at this<;>simp at this
 obtain ⟨H,L,O,M,W,N⟩:=ax5 hnx hnl (b:=0) (seen:=List.replicate c.b.length false) (by simp) hlen (Int.le_refl _) (by omega) (K 0)
 have e:L=inT c:=by
  have:=zw (l:=L) (p:=λr=>Rt c (λ_=>False) 0 r) λr=>by
   rw [W];constructor
   ·rintro (h | h)
    ·exact absurd h (K r)
    ·exact h.mono λ_ h=>h.elim
   ·intro h;exact .inr (h.mono λr hr=>K r hr)
  rw [this,M];rfl
 subst e;exact ⟨H,O,by simpa using N⟩
theorem av7:pL c=some (domT c):=by
 obtain ⟨_,h1,_⟩:=bo0 hnx hnl hpos hlen;unfold pL;simp only [nW (n:=(c.b.length:Int)) (by omega) (by omega),obS,Int.toNat_natCast,h1]
 rw [bm4 (f:=λa=>tab c.b.length (w7 c a)) (λi ys h0 O _=>by
  have N:jr (inT c) i=some (oW c i):=lf h0 O;have hx:jr (List.replicate c.b.length false) i=some false:=jz.2 ⟨h0,by rw [List.getElem?_replicate,if_pos (by omega)]⟩
  have hs:(if decide (i≠0) then (lL c 0 ((List.replicate c.b.length false).set i.toNat true) ([]:List Int)).bind λuC=>(jr uC.2 i).bind λ_=>some (uC.2.set i.toNat false) else some ((List.replicate c.b.length false).set i.toNat false))=some (tab c.b.length λb=>decide (Rt c (λr=>r=i) 0 b)):=by
   by_cases e:i=0
   ·subst e;rw [if_neg (by simp),wQ,qa (Int.le_refl _)]
    congr 1
    exact lE λk _ _=>by
     rw [decide_eq_false λh=>h.start rfl];split<;>rfl
   ·rw [if_pos (by simpa using e)]
    have H:∀ r,mq ((List.replicate c.b.length false).set i.toNat true) r↔r=i:=λr=>by
     rw [z8 h0 (by simpa using O)];constructor
     ·rintro (h | h)
      ·exact h
      ·have:=(qh.1 h).2;rw [List.getElem?_replicate] at this;split at this<;>simp at this
     ·exact .inl
    obtain ⟨_,W,f1,f2,f3,_⟩:=ax5 hnx hnl (b:=0) (seen:=(List.replicate c.b.length false).set i.toNat true) (by simp) hlen (Int.le_refl _) (by omega) (λh=>e ((H 0).1 h).symm)
    have es:W=tab c.b.length λb=>decide (b=i\/Rt c (λr=>r=i) 0 b):=by
     have:=zw (l:=W) (p:=λb=>b=i\/Rt c (λr=>r=i) 0 b) λr=>by
      rw [f3,H];exact or_congr Iff.rfl ⟨λh=>h.mono λr hr=>(H r).2 hr,λh=>h.mono λr hr=>(H r).1 hr⟩
     rw [f2] at this;rw [this];exact lE λk _ _=>decide_eq_decide.2 Iff.rfl
    rw [f1,obS,es,lf h0 O,obS,qa h0]
    congr 1
    refine lE λk _ _=>?_
    by_cases K:k=i
    ·subst K;rw [if_pos rfl,decide_eq_false λh=>h.end_ rfl]
    ·rw [if_neg K];exact decide_eq_decide.2 ⟨λh=>h.resolve_left K,.inr⟩
  rw [hx,obS,hs,obS]
  rw [ca9 (f:=w7 c i) false (λj zs L g2 _=>by
   have hj:jr (inT c) j=some (oW c j):=lf L g2;obtain ⟨z,M,_⟩:=kV (xs:=zs) (j:=j) L (by omega);have ht:jr (tab c.b.length λb=>decide (Rt c (λr=>r=i) 0 b)) j=some (decide (Rt c (λr=>r=i) 0 j)):=lf L g2;simp only [N,hj,obS,ht,M];unfold w7
   cases oW c i<;>cases oW c j<;>simp)]
  simp only [obS,Sum.elim_inl]
  rw [ka (by simp;omega)];rfl)]
 rfl
end
end Unt
end Go.Wk
namespace Go.Wk
open Go
namespace Unt
set_option maxRecDepth 10000
theorem ci2 (y:kD):nh y=some (if kb y.op then y.to else -1):=by
 unfold nh;rw [zE,obS];cases kb y.op<;>rfl
theorem ch5 (y:kD):na y=some (if kb y.op then y.to else -1):=by
 unfold na;rw [xd,obS];cases kb y.op<;>rfl
theorem am4 {u:kU} {k:Int} {c:jv} {y:kD} (h:vd u k c y=true) (H:kb y.op=true):0<=y.to/\y.to<c.r:=by
 refine (iok h).to ?_ ?_<;>intro e<;>rw [e] at H<;>simp [kb] at H
def qf (r b:Int):List kA->List kf
 | []=>[]
 | f::l=>if f.to=r then ⟨b,-1⟩::qf r b l else qf r b l
def qK (r b:Int):List kD->Int->List kf
 | [],_=>[]
 | y::l,i=>if kb y.op=true/\y.to=r then ⟨b,i⟩::qK r b l (i+1) else qK r b l (i+1)
def plF (r:Int):List jq->Int->List kf
 | [],_=>[]
 | x::l,b=>qf r b x.a++qK r b x.i 0++plF r l (b+1)
def lN (c:jv) (r:Int):List kf:=plF r c.b 0
section
variable {r b:Int}
theorem aj8 {f : kA} : ∀ {l : List kA}, qf r b (l ++ [f]) = qf r b l ++ if f.to = r then [⟨b, -1⟩] else []
 | []=>by by_cases h:f.to=r<;>simp [qf,h]
 | g::l=>by by_cases h:g.to=r<;>simp [qf,h,aj8 (l:=l)]
theorem xg {y : kD} : ∀ {l : List kD} {i : Int}, qK r b (l ++ [y]) i = qK r b l i ++ if kb y.op = true /\ y.to = r then [⟨b, i + l.length⟩] else []
 | [],i=>by by_cases h:kb y.op=true/\y.to=r<;>simp [qK,h]
 | g::l,i=>by
  have e:i+1+(l.length:Int)=i+((l.length:Int)+1):=by omega
  by_cases h:kb g.op=true/\g.to=r<;>simp [qK,h,xg (l:=l),e]
theorem ba1 {x:jq}:∀ {l:List jq} {i:Int},plF r (l++[x]) i=plF r l i++(qf r (i+l.length) x.a++qK r (i+l.length) x.i 0)
 | [],i=>by simp [plF]
 | g::l,i=>by
  have e:i+1+(l.length:Int)=i+((l.length:Int)+1):=by omega
  simp [plF,ba1 (l:=l),e]
theorem th:∀ {l:List kA},(qf r b l).length<=l.length
 | []=>Nat.le_refl _
 | f::l=>by have:=th (l:=l);unfold qf;split<;>simp<;>omega
theorem xT:∀ {l:List kD} {i:Int},(qK r b l i).length<=l.length
 | [],_=>Nat.le_refl _
 | y::l,i=>by have:=xT (l:=l) (i:=i+1);unfold qK;split<;>simp<;>omega
theorem az9:∀ {l:List jq} {i:Int},(∀ x∈l,x.a.length<=1048576/\x.i.length<=1048576)->(plF r l i).length<=l.length*2097152
 | [],_,_=>Nat.zero_le _
 | x::l,i,h=>by
  have:=az9 (l:=l) (i:=i+1) λy e=>h y (by simp [e])
  have L:=h x (by simp);have H:=th (r:=r) (b:=i) (l:=x.a);have K:=xT (r:=r) (b:=i) (l:=x.i) (i:=0);simp only [plF,List.length_append,List.length_cons];omega
end
def pe (p:kf):List Int:=[p.block,p.i]
section
variable {u:kU} {k:Int} {c:jv} (hck:COk u k c) (hsm:∀ x∈c.b,x.a.length<=1048576/\x.i.length<=1048576)
include hck hsm
theorem ae1:p7 c=some (tab c.r.toNat (lN c)):=by
 have hr:=hck.r;have hnb:=hck.nb;unfold p7;rw [nW hr.1 (by omega),obS]
 rcases lB (xs:=c.b) (body:=(λ(uJ:Int) (uW:(List (List kf)))=>((jr c.b uJ).bind λuI=>(kO (S:=(List (List kf))) (X:=Empty) (λuL W=>(jr uI.a uL).bind λuG=>((jr W uG.to).bind λuN=>(k8 uN ([(⟨uJ,-1⟩:kf)]:List kf)).bind λuO=>some (W.set (uG.to).toNat uO):Option ((List (List kf)))).bind λuP=>some (.inl uP)) (((uI.a.length:Int):Int) - 0).toNat 0 uW).bind (Sum.elim (λuX=>(kO (S:=(List (List kf))) (X:=Empty) (λuH L=>((jr uI.i uH).bind λuQ=>(nh uQ).bind λM=>(if decide (0<=M) then (jr L M).bind λuR=>(k8 uR ([(⟨uJ,uH⟩:kf)]:List kf)).bind λuS=>some (L.set (M).toNat uS) else some L:Option ((List (List kf)))).bind λuU=>some uU:Option ((List (List kf)))).bind λuV=>some (.inl uV)) (((uI.i.length:Int):Int) - 0).toNat 0 uX).bind (Sum.elim (λuY=>some (.inl uY)) (λ(e0:Empty)=>nomatch e0))) (λ(e0:Empty)=>nomatch e0)):Option (((List (List kf))) ⊕ (Empty))))) (s:=List.replicate c.r.toNat []) (λpre s=>s=tab c.r.toNat λr=>plF r pre 0) (λ_=>False) wQ (λpre x _ s he hI=>by
  subst hI;left;have hx:jr c.b (pre.length:Int)=some x:=by rw [he];exact kK
  have a4:=hsm x (by rw [he];simp);have hb:=hck.bok hx;have a1:pre.length<=160:=by have:=congrArg List.length he;simp at this;omega
  have K:∀ r:Int,(plF r pre 0).length<=160*2097152:=λr=>Nat.le_trans (az9 λy hy=>hsm y (by rw [he];simp [hy])) (Nat.mul_le_mul_right _ a1)
  rcases lB (xs:=x.a) (body:=(λ(uL:Int) (W:(List (List kf)))=>((jr x.a uL).bind λuG=>((jr W uG.to).bind λuN=>(k8 uN ([(⟨(pre.length:Int),-1⟩:kf)]:List kf)).bind λuO=>some (W.set (uG.to).toNat uO):Option ((List (List kf)))).bind λuP=>some (.inl uP):Option (((List (List kf))) ⊕ (Empty))))) (s:=tab c.r.toNat λr=>plF r pre 0) (λp2 s=>s=tab c.r.toNat λr=>plF r pre 0++qf r (pre.length:Int) p2) (λ_=>False) (by simp [qf]) (λp2 f q2 s H N=>by
   subst N;left;have hf:jr x.a (p2.length:Int)=some f:=by rw [H];exact kK
   have a0:=(hb.a f (by rw [H];simp)).2.1;have a3:p2.length<=1048576:=by have:=congrArg List.length H;simp at this;omega
   refine ⟨_,?_,rfl⟩;have:=K f.to;have:=th (r:=f.to) (b:=(pre.length:Int)) (l:=p2);rw [hf,obS,lf a0.1 (by omega),obS,ka (by rw [List.length_append,List.length_singleton];omega),obS,qa a0.1,obS]
   congr 2
   refine lE λr _ _=>?_
   rw [aj8];by_cases e:r=f.to
   ·rw [if_pos e,if_pos e.symm,e,List.append_assoc]
   ·rw [if_neg e,if_neg λh=>e h.symm,List.append_nil]) with ⟨s1,e1,e2⟩ | ⟨e,_,h⟩
  rotate_left
  ·exact h.elim
  subst e2
  rcases lB (xs:=x.i) (body:=(λ(uH:Int) (L:(List (List kf)))=>(((jr x.i uH).bind λuQ=>(nh uQ).bind λM=>(if decide (0<=M) then (jr L M).bind λuR=>(k8 uR ([(⟨(pre.length:Int),uH⟩:kf)]:List kf)).bind λuS=>some (L.set (M).toNat uS) else some L:Option ((List (List kf)))).bind λuU=>some uU:Option ((List (List kf)))).bind λuV=>some (.inl uV):Option (((List (List kf))) ⊕ (Empty))))) (s:=tab c.r.toNat λr=>plF r pre 0++qf r (pre.length:Int) x.a) (λp2 s=>s=tab c.r.toNat λr=>plF r pre 0++qf r (pre.length:Int) x.a++qK r (pre.length:Int) p2 0) (λ_=>False) (by simp [qK]) (λp2 y q2 s H N=>by
   subst N;left;have hy:jr x.i (p2.length:Int)=some y:=by rw [H];exact kK
   have a2:=hb.i y (by rw [H];simp);have a3:p2.length<=1048576:=by have:=congrArg List.length H;simp at this;omega
   refine ⟨_,?_,rfl⟩;rw [hy,obS,ci2,obS];cases hm:kb y.op with
   | false =>
    rw [if_neg (by simp)];simp only [obS]
    congr 2
    exact lE λr _ _=>by rw [xg,if_neg (by simp [hm]),List.append_nil]
   | true =>
    have O:=am4 a2 hm;have:=K y.to;have:=th (r:=y.to) (b:=(pre.length:Int)) (l:=x.a);have:=xT (r:=y.to) (b:=(pre.length:Int)) (l:=p2) (i:=0);rw [if_pos rfl,if_pos (by simpa using O.1),lf O.1 (by omega),obS,ka (by rw [List.length_append,List.length_append,List.length_singleton];omega),obS,qa O.1];simp only [obS]
    congr 2
    refine lE λr _ _=>?_
    rw [xg];by_cases e:r=y.to
    ·rw [if_pos e,if_pos ⟨hm,e.symm⟩,e,List.append_assoc _ _ [_],Int.zero_add]
    ·rw [if_neg e,if_neg λh=>e h.2.symm,List.append_nil]) with ⟨s1,e3,e4⟩ | ⟨e,_,h⟩
  rotate_left
  ·exact h.elim
  subst e4;refine ⟨_,?_,rfl⟩;rw [hx,obS];refine kN e1 (kN e3 ?_);show some (Sum.inl _)=_
  congr 2
  exact lE λr _ _=>by rw [ba1,List.append_assoc,Int.zero_add]) with ⟨s,e1,e2⟩ | ⟨e,_,h⟩
 ·subst e2;exact kN e1 rfl
 ·exact h.elim
theorem bv2:qT c=some (tab c.r.toNat λr=>(lN c r).map pe):=by
 have hr:=hck.r;have hnb:=hck.nb;unfold qT;rw [nW hr.1 (by omega),obS]
 rcases lB (xs:=c.b) (body:=(λ(uJ:Int) (uU:(List (List (List Int))))=>(((kx (S:=(List (List (List Int))) × Int) (X:=(List (List (List Int)))) (λM=>(jr c.b uJ).bind λuG=>if decide (M.2<((uG.a.length:Int))) then (jr uG.a M.2).bind λuH=>(jr M.1 uH.to).bind λuL=>(k8 uL ([([uJ,-1]:List Int)]:List (List Int))).bind λuN=>some (.inl ((M.1.set (uH.to).toNat uN),w64 (M.2+1))) else some (.inr M.1)) (uU,0)).bind (λe0=>some e0):Option ((List (List (List Int))))).bind λuV=>((kx (S:=(List (List (List Int))) × Int) (X:=(List (List (List Int)))) (λH=>(jr c.b uJ).bind λuI=>if decide (H.2<((uI.i.length:Int))) then ((jr uI.i H.2).bind λuO=>(na uO).bind λO=>(if decide (0<=O) then (jr H.1 O).bind λuP=>(k8 uP ([([uJ,H.2]:List Int)]:List (List Int))).bind λuQ=>some (H.1.set (O).toNat uQ) else some H.1:Option ((List (List (List Int))))).bind λuR=>some uR:Option ((List (List (List Int))))).bind λuS=>some (.inl (uS,w64 (H.2+1))) else some (.inr H.1)) (uV,0)).bind (λe0=>some e0):Option ((List (List (List Int))))).bind λuW=>some (.inl uW):Option (((List (List (List Int)))) ⊕ (Empty))))) (s:=List.replicate c.r.toNat []) (λpre s=>s=tab c.r.toNat λr=>(plF r pre 0).map pe) (λ_=>False) (by rw [wQ];rfl) (λpre x _ s he hI=>by
  subst hI;left;have hx:jr c.b (pre.length:Int)=some x:=by rw [he];exact kK
  have a4:=hsm x (by rw [he];simp);have hb:=hck.bok hx;have a2:pre.length<=160:=by have:=congrArg List.length he;simp at this;omega
  have N:∀ r:Int,(plF r pre 0).length<=160*2097152:=λr=>Nat.le_trans (az9 λy hy=>hsm y (by rw [he];simp [hy])) (Nat.mul_le_mul_right _ a2)
  obtain ⟨s1,e1,e2⟩:=ad9 (xs:=x.a) (body:=(λ(M:(List (List (List Int))) × Int)=>((jr c.b (pre.length:Int)).bind λuG=>if decide (M.2<((uG.a.length:Int))) then (jr uG.a M.2).bind λuH=>(jr M.1 uH.to).bind λuL=>(k8 uL ([([(pre.length:Int),-1]:List Int)]:List (List Int))).bind λuN=>some (.inl ((M.1.set (uH.to).toNat uN),w64 (M.2+1))) else some (.inr M.1):Option (((List (List (List Int))) × Int) ⊕ ((List (List (List Int)))))))) (s:=(tab c.r.toNat λr=>(plF r pre 0).map pe,0)) (λp2 s=>s=(tab c.r.toNat λr=>(plF r pre 0++qf r (pre.length:Int) p2).map pe,(p2.length:Int))) (λs=>s=tab c.r.toNat λr=>(plF r pre 0++qf r (pre.length:Int) x.a).map pe) (by simp [qf]) (λp2 f q2 s L K=>by
   subst K;left;have hf:jr x.a (p2.length:Int)=some f:=by rw [L];exact kK
   have a1:=(hb.a f (by rw [L];simp)).2.1;have W:p2.length<x.a.length:=by rw [L];simp
   have hw:w64 ((p2.length:Int)+1)=(p2.length:Int)+1:=kv (by omega) (by omega);refine ⟨_,?_,rfl⟩;have:=N f.to;have:=th (r:=f.to) (b:=(pre.length:Int)) (l:=p2);dsimp only;rw [hx,obS,if_pos (by simpa using W),hf,obS,lf a1.1 (by omega),obS,ka (by rw [List.length_map,List.length_append,List.length_singleton];omega),obS,qa a1.1,hw]
   congr 3
   ·refine lE λr _ _=>?_
    rw [aj8];by_cases e:r=f.to
    ·rw [if_pos e,if_pos e.symm,e];simp [pe]
    ·rw [if_neg e,if_neg λh=>e h.symm,List.append_nil]
   ·simp) (λs K=>by
    subst K
    exact ⟨_,by rw [hx,obS,if_neg (by simp)],rfl⟩)
  subst e2
  obtain ⟨s1,e3,e4⟩:=ad9 (xs:=x.i) (body:=(λ(H:(List (List (List Int))) × Int)=>((jr c.b (pre.length:Int)).bind λuI=>if decide (H.2<((uI.i.length:Int))) then ((jr uI.i H.2).bind λuO=>(na uO).bind λO=>(if decide (0<=O) then (jr H.1 O).bind λuP=>(k8 uP ([([(pre.length:Int),H.2]:List Int)]:List (List Int))).bind λuQ=>some (H.1.set (O).toNat uQ) else some H.1:Option ((List (List (List Int))))).bind λuR=>some uR:Option ((List (List (List Int))))).bind λuS=>some (.inl (uS,w64 (H.2+1))) else some (.inr H.1):Option (((List (List (List Int))) × Int) ⊕ ((List (List (List Int)))))))) (s:=(tab c.r.toNat λr=>(plF r pre 0++qf r (pre.length:Int) x.a).map pe,0)) (λp2 s=>s=(tab c.r.toNat λr=>(plF r pre 0++qf r (pre.length:Int) x.a++qK r (pre.length:Int) p2 0).map pe,(p2.length:Int))) (λs=>s=tab c.r.toNat λr=>(plF r pre 0++qf r (pre.length:Int) x.a++qK r (pre.length:Int) x.i 0).map pe) (by simp [qK]) (λp2 y q2 s L K=>by
   subst K;left;have hy:jr x.i (p2.length:Int)=some y:=by rw [L];exact kK
   have a3:=hb.i y (by rw [L];simp);have W:p2.length<x.i.length:=by rw [L];simp
   have hw:w64 ((p2.length:Int)+1)=(p2.length:Int)+1:=kv (by omega) (by omega);refine ⟨_,?_,rfl⟩;dsimp only;rw [hx,obS,if_pos (by simpa using W),hy,obS,ch5,obS,hw];cases hm:kb y.op with
   | false =>
    rw [if_neg (by simp)];simp only [obS]
    congr 3
    ·exact lE λr _ _=>by rw [xg,if_neg (by simp [hm]),List.append_nil]
    ·simp
   | true =>
    have a0:=am4 a3 hm;have:=N y.to;have:=th (r:=y.to) (b:=(pre.length:Int)) (l:=x.a);have:=xT (r:=y.to) (b:=(pre.length:Int)) (l:=p2) (i:=0);rw [if_pos rfl,if_pos (by simpa using a0.1),lf a0.1 (by omega),obS,ka (by rw [List.length_map,List.length_append,List.length_append,List.length_singleton];omega),obS,qa a0.1];simp only [obS]
    congr 3
    ·refine lE λr _ _=>?_
     rw [xg];by_cases e:r=y.to
     ·rw [if_pos e,if_pos ⟨hm,e.symm⟩,e];simp [pe]
     ·rw [if_neg e,if_neg λh=>e h.2.symm,List.append_nil]
    ·simp) (λs K=>by
    subst K
    exact ⟨_,by rw [hx,obS,if_neg (by simp)],rfl⟩)
  subst e4;refine ⟨_,kN (kN e1 rfl) (kN (kN e3 rfl) rfl),?_⟩
  exact lE λr _ _=>by rw [ba1,List.append_assoc,Int.zero_add]) with ⟨s,e1,e2⟩ | ⟨e,_,h⟩
 ·subst e2;exact kN e1 rfl
 ·exact h.elim
end
end Unt
end Go.Wk
namespace Go.Wk
open Go
namespace Unt
set_option maxRecDepth 10000
theorem wy {f:Int->Option Bool} {p:Int->Bool} {xs:List Int} (h:∀ x∈xs,f x=some (p x)):kT xs f=some (xs.any p):=by
 unfold kT lv
 rcases sA (xs := xs) p (fun i => i) (body := (fun (H : Int) (_ : Unit) => ((jr xs H).bind fun K => (f K).bind fun M => if M then some (.inr H) else some (.inl ()) : Option ((Unit) ⊕ (Int))))) (by
   intro a x r e;have L:jr xs (a.length:Int)=some x:=by rw [e,kK]
   simp only [L,obS,h x (by rw [e];simp)]) with ⟨h1,h2⟩ | ⟨a,x,r,h1,h2,h3,h4⟩
 ·rw [h2,h1];rfl
 ·rw [h4,h1];simp [h3]
theorem ag6 {f:jv->Option Bool} {p:jv->Bool} {xs:List jv} (h:∀ x∈xs,f x=some (p x)):lG xs f=some (xs.any p):=by
 unfold lG lg
 rcases sA (xs := xs) p (fun i => i) (body := (fun (H : Int) (_ : Unit) => ((jr xs H).bind fun K => (f K).bind fun M => if M then some (.inr H) else some (.inl ()) : Option ((Unit) ⊕ (Int))))) (by
   intro a x r e;have L:jr xs (a.length:Int)=some x:=by rw [e,kK]
   simp only [L,obS,h x (by rw [e];simp)]) with ⟨h1,h2⟩ | ⟨a,x,r,h1,h2,h3,h4⟩
 ·rw [h2,h1];rfl
 ·rw [h4,h1];simp [h3]
theorem au2 (xs:List Bool) (v:Bool):mN xs v=some (xs.contains v):=by
 unfold mN n9
 rcases sA (xs := xs) (fun x => decide (v = x)) (fun i => i) (body := (fun (e : Int) (_ : Unit) => ((jr xs e).bind fun H => if decide (v = H) then some (.inr e) else some (.inl ()) : Option ((Unit) ⊕ (Int))))) (by
   intro a x r L;have M:jr xs (a.length:Int)=some x:=by rw [L,kK]
   simp only [M,obS]) with ⟨h1,h2⟩ | ⟨a,x,r,h1,h2,h3,h4⟩
 ·rw [h2]
  have:xs.contains v=false:=by
   rw [List.any_eq_false] at h1;simp only [List.contains_eq_mem,decide_eq_false_iff_not];intro K;exact h1 v K (by simp)
  rw [this];rfl
 ·rw [h4]
  have:xs.contains v=true:=by
   have:=of_decide_eq_true h3;subst this;rw [h1];simp
  rw [this];simp
theorem am6 {r b:Int} {p:kf}:∀ {l:List kA},p∈qf r b l->p.block=b
 | [],h=>by simp [qf] at h
 | f::l,h=>by
  unfold qf at h;split at h
  ·rcases List.mem_cons.1 h with e | e
   ·rw [e]
   ·exact am6 e
  ·exact am6 h
theorem aq9 {r b:Int} {p:kf}:∀ {l:List kD} {i:Int},p∈qK r b l i->p.block=b
 | [],_,h=>by simp [qK] at h
 | y::l,i,h=>by
  unfold qK at h;split at h
  ·rcases List.mem_cons.1 h with e | e
   ·rw [e]
   ·exact aq9 e
  ·exact aq9 h
theorem bb0 {r:Int} {p:kf}:∀ {l:List jq} {i:Int},p∈plF r l i->i<=p.block/\p.block<i+l.length
 | [],_,h=>by simp [plF] at h
 | x::l,i,h=>by
  simp only [plF,List.mem_append] at h;rcases h with (h | h) | h
  ·have:=am6 h;simp;omega
  ·have:=aq9 h;simp;omega
  ·have:=bb0 h;simp;omega
noncomputable def sD (c:jv) (r b i:Int):Bool:=if r<c.P then true else match lN c r with
 | []=>false
 | p::_=>if p.block=b then decide (p.i<i) else w7 c p.block b
def pAt (c:jv) (b i:Int):Int:=(jr (kH c b) i).getD 0
def bw7 (c:jv) (b:Int):Int:=match jr c.b b with | some x=>(x.i.length:Int) | none=>0
noncomputable def am7 (c:jv) (b:Int) (f:kA):Bool:=py (λi r=>sD c r (pAt c b i) (bw7 c (pAt c b i))) f.A 0
noncomputable def aw5 (c:jv) (b i:Int) (y:kD):Bool:=y.A.all λr=>sD c r b i
noncomputable def ay0 (c:jv) (b:Int) (x:jq):Bool:=x.a.all (am7 c b)&&(py (aw5 c b) x.i 0&&(decide (x.j=1)||sD c x.on b (x.i.length:Int)))
def bw4 (c:jv) (r:Int) (n:Int):Bool:=!(decide (1<n)||(decide (r<c.P)&&decide (0<n)))
noncomputable def rA (c:jv):Bool:=!(inT c).contains false&&(py (λr l=>bw4 c r (l.length:Int)) (tab c.r.toNat (lN c)) 0&&py (ay0 c) c.b 0)
theorem xE {b x:Int}:∀ {l:List jq} {i:Int},x∈mv b l i->i<=x/\x<i+l.length
 | [],_,h=>by simp [mv] at h
 | y::l,i,h=>by
  unfold mv at h;split at h
  ·rcases List.mem_cons.1 h with e | e
   ·simp;omega
   ·have:=xE e;simp;omega
  ·have:=xE h;simp;omega
section
variable {u:kU} {k:Int} {c:jv} (hck:COk u k c)
include hck
theorem bm8 {r b i:Int} (hall:∀ b,0<=b->b<(c.b.length:Int)->oW c b=true) (h0:0<=r) (h1:r<c.r) (H:0<=b) (M:b<(c.b.length:Int)):l4 r b i c (tab c.r.toNat (lN c)) ⟨c,domT c,inT c⟩=some (sD c r b i):=by
 have hr:=hck.r;unfold l4 sD;by_cases e:r<c.P
 ·rw [if_pos (by simpa using e),if_pos e]
 ·rw [if_neg (by simpa using e), if_neg e, lf h0 (by omega), obS];cases hp:lN c r with
  | nil=>simp
  | cons p l =>
   have L:=bb0 (r:=r) (p:=p) (l:=c.b) (i:=0) (by
    show p∈lN c r
    rw [hp];simp)
   have g0:jr (p::l) 0=some p:=rfl;rw [if_pos (by simp),g0,obS]
   have N:∀ q:Int,0<=q->q<(c.b.length:Int)->mS ⟨c,domT c,inT c⟩ q=some true:=λq W q1=>by
    unfold mS;have:inB q 0 (((inT c).length:Int) - 1)=true:=by rw [lO,inT,mn];omega
    have O:jr (inT c) q=some true:=by unfold inT;rw [lf W q1,hall q W q1]
    simp only [oD,this,obS,if_true,O]
   have K:mj ⟨c,domT c,inT c⟩ p.block b=some (w7 c p.block b):=by
    unfold mj;have O:jr (domT c) p.block=some (tab c.b.length (w7 c p.block)):=by unfold domT;rw [lf L.1 (by omega)]
    simp only [N p.block L.1 (by omega),N b H M,obS,if_true,O,lf H M]
   by_cases e2:p.block=b
   ·by_cases e3:p.i<i<;>simp [e2,e3]
   ·simp [e2,K]
theorem co0 {b:Int} {x:jq} (L:jr c.b b=some x) {f:kA} (H:f∈x.a) {i:Nat} (hi:i<f.A.length):jr (kH c b) (i:Int)=some (pAt c b (i:Int))/\0<=pAt c b (i:Int)/\pAt c b (i:Int)<(c.b.length:Int):=by
 have M:=((hck.bok L).a f H).2.2.1;obtain ⟨q,K,_,e⟩:=kV (xs:=kH c b) (j:=(i:Int)) (by omega) (by omega);have:=xE e;unfold pAt;rw [K];simp only [Option.getD_some];exact ⟨trivial,this.1,by omega⟩
omit hck in
theorem cl0 {b:Int} {x:jq} (e:jr c.b b=some x):bw7 c b=(x.i.length:Int):=by unfold bw7;rw [e]
end
end Unt
end Go.Wk
namespace Go.Wk
open Go
namespace Unt
set_option maxRecDepth 10000
noncomputable def oZ (c:jv):Int × Int × List (List Bool) × List Bool × List (List kf):=(c.P,c.r,domT c,inT c,tab c.r.toNat (lN c))
section
variable {u:kU} {k:Int} {c:jv} (hu:Ok u) (hck:COk u k c) (hsm:∀ x∈c.b,x.a.length<=1048576/\x.i.length<=1048576)
include hck
theorem ye:∀ b x,jr c.b b=some x->∀ n∈x.n,0<=n/\n<(c.b.length:Int):=λb x e n H=>by have:=(hck.bok e).next n H;omega
theorem yc:∀ b x,jr c.b b=some x->x.n.length<=2:=λb x e=>by have:=(hck.bok e).j;omega
theorem yd (hall:∀ b,0<=b->b<(c.b.length:Int)->oW c b=true) {r b i:Int} (h0:0<=r) (K:r<c.r) (e:0<=b) (H:b<(c.b.length:Int)) :
  l4 r b i c (oZ c).2.2.2.2 ⟨⟨(oZ c).1,(oZ c).2.1,c.b⟩,(oZ c).2.2.1,(oZ c).2.2.2.1⟩=some (sD c r b i):=bm8 hck hall h0 K e H
theorem bp5 (hall:∀ b,0<=b->b<(c.b.length:Int)->oW c b=true) {b:Int} {x:jq} (hx:jr c.b b=some x):(λ(uN:Int) (_:Unit)=>((jr c.b uN).bind λO=>(lQ c uN).bind λuS=>(kO (S:=Unit) (X:=Bool) (λuO uU=>(jr O.a uO).bind λuG=>(kO (S:=Unit) (X:=Bool) (λK uR=>(jr uG.A K).bind λuH=>(jr uS K).bind λL=>(jr c.b L).bind λuI=>(l4 uH L (uI.i.length:Int) c (oZ c).2.2.2.2 (⟨(⟨(oZ c).1,(oZ c).2.1,c.b⟩:jv),(oZ c).2.2.1,(oZ c).2.2.2.1⟩:ld)).bind λuJ=>if !(uJ) then some (.inr false) else some (.inl ())) (((uG.A.length:Int):Int) - 0).toNat 0 ()).bind (Sum.elim (λuV=>some (.inl ())) (λM=>some (.inr M)))) (((O.a.length:Int):Int) - 0).toNat 0 ()).bind (Sum.elim (λ_=>(kO (S:=Unit) (X:=Bool) (λuL uW=>(jr O.i uL).bind λuP=>(kT uP.A (λy0=>mY y0 c (oZ c).2.2.2.2 (⟨(⟨(oZ c).1,(oZ c).2.1,c.b⟩:jv),(oZ c).2.2.1,(oZ c).2.2.2.1⟩:ld) uN uL)).bind λuQ=>if uQ then some (.inr false) else some (.inl ())) (((O.i.length:Int):Int) - 0).toNat 0 ()).bind (Sum.elim (λ_=>((nB O.j).bind λuX=>if uX then (l4 O.on uN (O.i.length:Int) c (oZ c).2.2.2.2 (⟨(⟨(oZ c).1,(oZ c).2.1,c.b⟩:jv),(oZ c).2.2.1,(oZ c).2.2.2.1⟩:ld)).bind λuY=>some (!(uY)) else some false:Option (Bool)).bind λuZ=>if uZ then some (.inr false) else some (.inl ())) (λM=>some (.inr M)))) (λM=>some (.inr M))):Option ((Unit) ⊕ (Bool)))) b ()=if ay0 c b x then some (.inl ()) else some (.inr false):=by
 have hnb:=hck.nb;have N:=hck.bok hx;have H:=xL hx;unfold ay0;dsimp only;rw [hx,obS,u0 c b (by omega) (by rw [lO];omega),obS]
 have a5:kO (λ(uO:Int) (uU:Unit)=>((jr x.a uO).bind λuG=>(kO (S:=Unit) (X:=Bool) (λK uR=>(jr uG.A K).bind λuH=>(jr (kH c b) K).bind λL=>(jr c.b L).bind λuI=>(l4 uH L (uI.i.length:Int) c (oZ c).2.2.2.2 (⟨(⟨(oZ c).1,(oZ c).2.1,c.b⟩:jv),(oZ c).2.2.1,(oZ c).2.2.2.1⟩:ld)).bind λuJ=>if !(uJ) then some (.inr false) else some (.inl ())) (((uG.A.length:Int):Int) - 0).toNat 0 ()).bind (Sum.elim (λuV=>some (.inl ())) (λM=>some (.inr M))):Option ((Unit) ⊕ (Bool)))) ((x.a.length:Int) - 0).toNat 0 ()=if x.a.all (am7 c b) then some (.inl ()) else some (.inr false):=by
  refine xZ (xs:=x.a) (am7 c b) false λl f r s he=>?_
  have hf:jr x.a (l.length:Int)=some f:=by rw [he];exact kK
  have a0:f∈x.a:=by rw [he];simp
  have a6:=N.a f a0;rw [hf,obS]
  have a7:kO (λ(K:Int) (uR:Unit)=>((jr f.A K).bind λuH=>(jr (kH c b) K).bind λL=>(jr c.b L).bind λuI=>(l4 uH L (uI.i.length:Int) c (oZ c).2.2.2.2 (⟨(⟨(oZ c).1,(oZ c).2.1,c.b⟩:jv),(oZ c).2.2.1,(oZ c).2.2.2.1⟩:ld)).bind λuJ=>if !(uJ) then some (.inr false) else some (.inl ()):Option ((Unit) ⊕ (Bool)))) ((f.A.length:Int) - 0).toNat 0 ()=if am7 c b f then some (.inl ()) else some (.inr false):=by
   refine vv (xs:=f.A) (λi r=>sD c r (pAt c b i) (bw7 c (pAt c b i))) false λl2 a _ _ W=>?_
   have a4:l2.length<f.A.length:=by rw [W];simp
   obtain ⟨p1,p2,p3⟩:=co0 hck hx a0 a4;have ha:jr f.A (l2.length:Int)=some a:=by rw [W];exact kK
   have e:=a6.2.2.2 a (by rw [W];simp);obtain ⟨z,hz,_⟩:=kV (xs:=c.b) (j:=pAt c b (l2.length:Int)) p2 p3;simp only [p1,obS,ha,hz,yd hck hall e.1 e.2 p2 p3,cl0 hz];cases sD c a (pAt c b (l2.length:Int)) (z.i.length:Int)<;>rfl
  rw [a7];cases am7 c b f<;>rfl
 rw [a5];cases q1:x.a.all (am7 c b) with
 | false=>rfl
 | true =>
  rw [if_pos rfl,obS,Sum.elim_inl]
  have a3:kO (λ(uL:Int) (uW:Unit)=>((jr x.i uL).bind λuP=>(kT uP.A (λy0=>mY y0 c (oZ c).2.2.2.2 (⟨(⟨(oZ c).1,(oZ c).2.1,c.b⟩:jv),(oZ c).2.2.1,(oZ c).2.2.2.1⟩:ld) b uL)).bind λuQ=>if uQ then some (.inr false) else some (.inl ()):Option ((Unit) ⊕ (Bool)))) ((x.i.length:Int) - 0).toNat 0 ()=if py (aw5 c b) x.i 0 then some (.inl ()) else some (.inr false):=by
   refine vv (xs:=x.i) (aw5 c b) false λl y r s he=>?_
   have hy:jr x.i (l.length:Int)=some y:=by rw [he];exact kK
   have a8:y∈x.i:=by rw [he];simp
   have a2:=wy (xs:=y.A) (f:=λy0=>mY y0 c (oZ c).2.2.2.2 ⟨⟨(oZ c).1,(oZ c).2.1,c.b⟩,(oZ c).2.2.1,(oZ c).2.2.2.1⟩ b (l.length:Int)) (p:=λr=>!sD c r b (l.length:Int)) (λa ha=>by
    have e:=(iok (N.i y a8)).A a ha;unfold mY
    rw [yd hck hall e.1 e.2 H.1 H.2];rfl)
   rw [ai2] at a2;rw [hy,obS,a2,obS];unfold aw5;cases y.A.all λr=>sD c r b (l.length:Int)<;>rfl
  rw [a3];cases q2:py (aw5 c b) x.i 0 with
  | false=>rfl
  | true =>
   rw [if_pos rfl,obS,Sum.elim_inl,xo,obS];by_cases ej:x.j=1
   ·simp [ej]
   ·have hj:=N.j;have a1:0<=x.on/\x.on<c.r:=by omega
    rw [if_pos (by simp;omega),yd hck hall a1.1 a1.2 H.1 H.2];cases sD c x.on b (x.i.length:Int)<;>simp [ej]
include hu hsm
omit hu in
theorem bj6:pQ c=some (rA c):=by
 have hnb:=hck.nb;unfold pQ rA;refine kN (a:=oZ c) ?_ ?_
 ·rw [ax4 (ye hck) (yc hck) (by omega) (by omega) (ao7 hck)];simp only [obS];rw [ae1 hck hsm];rfl
 ·rw [au2,obS];show (if (inT c).contains false=true then _ else _)=_;cases hc:(inT c).contains false with
  | true=>rfl
  | false =>
   simp only [Bool.false_eq_true,if_false,Bool.not_false,Bool.true_and]
   have hall:∀ b,0<=b->b<(c.b.length:Int)->oW c b=true:=λb h0 h1=>by
    cases hb:oW c b with
    | true=>rfl
    | false =>
     have W:false∈inT c:=by
      have:jr (inT c) b=some false:=by unfold inT;rw [lf h0 h1,hb]
      exact List.mem_of_getElem? (jz.1 this).2
     rw [List.contains_eq_mem,decide_eq_true W] at hc;cases hc
   have e:kO (λ(O:Int) (_:Unit)=>((jr (oZ c).2.2.2.2 O).bind λM=>(if decide (1<((M.length:Int))) then some true else if decide (O<c.P) then some (decide (0<((M.length:Int)))) else some false:Option (Bool)).bind λuE=>if uE then some (.inr false) else some (.inl ()):Option ((Unit) ⊕ (Bool)))) ((((tab c.r.toNat (lN c)).length:Int)) - 0).toNat 0 ()=if py (λr (l:List kf)=>bw4 c r (l.length:Int)) (tab c.r.toNat (lN c)) 0 then some (.inl ()) else some (.inr false):=by
    refine vv (xs:=tab c.r.toNat (lN c)) (λr (l:List kf)=>bw4 c r (l.length:Int)) false λl z r s K=>?_
    have hz:jr (oZ c).2.2.2.2 (l.length:Int)=some z:=by
     show jr (tab c.r.toNat (lN c)) _=_;rw [K];exact kK
    rw [hz,obS];unfold bw4;by_cases H:(1:Int)<(z.length:Int)
    ·simp [H]
    ·by_cases L:(l.length:Int)<c.P
     ·by_cases N:(0:Int)<(z.length:Int)
      ·simp only [H,L,N,decide_true,decide_false];rfl
      ·simp only [H,L,N,decide_true,decide_false];rfl
     ·simp [H,L]
   refine Eq.trans (cs1 e) ?_;cases py (λr (l:List kf)=>bw4 c r (l.length:Int)) (tab c.r.toNat (lN c)) 0 with
   | false=>rfl
   | true =>
    simp only [if_true,obS,Sum.elim_inl,Bool.true_and];refine Eq.trans (cs1 (vv (xs:=c.b) (ay0 c) false λl x r s K=>bp5 hck hall (by rw [K];exact kK))) ?_;cases py (ay0 c) c.b 0<;>rfl
end
noncomputable def xx (u:kU):Bool:=tI u&&u.C.all rA
theorem cr2 {α:Type} {xs:List α} {x:α} (h:x∈xs):∃ k:Int,jr xs k=some x:=by
 obtain ⟨n,e⟩:=List.getElem?_of_mem h;exact ⟨(n:Int),jz.2 ⟨by omega,by simpa using e⟩⟩
theorem au7 {u:kU} (hs:av9 u):qp u=some (xx u):=by
 unfold qp xx;rw [zM u hs,obS];cases L:tI u with
 | false=>rfl
 | true =>
  have hu:Ok u:=⟨L,hs⟩
  have:=ag6 (xs:=u.C) (f:=λK=>oP K) (p:=λc=>!rA c) (λc hc=>by
   obtain ⟨k,hk⟩:=cr2 hc;unfold oP
   rw [bj6 (hu.cok hk) λx H=>⟨(hs c hc x H).1,(hs c hc x H).2.1⟩];rfl)
  rw [if_pos rfl,this]
  have e:u.C.any (λc=>!rA c)=!u.C.all rA:=by
   induction u.C with
   | nil=>rfl
   | cons x r M=>simp [M]
  rw [e];simp
end Unt
end Go.Wk
namespace Go.Wk
open Go
namespace Unt
set_option maxRecDepth 10000
open Classical
theorem w4:∀ {l l':List Int},l.Nodup->(∀ x∈l,x∈l')->l.length<=l'.length
 | [],l',_,_=>Nat.zero_le _
 | x::l,l',hn,h=>by
  have K:=h x (List.mem_cons_self ..);rw [List.nodup_cons] at hn
  have:=w4 (l:=l) (l':=l'.erase x) hn.2 λy H=>by
   have:y≠x:=λe=>hn.1 (e▸H)
   exact (List.mem_erase_of_ne this).2 (h y (List.mem_cons_of_mem _ H))
  rw [List.length_erase_of_mem K] at this;have:=List.length_pos_of_mem K;simp only [List.length_cons];omega
theorem sG {l:List Int} {n:Nat} (H:l.Nodup) (h:∀ x∈l,0<=x/\x<(n:Int)):l.length<=n:=by
 have:=w4 (l':=(List.range n).map λ(i:Nat)=>(i:Int)) H λx e=>by
  have:=h x e;exact List.mem_map.2 ⟨x.toNat,List.mem_range.2 (by omega),by omega⟩
 simpa using this
section
variable {c:jv} {av:Int->Prop} {s h a b x:Int}
theorem cz8 (h:Int) (hr:Rt c av s x):Rt c (λr=>av r\/r=h) s x\/Rt c av s h:=by
 induction hr with
 | refl H =>
  by_cases e:s=h
  ·subst e;exact .inr (.refl H)
  ·exact .inl (.refl (not_or.2 ⟨H,e⟩))
 | @step r n hr hn H ih =>
  rcases ih with i | i
  ·by_cases e:n=h
   ·subst e;exact .inr (.step hr hn H)
   ·exact .inl (.step i hn (not_or.2 ⟨H,e⟩))
  ·exact .inr i
theorem cu1 (H:a≠b) (hr:Rt c (λ_=>False) s x):Rt c (λr=>r=a\/r=b) s x\/Rt c (λr=>r=b) s a\/Rt c (λr=>r=a) s b:=by
 induction hr with
 | refl L =>
  by_cases e:s=a
  ·subst e;exact .inr (.inl (.refl H))
  ·by_cases K:s=b
   ·subst K;exact .inr (.inr (.refl (Ne.symm H)))
   ·exact .inl (.refl (not_or.2 ⟨e,K⟩))
 | @step r n hr hn L ih =>
  rcases ih with i | i
  ·by_cases e:n=a
   ·subst e;exact .inr (.inl (.step (i.mono λr h=>.inr h) hn H))
   ·by_cases K:n=b
    ·subst K;exact .inr (.inr (.step (i.mono λr h=>.inl h) hn (Ne.symm H)))
    ·exact .inl (.step i hn (not_or.2 ⟨e,K⟩))
  ·exact .inr i
def D (c:jv) (a b:Int):Prop:=¬ Rt c (λr=>r=a) 0 b
theorem D.refl (b:Int):D c b b:=λh=>h.end_ rfl
theorem D.trans (H:D c a h) (K:D c h b):D c a b:=λhr=>by
 rcases cz8 h hr with i | i
 ·exact K (i.mono λr e=>.inr e)
 ·exact H i
theorem D.anti (hr:Rt c (λ_=>False) 0 b) (K:D c a b) (L:D c b a):a=b:=Classical.byContradiction λH=>by
 rcases cu1 H hr with i | i | i
 ·exact K (i.mono λr e=>.inl e)
 ·exact L i
 ·exact K i
theorem bi3 (e:oW c a=true) (H:oW c b=true):w7 c a b=true↔D c a b:=by
 unfold w7 D;rw [e,H];simp
noncomputable def dep (c:jv) (b:Int):Nat:=((List.range c.b.length).filter λ(a:Nat)=>decide (D c (a:Int) b)).length
theorem ax9 {α:Type} {p q:α->Bool} {y:α}:∀ {l:List α},(∀ x∈l,p x=true->q x=true)->y∈l->q y=true->p y=false->(l.filter p).length<(l.filter q).length
 | [],_,hy,_,_=>by simp at hy
 | z::l,h,hy,hq,hp=>by
  have M:∀ {l:List α},(∀ x∈l,p x=true->q x=true)->(l.filter p).length<=(l.filter q).length:=by
   intro l
   induction l with
   | nil=>intro _;exact Nat.le_refl _
   | cons z l N =>
    intro h;have hi:=N λx L=>h x (by simp [L])
    cases H:p z with
    | true=>rw [List.filter_cons_of_pos H,List.filter_cons_of_pos (h z (by simp) H)];simp;exact hi
    | false =>
     rw [List.filter_cons_of_neg (by simp [H])];cases K:q z with
     | true=>rw [List.filter_cons_of_pos K];simp;omega
     | false=>rw [List.filter_cons_of_neg (by simp [K])];exact hi
  rcases List.mem_cons.1 hy with e | e
  ·subst e;have:=M (l:=l) λx L=>h x (List.mem_cons_of_mem _ L)
   rw [List.filter_cons_of_neg (by simp [hp]),List.filter_cons_of_pos hq];simp;omega
  ·have hi := ax9 (l := l) (fun x L => h x (by simp [L])) e hq hp;cases H:p z with
   | true=>rw [List.filter_cons_of_pos H,List.filter_cons_of_pos (h z (by simp) H)];simp;exact hi
   | false =>
    rw [List.filter_cons_of_neg (by simp [H])];cases K:q z with
    | true=>rw [List.filter_cons_of_pos K];simp;omega
    | false=>rw [List.filter_cons_of_neg (by simp [K])];exact hi
theorem bc1 (b:Int):dep c b<=c.b.length:=by
 unfold dep;refine Nat.le_trans (List.length_filter_le _ _) ?_;simp
theorem cs4 {x y:Int} (h:∀ a,0<=a->a<(c.b.length:Int)->D c a x->D c a y) {a:Int} (h0:0<=a) (L:a<(c.b.length:Int)) (e:D c a y) (H:¬ D c a x):dep c x<dep c y:=by
 unfold dep;refine ax9 (y:=a.toNat) (λz K hp=>?_) (List.mem_range.2 (by omega)) ?_ ?_
 ·have:=List.mem_range.1 K;rw [decide_eq_true_eq] at hp ⊢;exact h _ (by omega) (by omega) hp
 ·rw [decide_eq_true_eq,show ((a.toNat:Nat):Int)=a by omega];exact e
 ·rw [decide_eq_false_iff_not,show ((a.toNat:Nat):Int)=a by omega];exact H
theorem cn0 (hr:Rt c (λ_=>False) 0 b) (h0:0<=b) (K:b<(c.b.length:Int)) (e:a≠b) (H:D c a b):dep c a<dep c b :=
 cs4 (λ_ _ _ h=>h.trans H) h0 K (D.refl b) λh=>e (H.anti hr h)
theorem xS (b:Int):∀ (l:List jq) (i j:Int),j∈mv b l i↔∃ n:Nat,j=i+n/\∃ y,l[n]?=some y/\b∈y.n
 | [],i,j=>by simp [mv]
 | x::r,i,j=>by
  have L:=xS b r (i+1) j
  have key:(∃ n:Nat,j=i+n/\∃ y,(x::r)[n]?=some y/\b∈y.n)↔(j=i/\b∈x.n)\/∃ n:Nat,j=i+1+n/\∃ y,r[n]?=some y/\b∈y.n:=by
   constructor
   ·rintro ⟨n,H,y,e,K⟩;cases n with
    | zero=>simp at e;subst e;exact .inl ⟨by simpa using H,K⟩
    | succ n=>exact .inr ⟨n,by omega,y,by simpa using e,K⟩
   ·rintro (⟨H,e⟩ | ⟨n,H,y,e,K⟩)
    ·exact ⟨0,by simpa using H,x,rfl,e⟩
    ·exact ⟨n+1,by omega,y,by simpa using e,K⟩
  rw [key,<- L];simp only [mv];by_cases h:b∈x.n
  ·rw [if_pos h,List.mem_cons];simp [h]
  ·rw [if_neg h];simp [h]
theorem ad4 {c:jv} {b j:Int}:j∈kH c b↔∃ y,jr c.b j=some y/\b∈y.n:=by
 unfold kH;rw [xS];constructor
 ·rintro ⟨n,H,y,e,K⟩;exact ⟨y,jz.2 ⟨by omega,by rw [show j.toNat=n by omega];exact e⟩,K⟩
 ·rintro ⟨y,H,e⟩;obtain ⟨a,b⟩:=jz.1 H;exact ⟨j.toNat,by omega,y,b,e⟩
theorem zp (b:Int):∀ (l:List jq) (i:Int),(mv b l i).Pairwise (·<·)
 | [],i=>by simp [mv]
 | x::r,i=>by
  have e:=zp b r (i+1);simp only [mv];split
  ·refine List.pairwise_cons.2 ⟨λj H=>?_,e⟩;obtain ⟨n,_,_⟩:=(xS b r (i+1) j).1 H;omega
  ·exact e
theorem zV (b:Int):∀ {l1 l2:List jq} (i:Int),l1.map (·.n)=l2.map (·.n)->mv b l1 i=mv b l2 i
 | [],[],_,_=>rfl
 | [],_::_,_,h=>by simp at h
 | _::_,[],_,h=>by simp at h
 | x::r,y::s,i,h=>by
  simp only [List.map_cons,List.cons.injEq] at h;simp only [mv,h.1,zV b (i+1) h.2]
inductive Bd (c:jv) (h:Int):Int->Prop
 | tail {p:Int}:p∈kH c h->D c h p->Bd c h p
 | step {b p:Int}:Bd c h b->b≠h->p∈kH c b->Bd c h p
theorem bu0 {p:Int} (hp:p∈kH c b):b∈nk c p:=by
 obtain ⟨y,e,H⟩:=ad4.1 hp;rw [nZ e];exact H
theorem zz {p:Int} (hp:b∈nk c p):p∈kH c b:=by
 unfold nk at hp;split at hp
 ·rename_i y e;exact ad4.2 ⟨y,e,hp⟩
 ·simp at hp
end
end Unt
end Go.Wk
namespace Go.Wk
open Go
namespace Unt
set_option maxRecDepth 10000
theorem xm {l:List Int} {n:Int} (hs:l.Pairwise (·<·)) (hl:l.length<=1048576):∃ l',lZ l n=some l'/\l'.Pairwise (·<·)/\(∀ x,x∈l'↔x=n\/x∈l)/\l'.length<=l.length+1:=by
 unfold lZ
 obtain ⟨q,e1,e2,e3,e4,e5⟩:=lp (b1:=(λ(uC:Int)=>((if decide (uC<((l.length:Int))) then (jr l uC).bind λuD=>some (decide (uD<n)) else some false:Option (Bool)).bind λuE=>if uE then some (.inl (w64 (uC+1))) else some (.inr uC):Option ((Int) ⊕ (Int))))) (λi:Int=>0<=i/\i<=(l.length:Int)/\∀ (k:Nat) (x:Int),(k:Int)<i->l[k]?=some x->x<n) (λi:Int=>0<=i/\i<=(l.length:Int)/\(∀ (k:Nat) (x:Int),(k:Int)<i->l[k]?=some x->x<n)/\∀ x,l[i.toNat]?=some x->n<=x) (λi=>((l.length:Int) - i).toNat) (λi hi=>by
  obtain ⟨h1,h2,h3⟩:=hi;by_cases e:i<(l.length:Int)
  ·obtain ⟨x,M,K,_⟩:=kV (xs:=l) (j:=i) h1 e;by_cases e2:x<n
   ·left;have hw:w64 (i+1)=i+1:=kv (by omega) (by omega);refine ⟨i+1,?_,⟨by omega,by omega,λk y hk H=>?_⟩,by omega⟩
    ·rw [if_pos (by simpa using e),M,obS,obS,if_pos (by simpa using e2),hw]
    ·by_cases q:(k:Int)<i
     ·exact h3 k y q H
     ·have : k = i.toNat := by omega
      subst this;rw [K] at H;cases H;exact e2
   ·right;refine ⟨i,?_,h1,h2,h3,λy H=>?_⟩
    ·rw [if_pos (by simpa using e),M,obS,obS,if_neg (by simpa using e2)]
    ·rw [K] at H;cases H;omega
  ·right;refine ⟨i,by rw [if_neg (by simpa using e)];rfl,h1,h2,h3,λy H=>?_⟩;have:=(lgE.1 H).1
   omega) (l.length+1) 0 ⟨Int.le_refl _,by omega,λk x hk=>by omega⟩ (by omega)
 have a0:=List.pairwise_iff_getElem.1 hs
 have O:(∀ x,l[q.toNat]?=some x->x≠n)->(l.take q.toNat++[n]++l.drop q.toNat).Pairwise (·<·):=λa1=>by
  have h1:∀ x∈l.take q.toNat,x<n:=λx M=>by
   obtain ⟨k,hk,L⟩:=List.getElem_of_mem M;rw [List.length_take] at hk;exact e4 k x (by omega) (by rw [<- L,List.getElem_take,List.getElem?_eq_getElem])
  have h2:∀ x∈l.drop q.toNat,n<x:=λx M=>by
   obtain ⟨k,hk,L⟩:=List.getElem_of_mem M;rw [List.length_drop] at hk;rw [List.getElem_drop] at L;have h0:=e5 (l[q.toNat]'(by omega)) (List.getElem?_eq_getElem _);have a3:=a1 (l[q.toNat]'(by omega)) (List.getElem?_eq_getElem _);by_cases k0:k=0
   ·subst k0;have:l[q.toNat]'(by omega)=x:=by rw [<- L];congr 1
    omega
   ·have := a0 q.toNat (q.toNat + k) (by omega) (by omega) (by omega);omega
  rw [List.append_assoc];refine List.pairwise_append.2 ⟨hs.sublist (List.take_sublist _ _),List.pairwise_cons.2 ⟨h2,hs.sublist (List.drop_sublist _ _)⟩,λa ha b hb=>?_⟩;rcases List.mem_cons.1 hb with e | e
  ·rw [e];exact h1 a ha
  ·have:=h1 a ha;have:=h2 b e;omega
 have W:∀ x,x∈l.take q.toNat++[n]++l.drop q.toNat↔x=n\/x∈l:=λx=>by
  have:x∈l↔x∈l.take q.toNat\/x∈l.drop q.toNat:=by rw [<- List.mem_append,List.take_append_drop]
  rw [this];simp only [List.mem_append,List.mem_singleton];constructor
  ·rintro ((h | h) | h)
   ·exact .inr (.inl h)
   ·exact .inl h
   ·exact .inr (.inr h)
  ·rintro (h | h | h)
   ·exact .inl (.inr h)
   ·exact .inl (.inl h)
   ·exact .inr h
 have N:(∃ l',(tl l 0 q).bind (λuG=>(k8 ([]:List Int) uG).bind λuH=>(tl l q (l.length:Int)).bind λuI=>(k8 uH ([n]:List Int)).bind λuJ=>(k8 uJ uI).bind λuL=>some uL)=some l'/\l'=l.take q.toNat++[n]++l.drop q.toNat):=by
  rw [show tl l 0 q=some (l.take q.toNat) from oN.2 ⟨⟨Int.le_refl _,e2,e3⟩,by simp⟩,obS,ka (by simp;omega),obS,show tl l q (l.length:Int)=some (l.drop q.toNat) from oN.2 ⟨⟨e2,e3,Int.le_refl _⟩,by simp⟩,obS,List.nil_append,ka (by simp;omega),obS,ka (by simp;omega)];exact ⟨_,rfl,rfl⟩
 by_cases e:q<(l.length:Int)
 ·obtain ⟨x,M,K,a2⟩:=kV (xs:=l) (j:=q) e2 e;by_cases ex:x=n
  ·refine ⟨l, kN (a := q) (kN e1 rfl) ?_, hs, fun y => ?_, by omega⟩
   ·rw [if_pos (by simpa using e),M,obS,obS,if_pos (by simpa using ex)]
   ·subst ex;exact ⟨.inr,λh=>h.elim (λh=>h▸a2) id⟩
  ·obtain ⟨l',g1,g2⟩:=N;refine ⟨l',kN (a:=q) (kN e1 rfl) ?_,by rw [g2];exact O (λy H=>by rw [K] at H;cases H;exact ex),by rw [g2];exact W,by rw [g2];simp;omega⟩;rw [if_pos (by simpa using e),M,obS,obS,if_neg (by simpa using ex)];exact g1
 ·obtain ⟨l',g1,g2⟩:=N;refine ⟨l',kN (a:=q) (kN e1 rfl) ?_,by rw [g2];exact O (λy H=>by have:=(lgE.1 H).1;omega),by rw [g2];exact W,by rw [g2];simp;omega⟩;rw [if_neg (by simpa using e)];exact g1
end Unt
end Go.Wk
namespace Go.Wk
open Go
namespace Unt
set_option maxRecDepth 10000
open Classical
theorem cx6 (xs:List Int) (v:Int):∃ i,lj xs v=some i/\(0<=i↔v∈xs):=by
 unfold lj
 rcases sA (X:=Int) (xs:=xs) (body:=(λ(H:Int) (_:Unit)=>((jr xs H).bind λK=>if decide (K=v) then some (.inr H) else some (.inl ()):Option ((Unit) ⊕ (Int))))) (λx=>decide (x=v)) (λi=>i) (λl x r e=>by
  rw [e,kK,obS]) with ⟨h1,h2⟩ | ⟨l,x,r,e,h1,h2,h3⟩
 ·refine ⟨-1,kN h2 rfl,?_⟩;constructor
  ·intro h;omega
  ·intro h;rw [List.any_eq_false] at h1;have:=h1 v h;simp at this
 ·refine ⟨(l.length : Int), kN h3 rfl, fun _ => ?_, fun _ => by omega⟩;have:x=v:=by simpa using h2
  rw [e,<- this];simp
theorem u6:∀ {xs ys:List Int},xs.Pairwise (·<·)->ys.Pairwise (·<·)->(∀ r,r∈xs↔r∈ys)->xs=ys
 | [],[],_,_,_=>rfl
 | [],y::ys,_,_,h=>by have:=(h y).2 (List.mem_cons_self ..);simp at this
 | x::xs,[],_,_,h=>by have:=(h x).1 (List.mem_cons_self ..);simp at this
 | x::xs,y::ys,hx,hy,h=>by
  rw [List.pairwise_cons] at hx hy
  have H:x=y:=by
   rcases List.mem_cons.1 ((h x).1 (List.mem_cons_self ..)) with e | e
   ·exact e
   ·rcases List.mem_cons.1 ((h y).2 (List.mem_cons_self ..)) with K | K
    ·exact K.symm
    ·have:=hy.1 x e;have:=hx.1 y K;omega
  subst H;rw [u6 hx.2 hy.2 λr=>?_];constructor
  ·intro hr;rcases List.mem_cons.1 ((h r).1 (List.mem_cons_of_mem _ hr)) with e | e
   ·have:=hx.1 r hr;omega
   ·exact e
  ·intro hr;rcases List.mem_cons.1 ((h r).2 (List.mem_cons_of_mem _ hr)) with e | e
   ·have:=hy.1 r hr;omega
   ·exact e
theorem wY {l:List Int} (h:l.Pairwise (·<·)):l.Nodup:=h.imp λh=>by omega
theorem bf6 {w:Int} {e:List Int}:tl (w::e) 1 (((w::e).length:Int))=some e:=by
 unfold tl;rw [if_pos ⟨by omega,by simp;omega,by omega⟩]
 congr 1
 show ((w::e).take (w::e).length).drop 1=e;rw [List.take_length];rfl
section
variable {c:jv} (hnb:c.b.length<=160) (hall:∀ b:Int,0<=b->b<(c.b.length:Int)->oW c b=true)
theorem te {b p:Int} (hp:p∈kH c b):0<=p/\p<(c.b.length:Int):=by
 obtain ⟨y,e,_⟩:=ad4.1 hp;exact xL e
include hall
theorem tA {a b:Int} (L:0<=a) (K:a<(c.b.length:Int)) (H:0<=b) (b1:b<(c.b.length:Int)):∃ e v,jr (domT c) a=some e/\jr e b=some v/\(v=true↔D c a b):=by
 refine ⟨tab c.b.length (w7 c a),w7 c a b,?_,lf H b1,bi3 (hall a L K) (hall b H b1)⟩;unfold domT;rw [lf L K]
include hnb
omit hnb hall in
theorem ov {β:Type} {m:jw β} {k r:Int} {v:β}:r∈(m.i k v).keys↔r=k\/r∈m.keys:=by
 unfold jw.keys;rw [((m.ins_perm k v).map (·.1)).mem_iff.symm,List.map_cons,List.mem_cons];simp only [List.mem_map,List.mem_filter,decide_eq_true_eq];constructor
 ·rintro (h | ⟨a,⟨K,_⟩,H⟩)
  ·exact .inl h
  ·exact .inr ⟨a,K,H⟩
 ·rintro (h | ⟨a,K,H⟩)
  ·exact .inl h
  ·by_cases e:r=k
   ·exact .inl e
   ·exact .inr ⟨a,⟨K,by rw [H];exact e⟩,H⟩
structure KM (c:jv) (m:jw Bool):Prop where
 rng:∀ k∈m.keys,0<=k/\k<(c.b.length:Int)
 val:∀ k,(m.get k).getD false=true↔k∈m.keys
omit hnb hall in
theorem KM.i {m:jw Bool} (h:KM c m) {b:Int} (H:0<=b) (b1:b<(c.b.length:Int)):KM c (m.i b true):=by
 refine ⟨λk hk=>?_,λk=>?_⟩
 ·rcases ov.1 hk with e | e
  ·rw [e];exact ⟨H,b1⟩
  ·exact h.rng k e
 ·rw [qD,ov];by_cases e:k=b
  ·rw [if_pos e];simp [e]
  ·rw [if_neg e,h.val];simp [e]
omit hnb hall in
theorem KM.len {m:jw Bool} (h:KM c m):m.keys.length<=c.b.length:=sG m.nodup h.rng
omit hall in
theorem ct1 (b:Int) (e:0<=b) (b1:b<(c.b.length:Int)):lQ c b=some (kH c b):=u0 c b (by omega) (by rw [lO];omega)
end
end Unt
end Go.Wk
namespace Go.Wk
open Go
namespace Unt
set_option maxRecDepth 10000
open Classical
noncomputable def rD (c:jv) (b e a:Int):Int:=if a≠b/\D c a b/\(e<0\/D c e a) then a else e
noncomputable def idN (c:jv) (b:Int):Nat->Int
 | 0=>-1
 | k+1=>rD c b (idN c b k) (k:Int)
noncomputable def idf (c:jv) (b:Int):Int:=idN c b c.b.length
noncomputable def ma (c:jv) (b:Int):Nat->List Int
 | 0=>[]
 | k+1=>if idf c (k:Int)=b then ma c b k++[(k:Int)] else ma c b k
theorem vc (c:jv) (b:Int):∀ k,idN c b k=-1\/(0<=idN c b k/\idN c b k<(k:Int)/\idN c b k≠b/\D c (idN c b k) b)
 | 0=>.inl rfl
 | k+1=>by
  have H:=vc c b k;unfold idN rD;by_cases e:(k:Int)≠b/\D c (k:Int) b/\(idN c b k<0\/D c (idN c b k) (k:Int))
  ·rw [if_pos e];exact .inr ⟨by omega,by omega,e.1,e.2.1⟩
  ·rw [if_neg e];rcases H with h | ⟨K,_,L⟩
   ·exact .inl h
   ·exact .inr ⟨K,by omega,L⟩
theorem ou (c:jv) (b x:Int):∀ k:Nat,x∈ma c b k↔(0<=x/\x<(k:Int))/\idf c x=b
 | 0=>by
  unfold ma;constructor
  ·intro h;simp at h
  ·rintro ⟨⟨K,L⟩,_⟩;omega
 | k+1=>by
  have M:=ou c b x k;unfold ma;by_cases e:idf c (k:Int)=b
  ·rw [if_pos e,List.mem_append,M,List.mem_singleton];constructor
   ·rintro (⟨⟨K,L⟩,H⟩ | h)
    ·exact ⟨⟨K,by omega⟩,H⟩
    ·rw [h];exact ⟨⟨by omega,by omega⟩,e⟩
   ·rintro ⟨⟨K,L⟩,H⟩;by_cases q:x=(k:Int)
    ·exact .inr q
    ·exact .inl ⟨⟨K,by omega⟩,H⟩
  ·rw [if_neg e,M];constructor
   ·rintro ⟨⟨K,L⟩,H⟩;exact ⟨⟨K,by omega⟩,H⟩
   ·rintro ⟨⟨K,L⟩,H⟩;by_cases q:x=(k:Int)
    ·rw [q] at H;exact absurd H e
    ·exact ⟨⟨K,by omega⟩,H⟩
theorem ui (c:jv) (b:Int):∀ k:Nat,(ma c b k).Nodup
 | 0=>List.nodup_nil
 | k+1=>by
  have H:=ui c b k;unfold ma;by_cases e:idf c (k:Int)=b
  ·rw [if_pos e,List.nodup_append];refine ⟨H,by simp,λx M y K L=>?_⟩;rw [List.mem_singleton.1 K] at L;have:=((ou c b x k).1 M).1;omega
  ·rw [if_neg e];exact H
theorem ad2 (c:jv) (b:Int):∀ k:Nat,(ma c b k).length<=k
 | 0=>Nat.le_refl _
 | k+1=>by
  have e:=ad2 c b k;unfold ma;split
  ·simp;exact e
  ·omega
inductive Sub (c:jv) (b:Int):Int->Prop
 | refl:Sub c b b
 | down {p x:Int}:Sub c b p->idf c x=p->0<=x->x<(c.b.length:Int)->Sub c b x
section
variable {c:jv} (hnb:c.b.length<=160) (hall:∀ b:Int,0<=b->b<(c.b.length:Int)->oW c b=true)
include hall
theorem reach {b:Int} (e:0<=b) (b1:b<(c.b.length:Int)):Rt c (λ_=>False) 0 b:=by
 have:=hall b e b1;unfold oW at this;exact of_decide_eq_true this
theorem re {x p:Int} (x0:0<=x) (x1:x<(c.b.length:Int)) (hp:idf c x=p) (K:0<=p):dep c p<dep c x:=by
 subst hp;rcases vc c x c.b.length with h | ⟨_,_,H,e⟩
 ·have:idf c x=-1:=h;omega
 ·exact cn0 (reach hall x0 x1) x0 x1 H e
theorem Sub.dep {b x:Int} (H:0<=b) (h:Sub c b x):0<=x/\(x=b\/dep c b<dep c x):=by
 induction h with
 | refl=>exact ⟨H,.inl rfl⟩
 | @down p x _ hp x0 x1 ih =>
  have:=re hall x0 x1 hp ih.1;refine ⟨x0,.inr ?_⟩;rcases ih.2 with e | e
  ·rw [<- e];exact this
  ·omega
omit hall in
theorem Sub.kid {b k x:Int} (hk:idf c k=b) (K:0<=k) (e:k<(c.b.length:Int)) (h:Sub c k x):Sub c b x:=by
 induction h with
 | refl=>exact .down .refl hk K e
 | down _ hp x0 x1 H=>exact .down H hp x0 x1
theorem al8 {b k:Int} (hk:idf c k=b) (H:0<=k) (K:k<(c.b.length:Int)) (L:0<=b):¬ Sub c k b:=λh=>by
 have M:=re hall H K hk L;rcases (h.dep hall H).2 with e | e
 ·rw [e] at M;omega
 ·omega
theorem Sub.disj {b e H x:Int} (L:0<=b) (N:idf c e=b) (O:0<=e) (W:e<(c.b.length:Int)) (M:idf c H=b) (c0:0<=H) (c1:H<(c.b.length:Int)) (K:e≠H) (hx:Sub c e x):¬ Sub c H x:=by
 induction hx with
 | refl =>
  intro h;cases h with
  | refl=>exact K rfl
  | @down p _ hp hq _ _ =>
   rw [N] at hq;subst hq;exact al8 hall M c0 c1 L hp
 | @down p x hs hp x0 x1 ih =>
  intro h;cases h with
  | refl =>
   rw [M] at hp;subst hp;exact al8 hall N O W L hs
  | @down p' _ hs' hp' _ _ =>
   rw [hp] at hp';subst hp';exact ih hs'
include hnb
theorem bp9:qx (domT c)=some (tab c.b.length (idf c)):=by
 have a2:(domT c).length=c.b.length:=mn;unfold qx;rw [a2]
 rw [bm4 (f:=idf c) (λb ys b0 b1 _=>by
  obtain ⟨q,H,K⟩:=oE (body:=(λ(N:Int) (O:Int)=>(((if decide (N≠b) then (jr (domT c) N).bind λuE=>(jr uE b).bind λuG=>if uG then if decide (O<0) then some true else (jr (domT c) O).bind λuH=>(jr uH N).bind λuI=>some uI else some false else some false:Option (Bool)).bind λuJ=>(if uJ then some N else some O:Option (Int)).bind λuL=>some uL:Option (Int)).bind λuN=>some (.inl uN):Option ((Int) ⊕ (Empty))))) (k:=(((c.b.length:Int):Int) - 0).toNat) (i:=0) (s:=-1) (λa e=>e=idN c b a.toNat) rfl (λa e a0 _ hI=>by
   have L:a<(c.b.length:Int):=by omega
   refine ⟨idN c b (a+1).toNat,?_,rfl⟩
   have W:idN c b (a+1).toNat=rD c b e a:=by
    rw [show (a+1).toNat=a.toNat+1 by omega];show rD c b (idN c b a.toNat) ((a.toNat:Nat):Int)=_;rw [<- hI,show ((a.toNat:Nat):Int)=a by omega]
   rw [W];unfold rD;by_cases H:a=b
   ·rw [if_neg (by simpa using H),if_neg (λh=>h.1 H)];rfl
   ·rw [if_pos (by simpa using H)];obtain ⟨_,v,g1,g2,g3⟩:=tA hall a0 L b0 b1;rw [g1,obS,g2,obS];cases v with
    | false =>
     rw [if_neg (by decide),if_neg (λh=>absurd (g3.2 h.2.1) (by decide))];rfl
    | true =>
     rw [if_pos rfl];by_cases K:e<0
     ·rw [if_pos (by simpa using K),if_pos ⟨H,g3.1 rfl,.inl K⟩];rfl
     ·rw [if_neg (by simpa using K)]
      have M:0<=e/\e<(c.b.length:Int):=by
       rcases vc c b a.toNat with h | ⟨h1,h2,_⟩
       ·rw [<- hI] at h;omega
       ·rw [<- hI] at h1 h2;omega
      obtain ⟨_,v2,f1,f2,f3⟩:=tA hall M.1 M.2 a0 L;rw [f1,obS,f2,obS];cases v2 with
      | false =>
       rw [if_neg (λh=>by
        rcases h.2.2 with h | h
        ·exact K h
        ·exact absurd (f3.2 h) (by decide))];rfl
      | true=>rw [if_pos ⟨H,g3.1 rfl,.inr (f3.1 rfl)⟩];rfl)
  refine kN H ?_;rw [Sum.elim_inl,ka (by simp;omega),K];have:((0:Int)+((((c.b.length:Int):Int) - 0).toNat:Int)).toNat=c.b.length:=by omega
  rw [this];rfl)]
 rfl
theorem aw7 {b:Int} (b0:0<=b) (b1:b<(c.b.length:Int)):mU ⟨c,domT c,inT c⟩ b=some (idf c b):=by
 have a4:(domT c).length=c.b.length:=mn;unfold mU ob;dsimp only;rw [a4]
 obtain ⟨q,L,K⟩:=oE (body:=(λ(O:Int) (uD:Int)=>((((jr (⟨c,domT c,inT c⟩:ld).I O).bind λuE=>if uE then ((λy0:Int↦mC y0 b ⟨c,domT c,inT c⟩) O).bind λuG=>if uG then if decide (uD<0) then some true else (jr (⟨c,domT c,inT c⟩:ld).o uD).bind λuH=>(jr uH O).bind λuI=>some uI else some false else some false:Option (Bool)).bind λuJ=>(if uJ then some O else some uD:Option (Int)).bind λuL=>some uL:Option (Int)).bind λuN=>some (.inl uN):Option ((Int) ⊕ (Empty))))) (k:=(((c.b.length:Int):Int) - 0).toNat) (i:=0) (s:=-1) (λa e=>e=idN c b a.toNat) rfl (λa e W _ hI=>by
   have H:a<(c.b.length:Int):=by omega
   refine ⟨idN c b (a+1).toNat,?_,rfl⟩
   have a2:idN c b (a+1).toNat=rD c b e a:=by
    rw [show (a+1).toNat=a.toNat+1 by omega];show rD c b (idN c b a.toNat) ((a.toNat:Nat):Int)=_;rw [<- hI,show ((a.toNat:Nat):Int)=a by omega]
   have a3:jr (inT c) a=some true:=by unfold inT;rw [lf W H,hall a W H]
   rw [a2];unfold rD;dsimp only;rw [a3,obS,if_pos rfl];by_cases L:a=b
   ·have hh:mC a b ⟨c,domT c,inT c⟩=some false:=by
     unfold mC;rw [if_neg (by simpa using L)];rfl
    have N:¬ (a≠b/\D c a b/\(e<0\/D c e a)):=λh=>h.1 L
    rw [hh,if_neg N];rfl
   ·obtain ⟨_,v,g1,g2,g3⟩:=tA hall W H b0 b1
    have hh:mC a b ⟨c,domT c,inT c⟩=some v:=by
     unfold mC;rw [if_pos (by simpa using L),g1,obS,g2];rfl
    rw [hh,obS];cases v with
    | false =>
     rw [if_neg (by decide),if_neg (λh=>absurd (g3.2 h.2.1) (by decide))];rfl
    | true =>
     rw [if_pos rfl];by_cases K:e<0
     ·rw [if_pos (by simpa using K),if_pos ⟨L,g3.1 rfl,.inl K⟩];rfl
     ·rw [if_neg (by simpa using K)]
      have M:0<=e/\e<(c.b.length:Int):=by
       rcases vc c b a.toNat with h | ⟨h1,h2,_⟩
       ·rw [<- hI] at h;omega
       ·rw [<- hI] at h1 h2;omega
      obtain ⟨_,v2,f1,f2,f3⟩:=tA hall M.1 M.2 W H;rw [f1,obS,f2,obS];cases v2 with
      | false =>
       rw [if_neg (λh=>by
        rcases h.2.2 with h | h
        ·exact K h
        ·exact absurd (f3.2 h) (by decide))];rfl
      | true=>rw [if_pos ⟨L,g3.1 rfl,.inr (f3.1 rfl)⟩];rfl)
 have:((0:Int)+((((c.b.length:Int):Int) - 0).toNat:Int)).toNat=c.b.length:=by omega
 rw [this] at K;refine kN (kN L ?_) rfl;show some q=_;rw [K];rfl
omit hall in
theorem bx4 (b:Int):rT (tab c.b.length (idf c)) b=some (ma c b c.b.length):=by
 unfold rT;rw [mn]
 obtain ⟨q,e1,N⟩:=oE (body:=(λ(O:Int) (L:(List Int))=>(((jr (tab c.b.length (idf c)) O).bind λuE=>(if decide (uE=b) then (k8 L ([O]:List Int)).bind λuG=>some uG else some L:Option ((List Int))).bind λW=>some W:Option ((List Int))).bind λuI=>some (.inl uI):Option (((List Int)) ⊕ (Empty))))) (k:=(((c.b.length:Int):Int) - 0).toNat) (i:=0) (s:=[]) (λk l=>l=ma c b k.toNat) rfl (λk l k0 _ M=>by
  have K:=ad2 c b k.toNat;refine ⟨ma c b (k+1).toNat,?_,rfl⟩
  have H:ma c b (k+1).toNat=if idf c k=b then l++[k] else l:=by
   rw [show (k+1).toNat=k.toNat+1 by omega];show (if idf c ((k.toNat:Nat):Int)=b then ma c b k.toNat++[((k.toNat:Nat):Int)] else ma c b k.toNat)=_;rw [<- M,show ((k.toNat:Nat):Int)=k by omega]
  rw [H,lf k0 (by omega),obS];rw [<- M] at K;by_cases e:idf c k=b
  ·rw [if_pos (by simpa using e),if_pos e,ka (by simp;omega)];rfl
  ·rw [if_neg (by simpa using e),if_neg e];rfl)
 have:((0:Int)+((((c.b.length:Int):Int) - 0).toNat:Int)).toNat=c.b.length:=by omega
 rw [this] at N;refine kN e1 ?_;show some q=_;rw [N]
end
end Unt
end Go.Wk
namespace Go.Wk
open Go
theorem xt:∀ {l l':List Int},l.Nodup->(∀ x∈l,x∈l')->l.length<=l'.length
 | [],l',_,_=>Nat.zero_le _
 | x::l,l',hn,h=>by
  have K:=h x (List.mem_cons_self ..);rw [List.nodup_cons] at hn
  have:=xt (l:=l) (l':=l'.erase x) hn.2 λy H=>by
   have:y≠x:=λe=>hn.1 (e▸H)
   exact (List.mem_erase_of_ne this).2 (h y (List.mem_cons_of_mem _ H))
  rw [List.length_erase_of_mem K] at this;have:=List.length_pos_of_mem K;simp only [List.length_cons];omega
theorem by6 {l l':List Int} (L:l.Nodup) (h:∀ x∈l,x∈l') (M:l'.length<=l.length):∀ x∈l',x∈l:=λx K=>by
 refine Classical.byContradiction λhc=>?_
 have:=xt (l:=x::l) (l':=l') (List.nodup_cons.2 ⟨hc,L⟩) λy H=>by
  rcases List.mem_cons.1 H with e | e
  ·rw [e];exact K
  ·exact h y e
 simp at this;omega
namespace jw
variable {β:Type}
def Has (m:jw β) (r:Int):Prop:=r∈m.keys
theorem has_iff {m:jw β} {r:Int}:m.Has r↔∃ v,(r,v)∈m.es:=by
 unfold Has keys;rw [List.mem_map];constructor
 ·rintro ⟨⟨a,v⟩,h,rfl⟩;exact ⟨v,h⟩
 ·rintro ⟨v,h⟩;exact ⟨_,h,rfl⟩
theorem has_mk0 {r:Int}:¬ (mk0:jw β).Has r:=by simp [Has,keys,mk0]
theorem has_ins {m:jw β} {k r:Int} {v:β}:(m.i k v).Has r↔r=k\/m.Has r:=by
 rw [has_iff,has_iff];constructor
 ·rintro ⟨u,h⟩;have h:=((m.ins_perm k v).mem_iff).2 h;rcases List.mem_cons.1 h with h | h
  ·exact .inl (congrArg Prod.fst h)
  ·exact .inr ⟨u,(List.mem_filter.1 h).1⟩
 ·rintro (rfl | ⟨u,h⟩)
  ·exact ⟨v,((m.ins_perm r v).mem_iff).1 (List.mem_cons_self ..)⟩
  ·by_cases e:r=k
   ·subst e;exact ⟨v,((m.ins_perm r v).mem_iff).1 (List.mem_cons_self ..)⟩
   ·exact ⟨u,((m.ins_perm k v).mem_iff).1 (List.mem_cons_of_mem _ (List.mem_filter.2 ⟨h,by simpa using e⟩))⟩
theorem has_del {m:jw β} {k r:Int}:(m.del k).Has r↔r≠k/\m.Has r:=by
 rw [has_iff,has_iff];constructor
 ·rintro ⟨u,h⟩;have h:=List.mem_filter.1 h;exact ⟨by simpa using h.2,u,h.1⟩
 ·rintro ⟨e,u,h⟩;exact ⟨u,List.mem_filter.2 ⟨h,by simpa using e⟩⟩
theorem keys_sorted (m:jw β):m.keys.Pairwise (·<·):=List.pairwise_map.2 m.so
theorem keys_nodup (m:jw β):m.keys.Nodup:=m.nodup
theorem z6 (m:jw β):m.len=(m.keys.length:Int):=by simp [len,keys]
theorem has_of_len {m m':jw β} (h:∀ r,m.Has r->m'.Has r) (e:m'.len=m.len) {r:Int} (hr:m'.Has r):m.Has r :=
 by6 m.keys_nodup (λx H=>h x H) (by rw [z6,z6] at e;omega) r hr
theorem len_le {m:jw β} {n:Nat} (h:∀ r,m.Has r->0<=r/\r<(n:Int)):m.keys.length<=n:=by
 have:=xt (l':=(List.range n).map λ(i:Nat)=>(i:Int)) m.keys_nodup λx e=>by
  have:=h x e;exact List.mem_map.2 ⟨x.toNat,List.mem_range.2 (by omega),by omega⟩
 simpa using this
theorem len_lt {m m':jw β} (h:∀ r,m.Has r->m'.Has r) (e:m'.len≠m.len):m.keys.length<m'.keys.length:=by
 have:=xt (l':=m'.keys) m.keys_nodup λx H=>h x H
 rw [z6,z6] at e;omega
end jw
namespace Unt
theorem bw3 (es:List (Int × Bool)):∀ (m:jw Bool),∃ m',lM (λ(p:Int × Bool) (xs:jw Bool)=>some (jw.i xs p.1 true)) es m=some m'/\∀ r,m'.Has r↔(r∈es.map (·.1)\/m.Has r):=by
 induction es with
 | nil=>intro m;exact ⟨m,rfl,by simp⟩
 | cons p es H =>
  intro m;obtain ⟨m',e,K⟩:=H (m.i p.1 true);refine ⟨m',by simpa [lM] using e,λr=>?_⟩;rw [K,jw.has_ins,List.map_cons,List.mem_cons];constructor
  ·rintro (h | h | h)
   ·exact .inl (.inr h)
   ·exact .inl (.inl h)
   ·exact .inr h
  ·rintro ((h | h) | h)
   ·exact .inr (.inl h)
   ·exact .inl h
   ·exact .inr (.inr h)
theorem ca0 (l:List Int):∀ (m:jw Bool),∃ m',mZ m l=some m'/\∀ r,m'.Has r↔(r∈l\/m.Has r):=λm=>by
 unfold mZ
 rcases np (body:=(λ(N:Int) (L:(jw Bool))=>((jr l N).bind λW=>some (.inl (jw.i L W true)):Option (((jw Bool)) ⊕ (Empty))))) (k:=(((l.length:Int)) - 0).toNat) (i:=0) (s:=m) (λi m'=>∀ r,m'.Has r↔(r∈l.take i.toNat\/m.Has r)) (λ_=>False) (λr=>by simp) (λj s M K hs=>by
  obtain ⟨x,O,H,_⟩:=kV (xs:=l) M (by omega);refine .inl ⟨s.i x true,by rw [O];rfl,λr=>?_⟩;rw [jw.has_ins,hs,show (j+1).toNat=j.toNat+1 by omega,List.take_add_one,H,List.mem_append];simp only [Option.toList_some,List.mem_singleton];constructor
  ·rintro (h | h | h)
   ·exact .inl (.inr h)
   ·exact .inl (.inl h)
   ·exact .inr h
  ·rintro ((h | h) | h)
   ·exact .inr (.inl h)
   ·exact .inl h
   ·exact .inr (.inr h)) with ⟨s,h,K⟩ | ⟨e,_,h⟩
 ·refine ⟨s,kN h rfl,λr=>?_⟩;rw [K];have:l.take ((0:Int)+((((l.length:Int)) - 0).toNat:Int)).toNat=l:=by rw [List.take_of_length_le];omega
  rw [this]
 ·exact h.elim
end Unt
end Go.Wk
namespace Go.Wk
open Go
namespace Unt
set_option maxRecDepth 10000
open Classical
def DF (c:jv) (b n:Int):Prop:=(∃ p∈kH c n,D c b p)/\(n=b\/¬ D c b n)
noncomputable def frL (c:jv) (b:Int):Nat->List Int
 | 0=>[]
 | k+1=>if DF c b (k:Int) then frL c b k++[(k:Int)] else frL c b k
theorem zL (c:jv) (b x:Int):∀ k:Nat,x∈frL c b k↔(0<=x/\x<(k:Int))/\DF c b x
 | 0=>by
  constructor
  ·intro h;simp [frL] at h
  ·rintro ⟨h,_⟩;omega
 | k+1=>by
  have L:=zL c b x k;unfold frL;by_cases e:DF c b (k:Int)
  ·rw [if_pos e,List.mem_append,L,List.mem_singleton];constructor
   ·rintro (⟨K,H⟩ | h)
    ·exact ⟨by omega,H⟩
    ·subst h;exact ⟨by omega,e⟩
   ·rintro ⟨K,H⟩;by_cases q:x=(k:Int)
    ·exact .inr q
    ·exact .inl ⟨by omega,H⟩
  ·rw [if_neg e,L];constructor
   ·rintro ⟨K,H⟩;exact ⟨by omega,H⟩
   ·rintro ⟨K,H⟩;by_cases q:x=(k:Int)
    ·rw [q] at H;exact absurd H e
    ·exact ⟨by omega,H⟩
theorem bi4 (c:jv) (b:Int):∀ k:Nat,(frL c b k).Pairwise (·<·)
 | 0=>List.Pairwise.nil
 | k+1=>by
  have e:=bi4 c b k;unfold frL;split
  ·rw [List.pairwise_append];refine ⟨e,by simp,λx K y H=>?_⟩;rw [List.mem_singleton.1 H];exact ((zL c b x k).1 K).1.2
  ·exact e
theorem ai9 (c:jv) (b:Int):∀ k:Nat,(frL c b k).length<=k
 | 0=>Nat.le_refl _
 | k+1=>by
  have e:=ai9 c b k;unfold frL;split
  ·simp;exact e
  ·omega
theorem xK {l:List Int} {x:Int} (h:l.Pairwise (·<·)) (H:∀ y∈l,y<x):(l++[x]).Pairwise (·<·):=by
 rw [List.pairwise_append];exact ⟨h,by simp,λy e z K=>by rw [List.mem_singleton.1 K];exact H y e⟩
theorem am9 {f:Int->Option Bool} {p:Int->Bool} {xs:List Int} (h:∀ x∈xs,f x=some (p x)):kT xs f=some (xs.any p):=wy h
section
variable {c:jv} (hnb:c.b.length<=160) (hall:∀ b:Int,0<=b->b<(c.b.length:Int)->oW c b=true)
include hnb hall
theorem cq0 {b:Int} (b0:0<=b) (b1:b<(c.b.length:Int)):my ⟨c,domT c,inT c⟩ b=some (frL c b c.b.length):=by
 have a3:(inT c).length=c.b.length:=mn;unfold my;dsimp only;rw [a3]
 obtain ⟨q,e1,e2⟩:=oE (body:=(λ(W:Int) (uD:(List Int))=>((((jr (⟨c,domT c,inT c⟩:ld).o b).bind λuE=>(jr uE W).bind λuG=>if uG then some (decide (W≠b)) else some false:Option (Bool)).bind λuH=>if uH then some uD else (lQ (⟨c,domT c,inT c⟩:ld).c W).bind λuI=>(kT uI (λy0=>mD y0 (⟨c,domT c,inT c⟩:ld) b)).bind λuJ=>(if uJ then (k8 uD ([W]:List Int)).bind λuL=>some uL else some uD:Option ((List Int))).bind λuN=>some uN:Option ((List Int))).bind λuO=>some (.inl uO):Option (((List Int)) ⊕ (Empty))))) (k:=(((c.b.length:Int):Int) - 0).toNat) (i:=0) (s:=([]:List Int)) (λk l=>l=frL c b k.toNat) rfl (λk l k0 _ hI=>by
  have M:k<(c.b.length:Int):=by omega
  have a0:=ai9 c b k.toNat;rw [<- hI] at a0;obtain ⟨_,v,g1,g2,g3⟩:=tA hall b0 b1 k0 M
  have a4:=am9 (xs:=kH c k) (f:=λy0=>mD y0 ⟨c,domT c,inT c⟩ b) (p:=λp=>decide (D c b p)) (λp hp=>by
   have N:=te (c:=c) hp;obtain ⟨_,v',a1,a2,O⟩:=tA hall b0 b1 N.1 N.2;unfold mD;dsimp only;rw [a1,obS,a2,obS]
   congr 1
   cases v' with
   | true=>exact (decide_eq_true (O.1 rfl)).symm
   | false=>exact (decide_eq_false λh=>by have:=O.2 h;cases this).symm)
  have H:frL c b (k+1).toNat=if DF c b k then l++[k] else l:=by
   rw [show (k+1).toNat=k.toNat+1 by omega];show (if DF c b ((k.toNat:Nat):Int) then frL c b k.toNat++[((k.toNat:Nat):Int)] else frL c b k.toNat)=_;rw [<- hI,show ((k.toNat:Nat):Int)=k by omega]
  refine ⟨_,?_,rfl⟩;rw [H,g1,obS,g2,obS]
  have hs:(if v=true then some (decide (k≠b)) else some false:Option Bool)=some (decide (D c b k/\k≠b)):=by
   cases v with
   | true=>rw [if_pos rfl];congr 1;simp [g3.1 rfl]
   | false=>rw [if_neg (by decide)];congr 1;exact (decide_eq_false λh=>by have:=g3.2 h.1;cases this).symm
  rw [hs,obS];by_cases h:D c b k/\k≠b
  ·have hn:¬ DF c b k:=λK=>by
    rcases K.2 with e | e
    ·exact h.2 e
    ·exact e h.1
   rw [if_pos (decide_eq_true h),if_neg hn];rfl
  ·rw [if_neg (by simpa using h), ct1 hnb k k0 M, obS, a4, obS];by_cases K:∃ p∈kH c k,D c b p
   ·have hd:DF c b k:=⟨K,by
     by_cases e:k=b
     ·exact .inl e
     ·exact .inr λL=>h ⟨L,e⟩⟩
    have ha:(kH c k).any (λp=>decide (D c b p))=true:=by
     rw [List.any_eq_true];obtain ⟨p,hp,L⟩:=K;exact ⟨p,hp,decide_eq_true L⟩
    rw [ha,if_pos rfl,if_pos hd,ka (by simp;omega)];rfl
   ·have hd:¬ DF c b k:=λh3=>K h3.1
    have ha:(kH c k).any (λp=>decide (D c b p))=false:=by
     rw [List.any_eq_false];exact λp hp L=>K ⟨p,hp,of_decide_eq_true L⟩
    rw [ha,if_neg (by decide),if_neg hd];rfl)
 have:((0:Int)+((((c.b.length:Int):Int) - 0).toNat:Int)).toNat=c.b.length:=by omega
 rw [this] at e2;refine kN e1 ?_;show some q=_;rw [e2]
theorem cq9 {s:jv} (hs:∀ b,ku s b=some (kH c b)) {b:Int} (b0:0<=b) (b1:b<(c.b.length:Int)):oC s (domT c) b=some (frL c b c.b.length):=by
 have aA:(domT c).length=c.b.length:=mn;unfold oC;rw [aA]
 obtain ⟨q,e1,e2⟩:=oE (body:=(λ(uP:Int) (uR:(List Int))=>((ku s uP).bind λuQ=>(kO (S:=(List Int)) (X:=Empty) (λuG K=>(((jr (domT c) b).bind λL=>(jr uQ uG).bind λuH=>(jr L uH).bind λuI=>if uI then if decide (uP=b) then some true else (jr L uP).bind λN=>some (!(N)) else some false:Option (Bool)).bind λuJ=>(if uJ then (lZ K uP).bind λuL=>some uL else some K:Option ((List Int))).bind λuN=>some uN:Option ((List Int))).bind λuO=>some (.inl uO)) (((uQ.length:Int):Int) - 0).toNat 0 uR).bind (Sum.elim (λuS=>some (.inl uS)) (λ(e0:Empty)=>nomatch e0)):Option (((List Int)) ⊕ (Empty))))) (k:=(((c.b.length:Int):Int) - 0).toNat) (i:=0) (s:=([]:List Int)) (λk l=>l=frL c b k.toNat) rfl (λk l k0 _ hI=>by
  have a6:k<(c.b.length:Int):=by omega
  have a4:=ai9 c b k.toNat;have H:=bi4 c b k.toNat
  have a0:∀ y∈l,y<k:=λy hy=>by
   rw [hI] at hy;have:=((zL c b y k.toNat).1 hy).1;omega
  rw [<- hI] at a4 H;obtain ⟨aC,v,g1,g2,g3⟩:=tA hall b0 b1 k0 a6;have aD:(kH c k).length<=160:=by have:=pJ c k;omega
  have O:frL c b (k+1).toNat=if DF c b k then l++[k] else l:=by
   rw [show (k+1).toNat=k.toNat+1 by omega];show (if DF c b ((k.toNat:Nat):Int) then frL c b k.toNat++[((k.toNat:Nat):Int)] else frL c b k.toNat)=_;rw [<- hI,show ((k.toNat:Nat):Int)=k by omega]
  have a9:kO (λ(uG:Int) (K:(List Int))=>((((jr (domT c) b).bind λL=>(jr (kH c k) uG).bind λuH=>(jr L uH).bind λuI=>if uI then if decide (k=b) then some true else (jr L k).bind λN=>some (!(N)) else some false:Option (Bool)).bind λuJ=>(if uJ then (lZ K k).bind λuL=>some uL else some K:Option ((List Int))).bind λuN=>some uN:Option ((List Int))).bind λuO=>some (.inl uO):Option (((List Int)) ⊕ (Empty)))) ((((kH c k).length:Int):Int) - 0).toNat 0 l=some (.inl (if DF c b k then l++[k] else l)):=by
   rcases lB (xs:=kH c k) (body:=(λ(uG:Int) (K:(List Int))=>((((jr (domT c) b).bind λL=>(jr (kH c k) uG).bind λuH=>(jr L uH).bind λuI=>if uI then if decide (k=b) then some true else (jr L k).bind λN=>some (!(N)) else some false:Option (Bool)).bind λuJ=>(if uJ then (lZ K k).bind λuL=>some uL else some K:Option ((List Int))).bind λuN=>some uN:Option ((List Int))).bind λuO=>some (.inl uO):Option (((List Int)) ⊕ (Empty))))) (s:=l) (λps z=>z=if ((∃ p∈ps,D c b p)/\(k=b\/¬ D c b k)) then l++[k] else l) (λ_=>False) (by rw [if_neg (by simp)]) (λps p r z he hz=>by
    left;have a8:p∈kH c k:=by rw [he];simp
    have a2:=te (c:=c) a8;obtain ⟨_,v',a1,a7,a3⟩:=tA hall b0 b1 a2.1 a2.2;rw [g1] at a1;cases a1
    have M:(if v'=true then (if decide (k=b)=true then some true else (jr aC k).bind λN=>some (!N)) else some false:Option Bool)=some (decide (D c b p/\(k=b\/¬ D c b k))):=by
     cases v' with
     | false=>rw [if_neg (by decide)];congr 1;exact (decide_eq_false λh=>by have:=a3.2 h.1;cases this).symm
     | true =>
      rw [if_pos rfl];have hD:=a3.1 rfl;by_cases e:k=b
      ·rw [if_pos (decide_eq_true e)];congr 1;exact (decide_eq_true ⟨hD,.inl e⟩).symm
      ·rw [if_neg (by simpa using e), g2, obS]
       congr 1
       cases v with
       | true=>exact (decide_eq_false λh=>(h.2.resolve_left e) (g3.1 rfl)).symm
       | false=>exact (decide_eq_true ⟨hD,.inr λh=>by have:=g3.2 h;cases this⟩).symm
    refine ⟨_,?_,rfl⟩;rw [g1,obS,he,kK,obS,a7,obS,M,obS];by_cases hd:D c b p/\(k=b\/¬ D c b k)
    ·have W : (∃ q ∈ ps ++ [p], D c b q) /\ (k = b \/ ¬ D c b k) := ⟨⟨p, by simp, hd.1⟩, hd.2⟩;rw [if_pos (decide_eq_true hd),if_pos W]
     have aB:z.Pairwise (·<·):=by
      rw [hz];split
      ·exact xK H a0
      ·exact H
     have a5:z.length<=1048576:=by
      rw [hz];split
      ·simp;omega
      ·omega
     obtain ⟨l',i1,i2,i3,_⟩:=xm (l:=z) (n:=k) aB a5
     have:l'=l++[k]:=u6 i2 (xK H a0) λx=>by
      rw [i3,hz];split
      ·simp only [List.mem_append,List.mem_singleton];exact ⟨λh=>h.elim .inr id,.inr⟩
      ·simp [or_comm]
     rw [i1,this];rfl
    ·rw [if_neg (by simpa using hd)]
     have:((∃ q∈ps++[p],D c b q)/\(k=b\/¬ D c b k))↔((∃ q∈ps,D c b q)/\(k=b\/¬ D c b k)):=by
      constructor
      ·rintro ⟨⟨q,h1,h2⟩,h3⟩;rcases List.mem_append.1 h1 with h | h
       ·exact ⟨⟨q,h,h2⟩,h3⟩
       ·rw [List.mem_singleton.1 h] at h2;exact absurd ⟨h2,h3⟩ hd
      ·rintro ⟨⟨q,h1,h2⟩,h3⟩;exact ⟨⟨q,List.mem_append_left _ h1,h2⟩,h3⟩
     simp only [this,<- hz]
     rfl) with ⟨z,f1,f2⟩ | ⟨_,_,hf⟩
   ·rw [f1,f2];by_cases e:DF c b k
    ·rw [if_pos e,if_pos (show (∃ p∈kH c k,D c b p)/\(k=b\/¬ D c b k) from e)]
    ·rw [if_neg e,if_neg (show ¬ ((∃ p∈kH c k,D c b p)/\(k=b\/¬ D c b k)) from e)]
   ·exact hf.elim
  refine ⟨_,?_,rfl⟩;rw [O,hs,obS]
  exact kN a9 rfl)
 have:((0:Int)+((((c.b.length:Int):Int) - 0).toNat:Int)).toNat=c.b.length:=by omega
 rw [this] at e2;refine kN e1 ?_;show some q=_;rw [e2]
def ClP (c:jv) (l:List Int) (P:Int->Prop):Prop:=∀ x,x∈l\/P x->∀ n,0<=n->n<(c.b.length:Int)->DF c x n->P n
structure xb (c:jv) (l F:List Int):Prop where
 so:F.Pairwise (·<·)
 rng:∀ n∈F,0<=n/\n<(c.b.length:Int)
 pred:∀ n∈F,kH c n≠[]
 clo:∀ x,x∈l\/x∈F->∀ n,0<=n->n<(c.b.length:Int)->DF c x n->n∈F
 min:∀ P,ClP c l P->∀ n∈F,P n
theorem ak2 {s:jv} (hs:∀ b,ku s b=some (kH c b)) {l:List Int} (hl:l.length<=100000) (hr:∀ x∈l,0<=x/\x<(c.b.length:Int)) :
  ∃ F,l7 ⟨c,domT c,inT c⟩ l=some F/\nK s (domT c) l=some F/\xb c l F:=by
 have aM:(domT c).length=c.b.length:=mn;have aN:(inT c).length=c.b.length:=mn
 obtain ⟨m, o, e1, e2, e3, e4⟩ := bv6 (b1 := (fun (W : (jw Bool) × (List Int)) => (if decide (0 < ((W.2.length : Int))) then ((jr W.2 0).bind fun uL => (tl W.2 1 (W.2.length : Int)).bind fun uN => (mS (⟨c,domT c,inT c⟩:ld) uL).bind fun uR => if !(uR) then some (W.1, uN) else (my (⟨c,domT c,inT c⟩:ld) uL).bind fun uO => (kO (S := (jw Bool) × (List Int)) (X := Empty) (fun uI K => ((jr uO uI).bind fun O => (if !(((jw.get K.1 O).getD false)) then (k8 K.2 ([O] : List Int)).bind fun uJ => some ((jw.i K.1 O true), uJ) else some (K.1, K.2) : Option ((jw Bool) × (List Int))).bind fun uG => some (uG.1, uG.2) : Option ((jw Bool) × (List Int))).bind fun uH => some (.inl (uH.1, uH.2))) (((uO.length : Int) : Int) - 0).toNat 0 (W.1, uN)).bind (Sum.elim (fun uP => some (uP.1, uP.2)) (fun (e0 : Empty) => nomatch e0)) : Option ((jw Bool) × (List Int))).bind fun uQ => some (.inl (uQ.1, uQ.2)) else some (.inr W.1) : Option (((jw Bool) × (List Int)) ⊕ ((jw Bool)))))) (b2 := (fun (W : (List Int) × (List Int)) => (if decide (0 < ((W.2.length : Int))) then ((jr W.2 0).bind fun uL => (tl W.2 1 (W.2.length : Int)).bind fun uN => (l3 uL 0 ((((domT c).length : Int)) - 1)).bind fun uR => if !(uR) then some (W.1, uN) else (oC s (domT c) uL).bind fun uO => (kO (S := (List Int) × (List Int)) (X := Empty) (fun uI K => ((jr uO uI).bind fun O => (lj K.1 O).bind fun uS => (if decide (uS < 0) then (lZ K.1 O).bind fun uU => (k8 K.2 ([O] : List Int)).bind fun uJ => some (uU, uJ) else some (K.1, K.2) : Option ((List Int) × (List Int))).bind fun uG => some (uG.1, uG.2) : Option ((List Int) × (List Int))).bind fun uH => some (.inl (uH.1, uH.2))) (((uO.length : Int) : Int) - 0).toNat 0 (W.1, uN)).bind (Sum.elim (fun uP => some (uP.1, uP.2)) (fun (e0 : Empty) => nomatch e0)) : Option ((List Int) × (List Int))).bind fun uQ => some (.inl (uQ.1, uQ.2)) else some (.inr W.1) : Option (((List Int) × (List Int)) ⊕ ((List Int))))))
  (λ(s:jw Bool × List Int) (t:List Int × List Int)=>t=(s.1.keys,s.2)/\KM c s.1/\(∀ x∈s.2,0<=x/\x<(c.b.length:Int))/\(∀ n∈s.1.keys,kH c n≠[])/\(∀ x,x∈l\/x∈s.1.keys->x∈s.2\/∀ n,0<=n->n<(c.b.length:Int)->DF c x n->n∈s.1.keys)/\s.2.length+(160 - s.1.keys.length)<=200000/\∀ P,ClP c l P->(∀ n∈s.1.keys,P n)/\∀ x∈s.2,x∈l\/P x)
  (λ(m:jw Bool) (o:List Int)=>o=m.keys/\xb c l m.keys) (λs=>s.2.length+2*(160 - s.1.keys.length)) (λs t aE=>by
   obtain ⟨m,w⟩:=s;obtain ⟨rfl,hm,hw,hp,hc,a3,L⟩:=aE;dsimp only at hm hw hp hc a3 L ⊢;have aL:=hm.len;cases w with
   | nil =>
    right;refine ⟨m,m.keys,by rw [if_neg (by simp)],by rw [if_neg (by simp)],rfl,m.keys_sorted,hm.rng,hp,λx H n n0 n1 hd=>(hc x H).resolve_left (by simp) n n0 n1 hd,λP hP=>(L P hP).1⟩
   | cons b w =>
    left;have hb:=hw b (by simp);have hg:jr (b::w) 0=some b:=rfl
    have a4:mS ⟨c,domT c,inT c⟩ b=some true:=by
     unfold mS;have:inB b 0 (((inT c).length:Int) - 1)=true:=by rw [lO,inT,mn];omega
     have hg:jr (inT c) b=some true:=by unfold inT;rw [lf hb.1 hb.2,hall b hb.1 hb.2]
     simp only [oD,this,obS,if_true,hg]
    have a5:l3 b 0 (((domT c).length:Int) - 1)=some true:=by
     rw [sT];congr 1;rw [lO];omega
    simp only [List.length_cons] at a3;have aK:=ai9 c b c.b.length
    obtain ⟨x1, _, f1, f2, f3⟩ := cg6 (b1 := (fun (uI : Int) (K : (jw Bool) × (List Int)) => (((jr (frL c b c.b.length) uI).bind fun O => (if !(((jw.get K.1 O).getD false)) then (k8 K.2 ([O] : List Int)).bind fun uJ => some ((jw.i K.1 O true), uJ) else some (K.1, K.2) : Option ((jw Bool) × (List Int))).bind fun uG => some (uG.1, uG.2) : Option ((jw Bool) × (List Int))).bind fun uH => some (.inl (uH.1, uH.2)) : Option (((jw Bool) × (List Int)) ⊕ (Empty))))) (b2 := (fun (uI : Int) (K : (List Int) × (List Int)) => (((jr (frL c b c.b.length) uI).bind fun O => (lj K.1 O).bind fun uS => (if decide (uS < 0) then (lZ K.1 O).bind fun uU => (k8 K.2 ([O] : List Int)).bind fun uJ => some (uU, uJ) else some (K.1, K.2) : Option ((List Int) × (List Int))).bind fun uG => some (uG.1, uG.2) : Option ((List Int) × (List Int))).bind fun uH => some (.inl (uH.1, uH.2)) : Option (((List Int) × (List Int)) ⊕ (Empty))))) (k := (((frL c b c.b.length).length : Int) - 0).toNat) (i := 0) (s := (m, w)) (t := (m.keys, w))
     (λ(i:Int) (s:jw Bool × List Int) (t:List Int × List Int)=>t=(s.1.keys,s.2)/\KM c s.1/\(∀ x∈s.2,0<=x/\x<(c.b.length:Int))/\(∀ n∈s.1.keys,kH c n≠[])/\(∀ n∈m.keys,n∈s.1.keys)/\(∀ x∈w,x∈s.2)/\(∀ n∈s.1.keys,n∈m.keys\/n∈s.2)/\(∀ n∈(frL c b c.b.length).take i.toNat,n∈s.1.keys)/\s.2.length+(160 - s.1.keys.length)<=w.length+(160 - m.keys.length)/\m.keys.length<=s.1.keys.length/\∀ P,ClP c l P->(∀ n∈s.1.keys,P n)/\∀ x∈s.2,x∈l\/P x)
     ⟨rfl,hm,λx H=>hw x (by simp [H]),hp,λ_ h=>h,λ_ h=>h,λ_ h=>.inl h,by simp,Nat.le_refl _,Nat.le_refl _,λP hP=>⟨(L P hP).1,λx H=>(L P hP).2 x (by simp [H])⟩⟩ (λi s t i0 _ hI=>by
      obtain ⟨m',w'⟩:=s;obtain ⟨rfl,j1,j2,j3,j4,j5,j6,j7,j8,j9,jm⟩:=hI;dsimp only at j1 j2 j3 j4 j5 j6 j7 j8 j9 jm ⊢;obtain ⟨n,hn,aI,aC⟩:=kV (xs:=frL c b c.b.length) (j:=i) i0 (by omega);obtain ⟨M,a1⟩:=(zL c b n _).1 aC;obtain ⟨q,q1,q2⟩:=cx6 m'.keys n
      have a7:(frL c b c.b.length).take (i+1).toNat=(frL c b c.b.length).take i.toNat++[n]:=by
       rw [show (i+1).toNat=i.toNat+1 by omega,List.take_add_one,aI];rfl
      have a8:=j1.len;by_cases hk:n∈m'.keys
      ·refine ⟨(m',w'),(m'.keys,w'),?_,?_,rfl,j1,j2,j3,j4,j5,j6,λx H=>?_,j8,j9,jm⟩
       ·rw [hn,obS,(j1.val n).2 hk];rfl
       ·rw [hn,obS,q1,obS,if_neg (by simp;exact q2.2 hk)];rfl
       ·rw [a7] at H;rcases List.mem_append.1 H with e | e
        ·exact j7 x e
        ·rw [List.mem_singleton.1 e];exact hk
      ·have aG:(m'.get n).getD false=false:=by
        cases hq:(m'.get n).getD false with
        | false=>rfl
        | true=>exact absurd ((j1.val n).1 hq) hk
       have a9:=j1.i M.1 M.2
       have N:(m'.i n true).keys.length=m'.keys.length+1:=by
        have h1:=w4 (l:=n::m'.keys) (l':=(m'.i n true).keys) (List.nodup_cons.2 ⟨hk,m'.nodup⟩) λx H=>ov.2 (by
         rcases List.mem_cons.1 H with e | e
         ·exact .inl e
         ·exact .inr e)
        have h2:=w4 (l:=(m'.i n true).keys) (l':=n::m'.keys) (m'.i n true).nodup λx H=>by
         rcases ov.1 H with e | e
         ·rw [e];exact List.mem_cons_self ..
         ·exact List.mem_cons_of_mem _ e
        simp only [List.length_cons] at h1 h2;omega
       have aB:=a9.len;rw [N] at aB;obtain ⟨l',aF,aD,aJ,_⟩:=xm (l:=m'.keys) (n:=n) m'.keys_sorted (by omega);have aH:l'=(m'.i n true).keys:=u6 aD (m'.i n true).keys_sorted λx=>by rw [aJ,ov]
       refine ⟨(m'.i n true,w'++[n]),((m'.i n true).keys,w'++[n]),?_,?_,rfl,a9,λx H=>?_,λx H=>?_,λx H=>ov.2 (.inr (j4 x H)),λx H=>List.mem_append_left _ (j5 x H),λx H=>?_,λx H=>?_,by rw [List.length_append,N];simp only [List.length_cons,List.length_nil];omega,by rw [N];omega,λP hP=>⟨λx H=>?_,λx H=>?_⟩⟩
       ·rw [hn,obS,aG,if_pos (show (!false)=true from rfl),ka (by simp;omega)];rfl
       ·rw [hn,obS,q1,obS,if_pos (by
         simp only [decide_eq_true_eq]
         exact Int.not_le.1 λh=>hk (q2.1 h)),aF,aH,obS,ka (by simp;omega)];rfl
       ·rcases List.mem_append.1 H with e | e
        ·exact j2 x e
        ·rw [List.mem_singleton.1 e];exact M
       ·rcases ov.1 H with e | e
        ·rw [e];obtain ⟨⟨p,a2,_⟩,_⟩:=a1;exact λh=>by rw [h] at a2;cases a2
        ·exact j3 x e
       ·rcases ov.1 H with e | e
        ·rw [e];exact .inr (by simp)
        ·exact (j6 x e).imp id λh=>List.mem_append_left _ h
       ·rw [a7] at H;rcases List.mem_append.1 H with e | e
        ·exact ov.2 (.inr (j7 x e))
        ·rw [List.mem_singleton.1 e];exact ov.2 (.inl rfl)
       ·rcases ov.1 H with e | e
        ·rw [e];exact hP b ((L P hP).2 b (by simp)) n M.1 M.2 a1
        ·exact (jm P hP).1 x e
       ·rcases List.mem_append.1 H with e | e
        ·exact (jm P hP).2 x e
        ·rw [List.mem_singleton.1 e];exact .inr (hP b ((L P hP).2 b (by simp)) n M.1 M.2 a1))
    obtain ⟨m',w'⟩:=x1;obtain ⟨rfl,j1,j2,j3,j4,j5,j6,j7,j8,j9,jm⟩:=f3;dsimp only at j1 j2 j3 j4 j5 j6 j7 j8 j9 jm;have a8:=j1.len;refine ⟨(m',w'),(m'.keys,w'),?_,?_,⟨rfl,j1,j2,j3,λx H=>?_,by dsimp only;omega,jm⟩,by simp only [List.length_cons];omega⟩
    ·rw [if_pos (by simp), hg, obS, bf6, obS, a4, obS];simp only [Bool.not_true,Bool.false_eq_true,if_false];rw [cq0 hnb hall hb.1 hb.2,obS];exact kN (kN f1 rfl) rfl
    ·rw [if_pos (by simp), hg, obS, bf6, obS, a5, obS];simp only [Bool.not_true,Bool.false_eq_true,if_false];rw [cq9 hnb hall hs hb.1 hb.2,obS];exact kN (kN f2 rfl) rfl
    ·by_cases a0:x∈w'
     ·exact .inl a0
     ·right;intro n n0 n1 hd;by_cases a6:x=b
      ·refine j7 n ?_;have:((0:Int)+((((frL c b c.b.length).length:Int) - 0).toNat:Int)).toNat=(frL c b c.b.length).length:=by omega
       rw [this,List.take_length];exact (zL c b n _).2 ⟨⟨n0,n1⟩,by rw [<- a6];exact hd⟩
      ·have aA:x∈l\/x∈m.keys:=H.imp id λh=>(j6 x h).resolve_right a0
       rcases hc x aA with h | h
       ·rcases List.mem_cons.1 h with e | e
        ·exact absurd e a6
        ·exact absurd (j5 x e) a0
       ·exact j4 n (h n n0 n1 hd)) (l.length+1000) (jw.mk0,l) ([],l)
  ⟨rfl,⟨by simp [jw.keys,jw.mk0],λk=>by rw [w8];simp [jw.keys,jw.mk0]⟩,hr,by simp [jw.keys,jw.mk0],λx H=>.inl (H.resolve_right (by simp [jw.keys,jw.mk0])),by simp [jw.keys,jw.mk0];omega,λP _=>⟨by simp [jw.keys,jw.mk0],λx H=>.inl H⟩⟩ (by simp [jw.keys,jw.mk0])
 refine ⟨m.keys,?_,?_,e4⟩
 ·unfold l7
  have hc:ky l=some l:=by
   unfold ky;rw [ka (by simp;omega)];rfl
  rw [hc,obS];refine kN (kN e1 rfl) ?_
  have:mA m=some m.keys:=by
   have:=e4.so;have hk:m.keys.length<=160:=sG (wY e4.so) (λx H=>by have:=e4.rng x H;omega);unfold mA;rw [ka (by simp;omega)];rfl
  rw [this];rfl
 ·unfold nK;rw [ka (by simp;omega),obS];refine kN (kN e2 rfl) ?_;rw [e3]
omit hnb hall in
theorem xb.uniq {l l' F F':List Int} (h:xb c l F) (h':xb c l' F') (H:∀ x,x∈l↔x∈l'):F=F' :=
 u6 h.so h'.so λn=>⟨h.min (λn=>n∈F') (λx e=>h'.clo x (e.imp (H x).1 id)) n,h'.min (λn=>n∈F) (λx e=>h.clo x (e.imp (H x).2 id)) n⟩
end
end Unt
end Go.Wk
namespace Go.Wk
open Go
namespace Unt
set_option maxRecDepth 10000
theorem bd4 {zs:List Int} {x:Int}:x∈Lib.compact zs↔x∈zs:=by
 have key:∀ (d:Array Int) (m j:Nat),j<m->d[j]! ∈ Lib.compactUpTo d m:=by
  intro d m
  induction m with
  | zero=>intro j h;omega
  | succ m K =>
   intro j H;rw [Lib.compactUpTo_succ,List.mem_append];by_cases e:j=m
   ·subst e;by_cases hk:Lib.keeps d j=true
    ·right;rw [if_pos hk];simp
    ·left;have h0:j≠0:=λe=>hk (by subst e;simp [Lib.keeps])
     have L:d[j]! = d[j - 1]! := by
      simp only [Lib.keeps,decide_eq_true_eq,not_or,ne_eq,Classical.not_not] at hk;exact hk.2
     rw [L];exact K (j - 1) (by omega)
   ·exact .inl (K j (by omega))
 constructor
 ·intro h;unfold Lib.compact Lib.compactUpTo at h;obtain ⟨j,H,rfl⟩:=List.mem_map.1 h;have H:=List.mem_range.1 (List.mem_filter.1 H).1;rw [bn0 H];exact List.getElem_mem H
 ·intro h;obtain ⟨j,H,rfl⟩:=List.getElem_of_mem h;have:=key zs.toArray zs.length j H;rw [bn0 H] at this;exact this
theorem co7 {l:List Int} (e:l.length<=1000000):∃ l',rz l=some l'/\∀ x,x∈l'↔x∈l:=by
 unfold rz ky;rw [ka (by simp;omega)];refine ⟨_,rfl,λx=>?_⟩;rw [bd4];show x∈rY ([]++l)↔_;rw [List.nil_append];exact (List.mergeSort_perm l _).mem_iff
theorem ar5 (b:Int):∀ (l:List jq) (i j:Int),j∈mv b l i↔∃ n:Nat,j=i+n/\∃ y,l[n]?=some y/\b∈y.n
 | [],i,j=>by simp [mv]
 | x::r,i,j=>by
  have L:=ar5 b r (i+1) j
  have key:(∃ n:Nat,j=i+n/\∃ y,(x::r)[n]?=some y/\b∈y.n)↔(j=i/\b∈x.n)\/∃ n:Nat,j=i+1+n/\∃ y,r[n]?=some y/\b∈y.n:=by
   constructor
   ·rintro ⟨n,H,y,e,K⟩;cases n with
    | zero=>simp at e;subst e;exact .inl ⟨by simpa using H,K⟩
    | succ n=>exact .inr ⟨n,by omega,y,by simpa using e,K⟩
   ·rintro (⟨H,e⟩ | ⟨n,H,y,e,K⟩)
    ·exact ⟨0,by simpa using H,x,rfl,e⟩
    ·exact ⟨n+1,by omega,y,by simpa using e,K⟩
  rw [key,<- L];simp only [mv];by_cases h:b∈x.n
  ·rw [if_pos h];simp [h]
  ·rw [if_neg h];simp [h]
theorem yg {c:jv} {b e:Int} {y:jq} (h:jr c.b e=some y) (K:b∈y.n):e∈kH c b:=by
 obtain ⟨h0,H⟩:=jz.1 h;exact (ar5 b c.b 0 e).2 ⟨e.toNat,by omega,y,H,K⟩
theorem jx {v:Int}:∀ {xs:List Int} {i:Int},v∈xs->i<=idx v xs i/\idx v xs i<i+xs.length
 | x::r,i,h=>by
  unfold idx;by_cases e:v=x
  ·rw [if_pos e];simp only [List.length_cons];omega
  ·rw [if_neg e];have:=jx (xs:=r) (i:=i+1) (by simpa [e] using h);simp only [List.length_cons];omega
def wm (c:jv) (I:Int->Int->Prop) (b n r:Int):Prop:=I n r\/∃ f∈(kX c n).a,at_ f.A (idx b (kH c n) 0)=r
def qk (c:jv) (I:Int->Int->Prop) (b r:Int):Prop:=∃ n∈(kX c b).n,wm c I b n r
def nr (ins:List (jw Bool)) (n r:Int):Prop:=∃ m,jr ins n=some m/\m.Has r
theorem co8 {u:kU} {k:Int} {c:jv} (hc:COk u k c) {ins:List (jw Bool)} {preds:List (List Int)} (hi:ins.length=c.b.length) (hp:∀ n x,jr c.b n=some x->jr preds n=some (kH c n)) {b:Int} {x:jq} (hb:jr c.b b=some x) :
  ∃ m,nX ⟨c,ins,preds⟩ b=some m/\∀ r,m.Has r↔qk c (nr ins) b r:=by
 unfold nX;have W:=hc.bok hb;obtain ⟨l,hl,L⟩:=co7 (l:=x.n) (by have:=W.j;omega);dsimp only;rw [hb,obS,hl,obS]
 rcases lB (xs:=l) (body:=(λ(uJ:Int) (uL:(jw Bool))=>((jr l uJ).bind λuC=>(jr ins uC).bind λuN=>((lM (λ(uO:Int × Bool) (uP:(jw Bool))=>some (jw.i uP uO.1 true)) (uN:jw Bool).es uL).bind (λuQ=>some uQ):Option ((jw Bool))).bind λuR=>(jr preds uC).bind λuS=>(mE uS b).bind λuU=>(jr c.b uC).bind λuI=>(kO (S:=(jw Bool)) (X:=Empty) (λuD uE=>(jr uI.a uD).bind λuG=>(jr uG.A uU).bind λuH=>some (.inl (jw.i uE uH true))) (((uI.a.length:Int):Int) - 0).toNat 0 uR).bind (Sum.elim (λuV=>some (.inl uV)) (λ(e0:Empty)=>nomatch e0)):Option (((jw Bool)) ⊕ (Empty))))) (s:=(jw.mk0:jw Bool)) (λl m=>∀ r,m.Has r↔∃ n∈l,wm c (nr ins) b n r) (λ_=>False) (λr=>by simp [jw.has_mk0]) (λpre n a1 s K hI=>by
  have hn:n∈x.n:=(L n).1 (by rw [K];simp);have hnb:=W.next n hn;obtain ⟨y,O,_⟩:=kV (xs:=c.b) (j:=n) (by omega) (by omega);obtain ⟨mi,M,_⟩:=kV (xs:=ins) (j:=n) (by omega) (by omega);have a4:=hp n y O;obtain ⟨s1,a2,a3⟩:=bw3 mi.es s;have a5:=hc.bok O;have a6:=jx (i:=0) (yg hb hn)
  rcases lB (xs:=y.a) (body:=(λ(uD:Int) (uE:(jw Bool))=>((jr y.a uD).bind λuG=>(jr uG.A (idx b (kH c n) 0)).bind λuH=>some (.inl (jw.i uE uH true)):Option (((jw Bool)) ⊕ (Empty))))) (s:=s1) (λfs m=>∀ r,m.Has r↔(∃ f∈fs,at_ f.A (idx b (kH c n) 0)=r)\/s1.Has r) (λ_=>False) (λr=>by simp) (λpre f a1 s K hI=>by
   have hf:=a5.a f (by rw [K];simp);refine .inl ⟨s.i (at_ f.A (idx b (kH c n) 0)) true,?_,λr=>?_⟩
   ·rw [show jr y.a (pre.length:Int)=some f by rw [K];exact kK,obS,yi (by omega) (by omega)];rfl
   ·rw [jw.has_ins,hI];simp only [List.mem_append,List.mem_singleton];constructor
    ·rintro (h | ⟨f',h,H⟩ | h)
     ·exact .inl ⟨f,.inr rfl,h.symm⟩
     ·exact .inl ⟨f',.inl h,H⟩
     ·exact .inr h
    ·rintro (⟨f',h | h,H⟩ | h)
     ·exact .inr (.inl ⟨f',h,H⟩)
     ·subst h;exact .inl H.symm
     ·exact .inr (.inr h)) with ⟨s2,h3,N⟩ | ⟨e,_,h⟩
  ·refine .inl ⟨s2,?_,λr=>?_⟩
   ·rw [show jr l (pre.length : Int) = some n by rw [K]; exact kK, obS, M, obS];refine kN (kN a2 rfl) ?_;rw [a4,obS,ax7,obS,O,obS];exact kN h3 rfl
   ·have a0 : nr ins n r ↔ mi.Has r := ⟨fun ⟨m', h1, H⟩ => by rw [M] at h1; cases h1; exact H, fun h => ⟨mi, M, h⟩⟩;rw [N,a3,hI];simp only [List.mem_append,List.mem_singleton];unfold wm;constructor
    ·rintro (h | h | ⟨n',h,H⟩)
     ·exact ⟨n,.inr rfl,.inr (by rw [l0 O];exact h)⟩
     ·exact ⟨n,.inr rfl,.inl (a0.2 h)⟩
     ·exact ⟨n',.inl h,H⟩
    ·rintro ⟨n',h | h,H⟩
     ·exact .inr (.inr ⟨n',h,H⟩)
     ·subst h;rcases H with H | H
      ·exact .inr (.inl (a0.1 H))
      ·rw [l0 O] at H;exact .inl H
  ·exact h.elim) with ⟨s,h,H⟩ | ⟨e,_,h⟩
 ·refine ⟨s,kN h rfl,λr=>?_⟩;rw [H];unfold qk;rw [l0 hb];constructor
  ·rintro ⟨n,h3,N⟩;exact ⟨n,(L n).1 h3,N⟩
  ·rintro ⟨n,h3,N⟩;exact ⟨n,(L n).2 h3,N⟩
 ·exact h.elim
def cr6 (y:kD) (S:Int->Prop) (r:Int):Prop:=r∈y.A\/(S r/\¬ (kb y.op=true/\r=y.to))
def bw:List kD->(Int->Prop)->Int->Prop
 | [],S=>S
 | y::l,S=>cr6 y (bw l S)
def ac0 (x:jq) (O:Int->Prop) (r:Int):Prop:=O r\/(x.j≠1/\r=x.on)
def al6 (x:jq) (O:Int->Prop) (i r:Int):Prop:=bw (x.i.drop (i+1).toNat) (ac0 x O) r
theorem cp5 (y:kD):nh y=some (if kb y.op then y.to else -1):=by
 unfold nh;rw [zE,obS];cases kb y.op<;>rfl
theorem ch6 {l:List kD} {S T:Int->Prop} (h:∀ r,S r↔T r):∀ r,bw l S r↔bw l T r:=by
 induction l with
 | nil=>exact h
 | cons y l e=>intro r;simp only [bw,cr6,e]
theorem bz5 {u:kU} {k:Int} {c:jv} (hc:COk u k c) {ins:List (jw Bool)} {preds:List (List Int)} (hi:ins.length=c.b.length) (hp:∀ n x,jr c.b n=some x->jr preds n=some (kH c n)) {b:Int} {x:jq} (hb:jr c.b b=some x)
  (a9:x.i.length<=1048576) {i:Int} (h0:-1<=i) (h1:i<(x.i.length:Int)\/i=-1) :
  ∃ m,ll ⟨c,ins,preds⟩ b i=some m/\∀ r,m.Has r↔al6 x (qk c (nr ins) b) i r:=by
 unfold ll;have M:=hc.bok hb;obtain ⟨O,a7,H⟩:=co8 hc hi hp hb;dsimp only;rw [a7,obS,hb,obS,xo,obS]
 obtain ⟨W,a3,a4⟩:∃ W,(if decide (x.j=2\/x.j=3)=true then some (jw.i O x.on true) else some O:Option (jw Bool))=some W/\∀ r,W.Has r↔ac0 x (qk c (nr ins) b) r:=by
  by_cases hj:x.j=2\/x.j=3
  ·refine ⟨jw.i O x.on true, by simp [hj], fun r => ?_⟩;rw [jw.has_ins,H];unfold ac0;have:x.j≠1:=by omega
   simp only [this,ne_eq,not_false_eq_true,true_and];exact Or.comm
  ·refine ⟨O, by simp [hj], fun r => ?_⟩;rw [H];unfold ac0;have:x.j=1:=by have:=M.j;omega
   simp [this]
 rw [a3,obS]
 have key:=lp (b1:=(λ(L:(jw Bool) × Int)=>(if decide (i<L.2) then (jr x.i L.2).bind λuD=>(nh uD).bind λuE=>(if decide (0<=uE) then some (jw.del L.1 uE) else some L.1:Option ((jw Bool))).bind λuG=>(mZ uG uD.A).bind λuH=>some (.inl (uH,w64 (L.2 - 1))) else some (.inr L.1):Option (((jw Bool) × Int) ⊕ ((jw Bool)))))) (λs=>i<=s.2/\s.2<(x.i.length:Int)/\∀ r,s.1.Has r↔bw (x.i.drop (s.2+1).toNat) (ac0 x (qk c (nr ins) b)) r) (λm:jw Bool=>∀ r,m.Has r↔al6 x (qk c (nr ins) b) i r) (λs=>(s.2 - i).toNat) (λs hs=>by
  obtain ⟨m,q⟩:=s;obtain ⟨g1,g2,g3⟩:=hs;dsimp only at g1 g2 g3 ⊢;by_cases hq:i<q
  ·left;obtain ⟨y,hy,a0,hm⟩:=kV (xs:=x.i) (j:=q) (by omega) g2;have a8:=iok (M.i y hm)
   have hd:x.i.drop q.toNat=y::x.i.drop (q+1).toNat:=by
    obtain ⟨hl,hv⟩:=lgE.1 a0;rw [show (q+1).toNat=q.toNat+1 by omega,List.drop_eq_getElem_cons hl,hv]
   obtain ⟨m1,N,a5⟩:∃ m1,(if decide (0<=(if kb y.op then y.to else -1))=true then some (jw.del m (if kb y.op then y.to else -1)) else some m:Option (jw Bool))=some m1/\∀ r,m1.Has r↔(m.Has r/\¬ (kb y.op=true/\r=y.to)):=by
    cases hk:kb y.op
    ·exact ⟨m,by simp,λr=>by simp⟩
    ·have a1 := a8.to (by intro e; rw [e] at hk; simp [kb, inB] at hk) (by intro e; rw [e] at hk; simp [kb, inB] at hk);refine ⟨m.del y.to,by simp [a1.1],λr=>?_⟩;rw [jw.has_del];simp;exact And.comm
   obtain ⟨m2,a2,a6⟩:=ca0 y.A m1;refine ⟨(m2,q - 1),?_,⟨by omega,by omega,λr=>?_⟩,by dsimp only;omega⟩
   ·rw [if_pos (by simpa using hq), hy, obS, cp5, obS];rw [N,obS,a2,obS,kv (by omega) (by omega)]
   ·dsimp only;rw [show q - 1+1=q by omega,hd,a6,a5,g3];rfl
  ·right;have:q=i:=by omega
   subst this
   exact ⟨m,by rw [if_neg (by simp)],g3⟩) ((((x.i.length:Int) - 1) - i).toNat+1) (W,(x.i.length:Int) - 1)
 by_cases K:i<=(x.i.length:Int) - 1
 ·obtain ⟨mf,h2,h3⟩:=key ⟨K,by dsimp only;omega,λr=>by
   rw [a4,List.drop_eq_nil_of_le (by dsimp only;omega)];rfl⟩ (by dsimp only;omega)
  exact ⟨mf,kN (kN h2 rfl) rfl,h3⟩
 ·omega
end Unt
end Go.Wk
namespace Go.Wk
open Go
namespace Unt
set_option maxRecDepth 10000
def inF (c:jv) (I:Int->Int->Prop) (b r:Int):Prop:=al6 (kX c b) (qk c I b) (-1) r/\¬ ∃ f∈(kX c b).a,f.to=r
theorem ah7 {l:List kD} {S T:Int->Prop} (h:∀ r,S r->T r):∀ r,bw l S r->bw l T r:=by
  induction l with
  | nil=>exact h
  | cons y l H => rintro r (h | ⟨e, K⟩)
                  · exact .inl h
                  · exact .inr ⟨H r e,K⟩
theorem aq4 {c:jv} {I J:Int->Int->Prop} (h:∀ b r,I b r->J b r) {b r:Int} (K:qk c I b r):qk c J b r:=by
 obtain ⟨n,e,H⟩:=K;exact ⟨n,e,H.imp (h n r) id⟩
theorem zt {c:jv} {I J:Int->Int->Prop} (h:∀ b r,I b r->J b r) {b r:Int} (e:inF c I b r):inF c J b r :=
 ⟨ah7 (λr hr=>hr.imp (aq4 h) id) r e.1,e.2⟩
theorem cn9 {u:kU} {k:Int} {c:jv} (hc:COk u k c) {I:Int->Int->Prop} (hI:∀ b r,I b r->0<=r/\r<c.r) {b:Int} {x:jq} (L:jr c.b b=some x) {r:Int} (h:inF c I b r):0<=r/\r<c.r:=by
 have hx:=l0 L;have e:=hc.bok L
 have key:∀ (l:List kD),(∀ y∈l,vd u k c y=true)->∀ r,bw l (ac0 x (qk c I b)) r->0<=r/\r<c.r:=by
  intro l
  induction l with
  | nil =>
   rintro _ r (⟨n,M,h | ⟨f,O,h⟩⟩ | ⟨_,h⟩)
   ·exact hI n r h
   ·rw [hx] at M;have hnb:=e.next n M;obtain ⟨y,H,_⟩:=kV (xs:=c.b) (j:=n) (by omega) (by omega);rw [l0 H] at O;have N:=(hc.bok H).a f O;have a0:=jx (i:=0) (yg L M)
    have:=N.2.2.2 (at_ f.A (idx b (kH c n) 0)) (by
     have h3:=yi (l:=f.A) (i:=idx b (kH c n) 0) (by omega) (by omega)
     exact List.mem_of_getElem? (jz.1 h3).2)
    omega
   ·have:=e.j;rw [h];omega
  | cons y l ih =>
   rintro W r (h | ⟨h,_⟩)
   ·exact (iok (W y (List.mem_cons_self ..))).A r h
   ·exact ih (λz hz=>W z (List.mem_cons_of_mem _ hz)) r h
 have K:=h.1;unfold al6 at K;rw [hx] at K;exact key _ (λy H=>e.i y (List.mem_of_mem_drop H)) r K
structure Inv (c:jv) (ins:List (jw Bool)):Prop where
 len:ins.length=c.b.length
 reg:∀ b r,nr ins b r->0<=r/\r<c.r
 up:∀ b r,nr ins b r->inF c (nr ins) b r
 least:∀ J:Int->Int->Prop,(∀ b r,0<=b->b<(c.b.length:Int)->inF c J b r->J b r)->∀ b r,nr ins b r->J b r
def tot (ins:List (jw Bool)):Nat:=(ins.map λm=>m.keys.length).sum
theorem bs4:∀ {ins:List (jw Bool)} {i:Nat} {m m':jw Bool},ins[i]?=some m->tot (ins.set i m')+m.keys.length=tot ins+m'.keys.length
 | [],i,m,m',h=>by simp at h
 | x::l,0,m,m',h=>by
  simp at h;subst h;simp [tot];omega
 | x::l,i+1,m,m',h=>by
  have:=bs4 (ins:=l) (m':=m') (show l[i]?=some m by simpa using h);simp [tot] at this ⊢;omega
theorem cw9 {ins:List (jw Bool)} {n:Nat} (h:∀ m∈ins,m.keys.length<=n):tot ins<=ins.length*n:=by
 induction ins with
 | nil=>simp [tot]
 | cons m l H =>
  have e:=H λx K=>h x (List.mem_cons_of_mem _ K)
  have L:=h m (List.mem_cons_self ..);simp [tot] at e ⊢;rw [Nat.add_mul];omega
theorem zf {ins:List (jw Bool)} {b:Int} {m m':jw Bool} (h:jr ins b=some m) (n r:Int):nr (ins.set b.toNat m') n r↔(if n=b then m'.Has r else nr ins n r):=by
 obtain ⟨h0,N⟩:=jz.1 h;have M:=(lgE.1 N).1;unfold nr;by_cases e:n=b
 ·subst e;rw [if_pos rfl];have:jr (ins.set n.toNat m') n=some m':=jz.2 ⟨h0,by rw [List.getElem?_set_self M]⟩;rw [this];simp
 ·rw [if_neg e];constructor
  ·rintro ⟨q,K,hr⟩;obtain ⟨L,H⟩:=jz.1 K;rw [List.getElem?_set_ne (by omega)] at H;exact ⟨q,jz.2 ⟨L,H⟩,hr⟩
  ·rintro ⟨q,K,hr⟩;obtain ⟨L,H⟩:=jz.1 K;exact ⟨q,jz.2 ⟨L,by rw [List.getElem?_set_ne (by omega)];exact H⟩,hr⟩
theorem Inv.grow {u:kU} {k:Int} {c:jv} (hc:COk u k c) {ins:List (jw Bool)} (H:Inv c ins) {b:Int} {x:jq} (O:jr c.b b=some x) {m m':jw Bool} (L:jr ins b=some m) (h':∀ r,m'.Has r↔inF c (nr ins) b r):Inv c (ins.set b.toNat m'):=by
 have K:∀ n r,nr ins n r->nr (ins.set b.toNat m') n r:=λn r h=>by
  rw [zf L];by_cases e:n=b
  ·rw [if_pos e,h'];subst e;exact H.up n r h
  ·rw [if_neg e];exact h
 obtain ⟨_,M⟩:=jz.1 O;have W:=(lgE.1 M).1;refine ⟨by simpa using H.len,λn r h=>?_,λn r h=>?_,λJ N n r h=>?_⟩
 ·rw [zf L] at h;by_cases e:n=b
  ·rw [if_pos e,h'] at h;exact cn9 hc H.reg O h
  ·rw [if_neg e] at h;exact H.reg n r h
 ·rw [zf L] at h;by_cases e:n=b
  ·rw [if_pos e,h'] at h;subst e;exact zt K h
  ·rw [if_neg e] at h;exact zt K (H.up n r h)
 ·rw [zf L] at h;by_cases e:n=b
  ·rw [if_pos e,h'] at h;subst e;exact N n r (by omega) (by omega) (zt (H.least J N) h)
  ·rw [if_neg e] at h;exact H.least J N n r h
theorem cp3 (l:List kA) (m:jw Bool):∃ m',kO (λ(N:Int) (L:(jw Bool))=>((jr (⟨l,[],0,0,[]⟩:jq).a N).bind λO=>some (.inl (jw.del L O.to)):Option (((jw Bool)) ⊕ (Empty)))) (((l.length:Int)) - 0).toNat 0 m=some (.inl m')/\∀ r,m'.Has r↔(m.Has r/\¬ ∃ f∈l,f.to=r):=by
 rcases lB (xs:=l) (body:=(λ(N:Int) (L:(jw Bool))=>((jr (⟨l,[],0,0,[]⟩:jq).a N).bind λO=>some (.inl (jw.del L O.to)):Option (((jw Bool)) ⊕ (Empty))))) (s:=m) (λfs m'=>∀ r,m'.Has r↔(m.Has r/\¬ ∃ f∈fs,f.to=r)) (λ_=>False) (λr=>by simp) (λpre f _ s W hI=>by
  refine .inl ⟨s.del f.to,?_,λr=>?_⟩
  ·rw [show jr l (pre.length:Int)=some f by rw [W];exact kK,obS]
  ·rw [jw.has_del,hI];simp only [List.mem_append,List.mem_singleton];constructor
   ·rintro ⟨M,H,h3⟩;refine ⟨H,?_⟩;rintro ⟨g,h | h,K⟩
    ·exact h3 ⟨g,h,K⟩
    ·subst h;exact M K.symm
   ·rintro ⟨M,H⟩
    exact ⟨λe=>H ⟨f,.inr rfl,e.symm⟩,M,λ⟨g,h,K⟩=>H ⟨g,.inl h,K⟩⟩) with ⟨s,h,H⟩ | ⟨e,_,h⟩
 ·exact ⟨s,h,H⟩
 ·exact h.elim
section
variable {u:kU} {k:Int} {c:jv} (hc:COk u k c) (hs:∀ x∈c.b,x.i.length<=1048576) {preds:List (List Int)} (hp:∀ n x,jr c.b n=some x->jr preds n=some (kH c n))
include hc hs hp
theorem cq1 {e : List (jw Bool)} (h0 : Inv c e) : ∃ q : List (jw Bool) × Bool, kx (fun (H : (List (jw Bool)) × Bool × Int) => (if decide (0 <= H.2.2) then ((ll (⟨c, H.1, preds⟩ : yy) H.2.2 (-1)).bind fun uI => (jr c.b H.2.2).bind fun W => (kO (S := (jw Bool)) (X := Empty) (fun uJ uL => (jr W.a uJ).bind fun uN => some (.inl (jw.del uL uN.to))) (((W.a.length : Int) : Int) - 0).toNat 0 uI).bind (Sum.elim (fun O => (jr H.1 H.2.2).bind fun uO => (if decide (((jw.len O)) ≠ ((jw.len uO))) then some ((H.1.set (H.2.2).toNat O), true) else some (H.1, H.2.1) : Option ((List (jw Bool)) × Bool)).bind fun uG => some (uG.1, uG.2)) (fun (e0 : Empty) => nomatch e0)) : Option ((List (jw Bool)) × Bool)).bind fun uH => some (.inl (uH.1, uH.2, w64 (H.2.2 - 1))) else some (.inr (H.1, H.2.1)) : Option (((List (jw Bool)) × Bool × Int) ⊕ ((List (jw Bool)) × Bool)))) (e, false, ((c.b.length : Int)) - 1) = some q /\ Inv c q.1 /\ tot e <= tot q.1 /\ (q.2 = true -> tot e < tot q.1) /\
  (q.2=false->∀ b r,0<=b->b<(c.b.length:Int)->inF c (nr q.1) b r->nr q.1 b r):=by
 have key := lp (b1 := (fun (H : (List (jw Bool)) × Bool × Int) => (if decide (0 <= H.2.2) then ((ll (⟨c, H.1, preds⟩ : yy) H.2.2 (-1)).bind fun uI => (jr c.b H.2.2).bind fun W => (kO (S := (jw Bool)) (X := Empty) (fun uJ uL => (jr W.a uJ).bind fun uN => some (.inl (jw.del uL uN.to))) (((W.a.length : Int) : Int) - 0).toNat 0 uI).bind (Sum.elim (fun O => (jr H.1 H.2.2).bind fun uO => (if decide (((jw.len O)) ≠ ((jw.len uO))) then some ((H.1.set (H.2.2).toNat O), true) else some (H.1, H.2.1) : Option ((List (jw Bool)) × Bool)).bind fun uG => some (uG.1, uG.2)) (fun (e0 : Empty) => nomatch e0)) : Option ((List (jw Bool)) × Bool)).bind fun uH => some (.inl (uH.1, uH.2, w64 (H.2.2 - 1))) else some (.inr (H.1, H.2.1)) : Option (((List (jw Bool)) × Bool × Int) ⊕ ((List (jw Bool)) × Bool))))) (fun s : List (jw Bool) × Bool × Int => (-1 <= s.2.2 /\ s.2.2 < (c.b.length : Int)) /\ Inv c s.1 /\ tot e <= tot s.1 /\ (s.2.1 = true -> tot e < tot s.1) /\ (s.2.1 = false -> ∀ b r, s.2.2 < b -> b < (c.b.length : Int) -> inF c (nr s.1) b r -> nr s.1 b r))
  (λq:List (jw Bool) × Bool=>Inv c q.1/\tot e<=tot q.1/\(q.2=true->tot e<tot q.1)/\(q.2=false->∀ b r,0<=b->b<(c.b.length:Int)->inF c (nr q.1) b r->nr q.1 b r)) (λs=>(s.2.2+1).toNat) (λs a3=>by
  obtain ⟨ins,ag,b⟩:=s;obtain ⟨⟨g1,g2⟩,L,g4,g5,g6⟩:=a3;dsimp only at g1 g2 L g4 g5 g6 ⊢;by_cases N:0<=b
  ·left;obtain ⟨x,hx,_,a6⟩:=kV (xs:=c.b) N g2;obtain ⟨m,M,_⟩:=kV (xs:=ins) (j:=b) N (by rw [L.len];exact g2);obtain ⟨m1,a1,a4⟩:=bz5 hc L.len hp hx (hs x a6) (i:=-1) (by omega) (.inr rfl);obtain ⟨K,a0,a5⟩:=cp3 x.a m1
   have hF:∀ r,K.Has r↔inF c (nr ins) b r:=λr=>by
    rw [a5,a4];unfold inF;rw [l0 hx]
   have hnb:=hc.nb;by_cases hl:K.len=m.len
   ·refine ⟨(ins, ag, b - 1), ?_, ⟨⟨by dsimp only; omega, by dsimp only; omega⟩, L, g4, g5, fun h b' r h1 h2 h3 => ?_⟩, by dsimp only; omega⟩
    ·rw [if_pos (by simpa using N), a1, obS, hx, obS];refine kN (a:=(ins,ag)) (kN (a:=.inl K) a0 ?_) ?_
     ·show (jr ins b).bind _ = _;rw [M,obS];simp [hl]
     ·rw [kv (by omega) (by omega)]
    ·dsimp only at h h1 h3;rcases Int.lt_or_eq_of_le (show b<=b' by omega) with h4 | h4
     ·exact g6 h b' r h4 h2 h3
     ·subst h4;refine ⟨m,M,jw.has_of_len (m:=m) (m':=K) (λr hr=>(hF r).2 (L.up b r ⟨m,M,hr⟩)) hl ((hF r).2 h3)⟩
   ·have a2:∀ r,m.Has r->K.Has r:=λr hr=>(hF r).2 (L.up b r ⟨m,M,hr⟩)
    have a8:=jw.len_lt a2 hl;have a7:=bs4 (m':=K) (jz.1 M).2;refine ⟨(ins.set b.toNat K,true,b - 1),?_,⟨⟨by dsimp only;omega,by dsimp only;omega⟩,L.grow hc hx M hF,by dsimp only;omega,λ_=>by dsimp only;omega,λh=>by cases h⟩,by dsimp only;omega⟩;rw [if_pos (by simpa using N),a1,obS,hx,obS];refine kN (a:=(ins.set b.toNat K,true)) (kN (a:=.inl K) a0 ?_) ?_
    ·show (jr ins b).bind _ = _;rw [M,obS];simp [hl]
    ·rw [kv (by omega) (by omega)]
  ·right
   exact ⟨(ins,ag),by rw [if_neg (by simpa using N)],L,g4,g5,λh b' r h1 h2 h3=>g6 h b' r (by omega) h2 h3⟩) (c.b.length+1) (e,false,((c.b.length:Int)) - 1)
  ⟨⟨by have:=hc.nb;dsimp only;omega,by dsimp only;omega⟩,h0,Nat.le_refl _,(λh=>by cases h),λ_ b r h1 h2=>by dsimp only at h1;omega⟩ (by have:=hc.nb;dsimp only;omega)
 exact key
end
end Unt
end Go.Wk
namespace Go.Wk
open Go
namespace Unt
set_option maxRecDepth 10000
def vu (c:jv) (I:Int->Int->Prop):Prop :=
 (∀ b r,I b r->0<=b/\b<(c.b.length:Int))/\(∀ b r,0<=b->b<(c.b.length:Int)->(I b r↔inF c I b r))/\∀ J:Int->Int->Prop,(∀ b r,0<=b->b<(c.b.length:Int)->inF c J b r->J b r)->∀ b r,I b r->J b r
theorem vu.uniq {c:jv} {I J:Int->Int->Prop} (K:vu c I) (H:vu c J):∀ b r,I b r↔J b r:=λb r =>
 ⟨K.2.2 J (λb r h0 e h=>(H.2.1 b r h0 e).2 h) b r,H.2.2 I (λb r h0 e h=>(K.2.1 b r h0 e).2 h) b r⟩
section
variable {u:kU} {k:Int} {c:jv} (hc:COk u k c) (hs:∀ x∈c.b,x.i.length<=1048576)
include hc hs
theorem bv8:∃ ins preds,oV c=some ⟨c,ins,preds⟩/\Inv c ins/\vu c (nr ins)/\∀ n x,jr c.b n=some x->jr preds n=some (kH c n):=by
 have hnb:=hc.nb;unfold oV;rw [nW (by omega) (by omega),obS]
 rcases np (body:=(λ(uL:Int) (uN:(List (List Int)))=>((lQ c uL).bind λuO=>(k8 uN ([uO]:List (List Int))).bind λuP=>some (.inl uP):Option (((List (List Int))) ⊕ (Empty))))) (k:=(((c.b.length:Int)) - 0).toNat) (i:=0) (s:=([]:List (List Int))) (λi s=>(s.length:Int)=i/\∀ n:Nat,(n:Int)<i->s[n]?=some (kH c n)) (λ_=>False) ⟨rfl,λn h=>by omega⟩ (λj s h1 h2 N=>by
  have hj:j<(c.b.length:Int):=by omega
  refine .inl ⟨s++[kH c j],?_,by simp;omega,λn hn=>?_⟩
  ·rw [u0 c j (by omega) (by rw [lO];omega),obS,ka (by simp;omega)];rfl
  ·by_cases e:(n:Int)<j
   ·rw [List.getElem?_append_left (by omega)];exact N.2 n e
   ·have : n = s.length := by omega
    subst this
    rw [List.getElem?_append_right (Nat.le_refl _),Nat.sub_self,show ((s.length:Nat):Int)=j by omega];rfl) with ⟨preds,h,hpl,hpg⟩ | ⟨e,_,h⟩
 rotate_left
 ·exact h.elim
 have hp:∀ n x,jr c.b n=some x->jr preds n=some (kH c n):=λn x hx=>by
  obtain ⟨g0,K⟩:=jz.1 hx;have hl:=(lgE.1 K).1;refine jz.2 ⟨g0,?_⟩;have:=hpg n.toNat (by omega)
  rwa [show ((n.toNat:Nat):Int)=n by omega] at this
 have L:∀ b r,¬ nr (List.replicate (c.b.length:Int).toNat (jw.mk0:jw Bool)) b r:=by
  rintro b r ⟨m,M,hr⟩;have:=List.mem_of_getElem? (jz.1 M).2;rw [(List.mem_replicate.1 this).2] at hr;exact jw.has_mk0 hr
 have a1:Inv c (List.replicate (c.b.length:Int).toNat (jw.mk0:jw Bool)):=⟨by simp,λb r h=>(L b r h).elim,λb r h=>(L b r h).elim,λJ _ b r h=>(L b r h).elim⟩
 have hB:∀ ins,Inv c ins->tot ins<=c.b.length*c.r.toNat:=λins N=>by
  have a2:=hc.r;rw [<- N.len];refine cw9 λm M=>?_
  obtain ⟨n,hn⟩:=List.getElem?_of_mem M;refine jw.len_le λr hr=>?_
  have:=N.reg (n:Int) r ⟨m,jz.2 ⟨by omega,by simpa using hn⟩,hr⟩;omega
 obtain ⟨ins, h2, O, h4⟩ := lp (b1 := (fun (uD : (List (jw Bool)) × Bool) => (if uD.2 then ((kx (S := (List (jw Bool)) × Bool × Int) (X := (List (jw Bool)) × Bool) (fun H => if decide (0 <= H.2.2) then ((ll (⟨c, H.1, preds⟩ : yy) H.2.2 (-1)).bind fun uQ => (jr c.b H.2.2).bind fun uE => (kO (S := (jw Bool)) (X := Empty) (fun uR uS => (jr uE.a uR).bind fun uU => some (.inl (jw.del uS uU.to))) (((uE.a.length : Int) : Int) - 0).toNat 0 uQ).bind (Sum.elim (fun uG => (jr H.1 H.2.2).bind fun uV => (if decide (((jw.len uG)) ≠ ((jw.len uV))) then some ((H.1.set (H.2.2).toNat uG), true) else some (H.1, H.2.1) : Option ((List (jw Bool)) × Bool)).bind fun uH => some (uH.1, uH.2)) (fun (W : Empty) => nomatch W)) : Option ((List (jw Bool)) × Bool)).bind fun uI => some (.inl (uI.1, uI.2, w64 (H.2.2 - 1))) else some (.inr (H.1, H.2.1))) (uD.1, false, ((c.b.length : Int)) - 1)).bind (fun W => some W) : Option ((List (jw Bool)) × Bool)).bind fun uJ => some (.inl (uJ.1, uJ.2)) else some (.inr uD.1) : Option (((List (jw Bool)) × Bool) ⊕ ((List (jw Bool))))))) (fun s : List (jw Bool) × Bool => Inv c s.1 /\ (s.2 = false -> ∀ b r, 0 <= b -> b < (c.b.length : Int) -> inF c (nr s.1) b r -> nr s.1 b r))
  (λins:List (jw Bool)=>Inv c ins/\∀ b r,0<=b->b<(c.b.length:Int)->inF c (nr ins) b r->nr ins b r) (λs=>2*(c.b.length*c.r.toNat - tot s.1)+(if s.2 then 1 else 0)) (λs a0=>by
   obtain ⟨ins,ag⟩:=s;obtain ⟨K,g2⟩:=a0;dsimp only at K g2 ⊢;cases ag with
   | false=>exact .inr ⟨ins,by simp,K,g2 rfl⟩
   | true =>
    left;obtain ⟨⟨q1,q2⟩,e1,e2,e3,e4,e5⟩:=cq1 hc hs hp K;dsimp only at e2 e3 e4 e5;refine ⟨(q1,q2),by rw [if_pos rfl];exact kN (kN e1 rfl) rfl,⟨e2,e5⟩,?_⟩;have b1:=hB q1 e2;have b2:=hB ins K;dsimp only;cases q2 with
    | false=>simp;omega
    | true=>have:=e4 rfl;simp;omega) _ (_,true) ⟨a1,λh=>by cases h⟩ (Nat.lt_succ_self _)
 refine ⟨ins,preds,kN h ?_,O,⟨λb r h=>?_,λb r h0 h1=>⟨O.up b r,h4 b r h0 h1⟩,O.least⟩,hp⟩
 ·exact kN (kN h2 rfl) rfl
 ·obtain ⟨m,M,_⟩:=h;obtain ⟨g0,K⟩:=jz.1 M;have:=(lgE.1 K).1;rw [O.len] at this;omega
end
end Unt
end Go.Wk
namespace Go.Wk
open Go
namespace Unt
set_option maxRecDepth 10000
def mI (l:List Bool) (r:Int):Prop:=jr l r=some true
theorem qs {l:List Bool} {r:Int}:mI l r↔0<=r/\l[r.toNat]?=some true:=jz
theorem vl {l:List Bool} {q r:Int} {v:Bool} (h0:0<=q) (H:q<(l.length:Int)):mI (l.set q.toNat v) r↔(if r=q then v=true else mI l r):=by
 rw [qs,qs];by_cases e:r=q
 ·subst e;rw [if_pos rfl,List.getElem?_set_self (by omega)];simp [h0]
 ·rw [if_neg e];by_cases hr:0<=r
  ·rw [List.getElem?_set_ne (by omega)]
  ·simp [hr]
def lz (xs:List (List Bool)) (b r:Int):Prop:=∃ l,jr xs b=some l/\mI l r
theorem cf5 (y:kD):na y=some (if kb y.op then y.to else -1):=by
 unfold na;rw [xd,obS];cases kb y.op<;>rfl
theorem by1 (H:List Int) (l:List Bool) (ha:∀ r∈H,0<=r/\r<(l.length:Int)):∃ l':List Bool,kO (λ(W:Int) (L:(List Bool))=>((jr (⟨0,0,H,0⟩:kD).A W).bind λK=>(jr L K).bind λuG=>some (.inl (L.set (K).toNat true)):Option (((List Bool)) ⊕ (Empty)))) (((H.length:Int)) - 0).toNat 0 l=some (.inl l')/\l'.length=l.length/\∀ r,mI l' r↔(r∈H\/mI l r):=by
 rcases lB (xs:=H) (body:=(λ(W:Int) (L:(List Bool))=>((jr (⟨0,0,H,0⟩:kD).A W).bind λK=>(jr L K).bind λuG=>some (.inl (L.set (K).toNat true)):Option (((List Bool)) ⊕ (Empty))))) (s:=l) (λfs (l':List Bool)=>l'.length=l.length/\∀ r,mI l' r↔(r∈fs\/mI l r)) (λ_=>False) ⟨rfl,λr=>by simp⟩ (λpre q _ s M N=>by
  have O:=ha q (by rw [M];simp);obtain ⟨z,hz,_⟩:=kV (xs:=s) (j:=q) O.1 (by rw [N.1];exact O.2);refine .inl ⟨s.set q.toNat true,?_,by simpa using N.1,λr=>?_⟩
  ·rw [show jr H (pre.length:Int)=some q by rw [M];exact kK,obS,hz,obS]
  ·rw [vl O.1 (by rw [N.1]; exact O.2), N.2];simp only [List.mem_append,List.mem_singleton]
   by_cases e:r=q<;>simp [e]) with ⟨s,h,h2⟩ | ⟨e,_,h⟩
 ·exact ⟨s,h,h2⟩
 ·exact h.elim
theorem bn3 {u:kU} {k:Int} {c:jv} (hc:COk u k c) {ins outs:List (List Bool)} {b:Int} {x:jq} (hb:jr c.b b=some x) (aC:x.i.length<=1048576) {o:List Bool} (ho:jr outs b=some o) (aB:(o.length:Int)=c.r) {i:Int} (h0:-1<=i) (h1:i<(x.i.length:Int)\/i=-1) :
  ∃ l,nJ c ⟨ins,outs⟩ b i=some l/\l.length=o.length/\∀ r,mI l r↔al6 x (mI o) i r:=by
 unfold nJ;have W:=hc.bok hb;have aA:=hc.r;dsimp only;rw [ho,obS,ka (by simp;omega),obS,hb,obS,List.nil_append]
 obtain ⟨O,a5,a9,a6⟩:∃ O,(if decide (x.j≠1)=true then (jr o x.on).bind λ_=>some (o.set (x.on).toNat true) else some o:Option (List Bool))=some O/\O.length=o.length/\∀ r,mI O r↔ac0 x (mI o) r:=by
  by_cases hj:x.j=1
  ·refine ⟨o, by simp [hj], rfl, fun r => ?_⟩;unfold ac0;simp [hj]
  ·have N : 0 <= x.on /\ x.on < c.r := by have := W.j; omega
   obtain ⟨z,hz,_⟩:=kV (xs:=o) (j:=x.on) N.1 (by omega);refine ⟨o.set x.on.toNat true,by simp [hj,hz],by simp,λr=>?_⟩;rw [vl N.1 (by omega)];unfold ac0;by_cases e:r=x.on<;>simp [e,hj]
 rw [a5,obS]
 have key:=lp (b1:=(λ(H:(List Bool) × Int)=>(if decide (i<H.2) then (jr x.i H.2).bind λuD=>(na uD).bind λuE=>(if decide (0<=uE) then (jr H.1 uE).bind λuI=>some (H.1.set (uE).toNat false) else some H.1:Option ((List Bool))).bind λuJ=>(kO (S:=(List Bool)) (X:=Empty) (λuL uG=>(jr uD.A uL).bind λuH=>(jr uG uH).bind λ_=>some (.inl (uG.set (uH).toNat true))) (((uD.A.length:Int):Int) - 0).toNat 0 uJ).bind (Sum.elim (λuN=>some (.inl (uN,w64 (H.2 - 1)))) (λ(e0:Empty)=>nomatch e0)) else some (.inr H.1):Option (((List Bool) × Int) ⊕ ((List Bool)))))) (λs=>i<=s.2/\s.2<(x.i.length:Int)/\s.1.length=o.length/\∀ r,mI s.1 r↔bw (x.i.drop (s.2+1).toNat) (ac0 x (mI o)) r) (λm:List Bool=>m.length=o.length/\∀ r,mI m r↔al6 x (mI o) i r) (λs=>(s.2 - i).toNat) (λs hs=>by
  obtain ⟨m,q⟩:=s;obtain ⟨g1,g2,gl,g3⟩:=hs;dsimp only at g1 g2 gl g3 ⊢;by_cases hq:i<q
  ·left;obtain ⟨y,hy,a3,hm⟩:=kV (xs:=x.i) (j:=q) (by omega) g2;have a1:=iok (W.i y hm)
   have hd:x.i.drop q.toNat=y::x.i.drop (q+1).toNat:=by
    obtain ⟨hl,hv⟩:=lgE.1 a3;rw [show (q+1).toNat=q.toNat+1 by omega,List.drop_eq_getElem_cons hl,hv]
   obtain ⟨m1,a0,M,a7⟩:∃ m1,(if decide (0<=(if kb y.op then y.to else -1))=true then (jr m (if kb y.op then y.to else -1)).bind λuI=>some (m.set (if kb y.op then y.to else -1).toNat false) else some m:Option (List Bool))=some m1/\m1.length=o.length/\∀ r,mI m1 r↔(mI m r/\¬ (kb y.op=true/\r=y.to)):=by
    cases hk:kb y.op
    ·exact ⟨m,by simp,gl,λr=>by simp⟩
    ·have K := a1.to (by intro e; rw [e] at hk; simp [kb, inB] at hk) (by intro e; rw [e] at hk; simp [kb, inB] at hk);obtain ⟨z,hz,_⟩:=kV (xs:=m) (j:=y.to) K.1 (by omega);refine ⟨m.set y.to.toNat false,by simp [K.1,hz],by simpa using gl,λr=>?_⟩;rw [vl K.1 (by omega)];by_cases e:r=y.to<;>simp [e]
   obtain ⟨m2,a4,a2,a8⟩:=by1 y.A m1 (λr hr=>by have:=a1.A r hr;omega);refine ⟨(m2,q - 1),?_,⟨by omega,by omega,by rw [a2,M],λr=>?_⟩,by dsimp only;omega⟩
   ·rw [if_pos (by simpa using hq), hy, obS, cf5, obS, a0, obS];refine kN (a:=.inl m2) a4 ?_;rw [Sum.elim_inl,kv (by omega) (by omega)]
   ·dsimp only;rw [show q - 1+1=q by omega,hd,a8,a7,g3];rfl
  ·right;have:q=i:=by omega
   subst this
   exact ⟨m,by rw [if_neg (by simp)],gl,g3⟩) ((((x.i.length:Int) - 1) - i).toNat+1) (O,(x.i.length:Int) - 1)
 by_cases L:i<=(x.i.length:Int) - 1
 ·obtain ⟨mf,h2,h3⟩:=key ⟨L,by dsimp only;omega,a9,λr=>by
   rw [a6,List.drop_eq_nil_of_le (by dsimp only;omega)];rfl⟩ (by dsimp only;omega)
  exact ⟨mf,kN (kN h2 rfl) rfl,h3⟩
 ·omega
end Unt
end Go.Wk
namespace Go.Wk
open Go
namespace Unt
set_option maxRecDepth 10000
theorem av6 (xs:List Int) (v:Int):lj xs v=some (idx v xs 0):=by
 unfold lj;rw [x7 (λK H (N:Unit)=>if decide (H=v) then some (.inr K) else some (.inl ()))]
 have:∀ (xs:List Int) (i:Int),(oA (λK H (N:Unit)=>if decide (H=v) then some (Sum.inr K) else some (.inl ())) xs i ()).bind (Sum.elim (λ_=>some (-1)) (λL=>some L))=some (idx v xs i):=by
  intro xs
  induction xs with
  | nil=>intro i;rfl
  | cons x r M =>
   intro i;by_cases e:x=v
   ·simp [oA,idx,e]
   ·simp only [oA,idx,e,Ne.symm e,decide_false,if_false,Bool.false_eq_true];exact M _
 exact this xs 0
theorem ck1 {c:jv} {n:Int} {y:jq} (hy:jr c.b n=some y) (hl:y.a.length<=1048576) {at':Int} (K:List Bool) (ha:∀ f∈y.a,(0<=at'/\at'<(f.A.length:Int))/\0<=at_ f.A at'/\at_ f.A at'<(K.length:Int)) :
  ∃ m:List Bool,kx (λ(H:(List Bool) × Int)=>((jr c.b n).bind λN=>if decide (H.2<((N.a.length:Int))) then (jr N.a H.2).bind λuG=>(jr uG.A at').bind λM=>(jr H.1 M).bind λuH=>some (.inl ((H.1.set (M).toNat true),w64 (H.2+1))) else some (.inr H.1):Option (((List Bool) × Int) ⊕ ((List Bool))))) (K,0)=some m/\m.length=K.length/\∀ r,mI m r↔((∃ f∈y.a,at_ f.A at'=r)\/mI K r):=by
 refine lp (b1:=(λ(H:(List Bool) × Int)=>((jr c.b n).bind λN=>if decide (H.2<((N.a.length:Int))) then (jr N.a H.2).bind λuG=>(jr uG.A at').bind λM=>(jr H.1 M).bind λuH=>some (.inl ((H.1.set (M).toNat true),w64 (H.2+1))) else some (.inr H.1):Option (((List Bool) × Int) ⊕ ((List Bool)))))) (λs:List Bool × Int=>(0<=s.2/\s.2<=(y.a.length:Int))/\s.1.length=K.length/\∀ r,mI s.1 r↔((∃ f∈y.a.take s.2.toNat,at_ f.A at'=r)\/mI K r)) (λm:List Bool=>m.length=K.length/\∀ r,mI m r↔((∃ f∈y.a,at_ f.A at'=r)\/mI K r)) (λs=>((y.a.length:Int) - s.2).toNat) (λs hs=>?_) (y.a.length+1) (K,0) ⟨⟨by dsimp only;omega,by dsimp only;omega⟩,rfl,λr=>by simp⟩ (by dsimp only;omega);obtain ⟨m,q⟩:=s;obtain ⟨⟨g1,g2⟩,gl,g3⟩:=hs;dsimp only at g1 g2 gl g3 ⊢;rw [hy,obS];by_cases hq:q<(y.a.length:Int)
 ·left;obtain ⟨f,hf,a0,hm⟩:=kV (xs:=y.a) g1 hq;obtain ⟨L,W,O⟩:=ha f hm;obtain ⟨z,hz,_⟩:=kV (xs:=m) (j:=at_ f.A at') W (by rw [gl];exact O);refine ⟨(m.set (at_ f.A at').toNat true,q+1),?_,⟨⟨by dsimp only;omega,by dsimp only;omega⟩,by simpa using gl,λr=>?_⟩,by dsimp only;omega⟩
  ·rw [if_pos (by simpa using hq),hf,obS,yi L.1 L.2,obS,hz,obS,kv (by omega) (by omega)]
  ·dsimp only;rw [vl W (by rw [gl];exact O),g3,show (q+1).toNat=q.toNat+1 by omega,List.take_add_one,a0];simp only [Option.toList_some,List.mem_append,List.mem_singleton];by_cases e:r=at_ f.A at'
   ·simp only [e,if_true,true_iff];exact .inl ⟨f,.inr rfl,rfl⟩
   ·rw [if_neg e];constructor
    ·rintro (⟨g,h,h2⟩ | h)
     ·exact .inl ⟨g,.inl h,h2⟩
     ·exact .inr h
    ·rintro (⟨g,h | h,h2⟩ | h)
     ·exact .inl ⟨g,h,h2⟩
     ·subst h;exact absurd h2.symm e
     ·exact .inr h
 ·right;refine ⟨m,by rw [if_neg (by simpa using hq)],gl,λr=>?_⟩;rw [g3,List.take_of_length_le (by omega)]
theorem ay6 {b q:Int} (h0:0<=b) (e:0<=q) (h:q≠b):b.toNat≠q.toNat:=by omega
theorem cu2 {nd o:List Bool} {outs:List (List Bool)} {b:Int} {R:Int} (hR:0<=R) (aD:(nd.length:Int)=R) (ho:jr outs b=some o) (aC:(o.length:Int)=R) :
  ∃ H more o',kO (λ(M:Int) (L:(List (List Bool)) × Bool)=>(((jr nd M).bind λuI=>(if uI then (if L.2 then some true else (jr L.1 b).bind λuJ=>(jr uJ M).bind λuL=>some (!(uL)):Option (Bool)).bind λuN=>(jr L.1 b).bind λuE=>(jr uE M).bind λuO=>some ((L.1.set (b).toNat (uE.set (M).toNat true)),uN) else some (L.1,L.2):Option ((List (List Bool)) × Bool)).bind λuG=>some (uG.1,uG.2):Option ((List (List Bool)) × Bool)).bind λuH=>some (.inl (uH.1,uH.2)):Option (((List (List Bool)) × Bool) ⊕ (Empty)))) ((R:Int) - 0).toNat 0 (outs,false)=some (.inl (H,more))/\H.length=outs.length/\jr H b=some o'/\o'.length=o.length/\(∀ r,mI o' r↔(mI o r\/mI nd r))/\(∀ q,q≠b->jr H q=jr outs q)/\(more=true↔∃ r,mI nd r/\¬ mI o r):=by
 obtain ⟨a4,a9⟩:=jz.1 ho;have aB:=(lgE.1 a9).1
 rcases np (body := (fun (M : Int) (L : (List (List Bool)) × Bool) => (((jr nd M).bind fun uI => (if uI then (if L.2 then some true else (jr L.1 b).bind fun uJ => (jr uJ M).bind fun uL => some (!(uL)) : Option (Bool)).bind fun uN => (jr L.1 b).bind fun uE => (jr uE M).bind fun uO => some ((L.1.set (b).toNat (uE.set (M).toNat true)), uN) else some (L.1, L.2) : Option ((List (List Bool)) × Bool)).bind fun uG => some (uG.1, uG.2) : Option ((List (List Bool)) × Bool)).bind fun uH => some (.inl (uH.1, uH.2)) : Option (((List (List Bool)) × Bool) ⊕ (Empty))))) (k := ((R : Int) - 0).toNat) (i := 0) (s := (outs, false)) (fun j s => s.1.length = outs.length /\ (∃ o', jr s.1 b = some o' /\ o'.length = o.length /\ ∀ r, mI o' r ↔ (mI o r \/ (r < j /\ mI nd r))) /\ (∀ q, q ≠ b -> jr s.1 q = jr outs q) /\ (s.2 = true ↔ ∃ r, r < j /\ mI nd r /\ ¬ mI o r)) (fun _ => False)
  ⟨rfl,⟨o,ho,rfl,λr=>⟨.inl,λh=>h.elim id λh=>by have:=(qs.1 h.2).1;omega⟩⟩,λ_ _=>rfl,⟨λh=>(by cases h),λ⟨r,h1,h2,_⟩=>by have:=(qs.1 h2).1;omega⟩⟩ (λj s h1 h2 hI=>by
  obtain ⟨K,mo⟩:=s;obtain ⟨g1,⟨O,g2,g3,g4⟩,g5,W⟩:=hI;dsimp only at g1 g2 g3 g4 g5 W ⊢;left;obtain ⟨v,hv,_⟩:=kV (xs:=nd) (j:=j) h1 (by omega);obtain ⟨w,hw,_⟩:=kV (xs:=O) (j:=j) h1 (by omega);have a7:mI O j↔mI o j:=by rw [g4];exact ⟨λh=>h.elim id λh=>absurd h.1 (by omega),.inl⟩
  have a3:w=true↔mI o j:=by rw [<- a7];unfold mI;rw [hw];simp
  have a1:v=true↔mI nd j:=by unfold mI;rw [hv];simp
  cases v with
  | false =>
   have hn:¬ mI nd j:=λh=>by have:=a1.2 h;cases this
   refine ⟨(K,mo),by rw [hv];rfl,g1,⟨O,g2,g3,λr=>?_⟩,g5,?_⟩
   ·rw [g4];constructor
    ·exact λh=>h.imp id λh=>⟨by omega,h.2⟩
    ·exact λh=>h.imp id λh=>⟨by have:r≠j:=λe=>hn (e▸h.2);omega,h.2⟩
   ·rw [W];constructor
    ·rintro ⟨r,a,h⟩;exact ⟨r,by omega,h⟩
    ·rintro ⟨r,a,h⟩;exact ⟨r,by have:r≠j:=λe=>hn (e▸h.1);omega,h⟩
  | true =>
   have hy:mI nd j:=a1.1 rfl
   have a5:∀ r,mI (O.set j.toNat true) r↔(r=j\/mI O r):=λr=>by
    rw [vl h1 (by omega)];by_cases e:r=j<;>simp [e]
   have a8:b.toNat<K.length:=by omega
   refine ⟨(K.set b.toNat (O.set j.toNat true),if mo then true else !w),?_,by simpa using g1,⟨O.set j.toNat true,jz.2 ⟨a4,by rw [List.getElem?_set_self a8]⟩,by simpa using g3,λr=>?_⟩,λq hq=>?_,?_⟩
   ·rw [hv,obS,if_pos rfl];cases mo<;>simp [g2,hw]
   ·rw [a5,g4];constructor
    ·rintro (h | h | h)
     ·subst h;exact .inr ⟨by omega,hy⟩
     ·exact .inl h
     ·exact .inr ⟨by omega,h.2⟩
    ·rintro (h | ⟨h,h2⟩)
     ·exact .inr (.inl h)
     ·rcases Int.lt_or_eq_of_le (show r <= j by omega) with N | N
      ·exact .inr (.inr ⟨N,h2⟩)
      ·exact .inl N
   ·rw [<- g5 q hq];unfold jr;by_cases h0:0<=q
    ·have a6:b.toNat≠q.toNat:=ay6 a4 h0 hq;simp only [List.getElem?_set_ne a6]
    ·simp [h0]
   ·cases mo with
    | true =>
     simp only [if_true,true_iff];obtain ⟨r,a,h⟩:=W.1 rfl;exact ⟨r,by omega,h⟩
    | false =>
     simp only [Bool.false_eq_true,if_false];constructor
     ·intro h;have aA:¬ mI o j:=λhh=>by rw [a3.2 hh] at h;cases h
      exact ⟨j,by omega,hy,aA⟩
     ·rintro ⟨r,a,h,a0⟩;rcases Int.lt_or_eq_of_le (show r<=j by omega) with N | N
      ·have:=W.2 ⟨r,N,h,a0⟩;cases this
      ·subst N;cases w with
       | false=>rfl
       | true=>exact absurd (a3.1 rfl) a0) with ⟨⟨H,mo⟩,h,g1,⟨o',g2,g3,g4⟩,g5,W⟩ | ⟨e,_,h⟩
 ·have a2:∀ r,mI nd r->r<(0:Int)+(((R:Int) - 0).toNat:Int):=λr h=>by
   have N:=qs.1 h;have:=(lgE.1 N.2).1;omega
  refine ⟨H,mo,o',h,g1,g2,g3,λr=>?_,g5,?_⟩
  ·rw [g4];exact ⟨λh=>h.imp id And.right,λh=>h.imp id λh=>⟨a2 r h,h⟩⟩
  ·rw [W];exact ⟨λ⟨r,_,h⟩=>⟨r,h⟩,λ⟨r,h⟩=>⟨r,a2 r h.1,h⟩⟩
 ·exact h.elim
theorem cq6 {u:kU} {k:Int} {c:jv} (hc:COk u k c) (N:∀ x∈c.b,x.a.length<=1048576) {ins outs:List (List Bool)} (hi:∀ n y,jr c.b n=some y->∃ l:List Bool,jr ins n=some l/\(l.length:Int)=c.r) {b n:Int} {x:jq} (hb:jr c.b b=some x) (hn:n∈x.n)
  {o:List Bool} (ho:jr outs b=some o) (M:(o.length:Int)=c.r) :
  ∃ e more o',nL c ⟨ins,outs⟩ b n=some (more,e)/\e.length=outs.length/\jr e b=some o'/\o'.length=o.length/\(∀ r,mI o' r↔(mI o r\/wm c (lz ins) b n r))/\(∀ q,q≠b->jr e q=jr outs q)/\(more=true↔∃ r,wm c (lz ins) b n r/\¬ mI o r):=by
 have hnb:=hc.nb;have K:=hc.r;have hnx:=(hc.bok hb).next n hn;obtain ⟨y,L,_,a0⟩:=kV (xs:=c.b) (j:=n) (by omega) (by omega);obtain ⟨l,hl,_⟩:=hi n y L;have a2:=jx (i:=0) (yg hb hn);have a1:=hc.bok L
 obtain ⟨nd,h1,h2,W⟩:=ck1 L (N y a0) (at':=idx b (kH c n) 0) l (λf hf=>by
  have O:=a1.a f hf;have W:=yi (l:=f.A) (i:=idx b (kH c n) 0) (by omega) (by omega);have:=O.2.2.2 _ (List.mem_of_getElem? (jz.1 W).2)
  exact ⟨by omega,by omega,by omega⟩)
 have H:∀ r,mI nd r↔wm c (lz ins) b n r:=λr=>by
  rw [W];unfold wm lz;rw [l0 L,hl];constructor
  ·rintro (h | h)
   ·exact .inr h
   ·exact .inl ⟨l,rfl,h⟩
  ·rintro (⟨l',h,h2⟩ | h)
   ·cases h;exact .inr h2
   ·exact .inl h
 obtain ⟨e,more,o',g1,g2,g3,g4,g5,g6,g7⟩:=cu2 (nd:=nd) (outs:=outs) (b:=b) K.1 (by omega) ho M;refine ⟨e,more,o',?_,g2,g3,g4,λr=>by rw [g5,H],g6,by simp only [g7,H]⟩;unfold nL;dsimp only
 rw [hl,obS,ka (by simp;omega),obS,List.nil_append,rC c n (by omega) (λz hz=>by
  obtain ⟨q,hq⟩:=List.getElem?_of_mem hz;have:=(hc.bok (b:=(q:Int)) (x:=z) (jz.2 ⟨by omega,by simpa using hq⟩)).j
  omega),obS,av6,obS]
 refine kN (kN h1 rfl) ?_;rw [show tv c.r=some () by rw [tv,if_pos (by omega)],obS];exact kN g1 rfl
end Unt
end Go.Wk
namespace Go.Wk
open Go
namespace Unt
set_option maxRecDepth 10000
theorem cc5 {c:jv} {b:Int} {x:jq} (hx:jr c.b b=some x) (hl:x.a.length<=1048576) (K:List Bool) (ha:∀ f∈x.a,0<=f.to/\f.to<(K.length:Int)) :
  ∃ m:List Bool,kx (λ(H:(List Bool) × Int)=>((jr c.b ((),(),(),b).2.2.2).bind λN=>if decide (H.2<((N.a.length:Int))) then (jr N.a H.2).bind λM=>(jr H.1 M.to).bind λuG=>some (.inl ((H.1.set (M.to).toNat false),w64 (H.2+1))) else some (.inr H.1):Option (((List Bool) × Int) ⊕ ((List Bool))))) (K,0)=some m/\m.length=K.length/\∀ r,mI m r↔(mI K r/\¬ ∃ f∈x.a,f.to=r):=by
 refine lp (b1:=(λ(H:(List Bool) × Int)=>((jr c.b ((),(),(),b).2.2.2).bind λN=>if decide (H.2<((N.a.length:Int))) then (jr N.a H.2).bind λM=>(jr H.1 M.to).bind λuG=>some (.inl ((H.1.set (M.to).toNat false),w64 (H.2+1))) else some (.inr H.1):Option (((List Bool) × Int) ⊕ ((List Bool)))))) (λs:List Bool × Int=>(0<=s.2/\s.2<=(x.a.length:Int))/\s.1.length=K.length/\∀ r,mI s.1 r↔(mI K r/\¬ ∃ f∈x.a.take s.2.toNat,f.to=r)) (λm:List Bool=>m.length=K.length/\∀ r,mI m r↔(mI K r/\¬ ∃ f∈x.a,f.to=r)) (λs=>((x.a.length:Int) - s.2).toNat) (λs hs=>?_) (x.a.length+1) (K,0) ⟨⟨by dsimp only;omega,by dsimp only;omega⟩,rfl,λr=>by simp⟩ (by dsimp only;omega);obtain ⟨m,q⟩:=s;obtain ⟨⟨g1,g2⟩,gl,g3⟩:=hs;dsimp only at g1 g2 gl g3 ⊢;rw [hx,obS];by_cases hq:q<(x.a.length:Int)
 ·left;obtain ⟨f,hf,a0,hm⟩:=kV (xs:=x.a) g1 hq;have L:=ha f hm;obtain ⟨z,hz,_⟩:=kV (xs:=m) (j:=f.to) L.1 (by rw [gl];exact L.2);refine ⟨(m.set f.to.toNat false,q+1),?_,⟨⟨by dsimp only;omega,by dsimp only;omega⟩,by simpa using gl,λr=>?_⟩,by dsimp only;omega⟩
  ·rw [if_pos (by simpa using hq),hf,obS,hz,obS,kv (by omega) (by omega)]
  ·dsimp only;rw [vl L.1 (by rw [gl];exact L.2),g3,show (q+1).toNat=q.toNat+1 by omega,List.take_add_one,a0];simp only [Option.toList_some,List.mem_append,List.mem_singleton];by_cases e:r=f.to
   ·simp only [e,if_true,Bool.false_eq_true,false_iff,not_and,Classical.not_not];exact λ_=>⟨f,.inr rfl,rfl⟩
   ·rw [if_neg e];constructor
    ·rintro ⟨h1,W⟩;refine ⟨h1,?_⟩;rintro ⟨g,h | h,O⟩
     ·exact W ⟨g,h,O⟩
     ·subst h;exact e O.symm
    ·rintro ⟨h1,W⟩;exact ⟨h1,λ⟨g,h,O⟩=>W ⟨g,.inl h,O⟩⟩
 ·right;refine ⟨m,by rw [if_neg (by simpa using hq)],gl,λr=>?_⟩;rw [g3,List.take_of_length_le (by omega)]
theorem cu4 {ins:List (List Bool)} {b R:Int} {K H:List Bool} (hR:0<=R) (hold:jr ins b=some H) (h1:(K.length:Int)=R) (h2:(H.length:Int)=R) (ag:Bool) :
  ∃ W,kO (λ(M:Int) (uD:Bool)=>((if uD then some true else (jr K M).bind λuE=>(jr (ins,(),(),b).1 (ins,(),(),b).2.2.2).bind λuG=>(jr uG M).bind λuH=>some (decide (uE≠uH)):Option (Bool)).bind λuI=>some (.inl uI):Option ((Bool) ⊕ (Empty)))) ((R:Int) - 0).toNat 0 ag=some (.inl W)/\(W=true↔(ag=true\/K≠H)):=by
 rcases np (body:=(λ(M:Int) (uD:Bool)=>((if uD then some true else (jr K M).bind λuE=>(jr (ins,(),(),b).1 (ins,(),(),b).2.2.2).bind λuG=>(jr uG M).bind λuH=>some (decide (uE≠uH)):Option (Bool)).bind λuI=>some (.inl uI):Option ((Bool) ⊕ (Empty))))) (k:=((R:Int) - 0).toNat) (i:=0) (s:=ag) (λj a=>(a=true↔(ag=true\/∃ q:Nat,(q:Int)<j/\K[q]?≠H[q]?))) (λ_=>False) ⟨.inl,λh=>h.elim id λ⟨q,hq,_⟩=>by omega⟩ (λj a g1 _ hI=>by
  obtain ⟨v,hv,O,_⟩:=kV (xs:=K) (j:=j) g1 (by omega);obtain ⟨w,hw,N,_⟩:=kV (xs:=H) (j:=j) g1 (by omega);left;refine ⟨if a then true else decide (v≠w),?_,?_⟩
  ·dsimp only;cases a
   ·simp [hv,hold,hw]
   ·simp
  ·cases a with
   | true =>
    simp only [if_true,true_iff];rcases hI.1 rfl with h | ⟨q,hq,h⟩
    ·exact .inl h
    ·exact .inr ⟨q,by omega,h⟩
   | false =>
    simp only [Bool.false_eq_true,if_false,decide_eq_true_eq];have L:¬ (ag=true\/∃ q:Nat,(q:Int)<j/\K[q]?≠H[q]?):=λh=>by have:=hI.2 h;cases this
    constructor
    ·intro h;refine .inr ⟨j.toNat,by omega,?_⟩;rw [O,N];simpa using h
    ·rintro (h | ⟨q,hq,h⟩)
     ·exact absurd (.inl h) L
     ·by_cases e:(q:Int)<j
      ·exact absurd (.inr ⟨q,e,h⟩) L
      ·have : q = j.toNat := by omega
       subst this;rw [O,N] at h
       simpa using h) with ⟨a,h,h3⟩ | ⟨e,_,h⟩
 ·refine ⟨a,h,?_⟩;rw [h3];constructor
  ·rintro (h | ⟨q,_,h⟩)
   ·exact .inl h
   ·exact .inr λe=>h (by rw [e])
  ·rintro (h | h)
   ·exact .inl h
   ·refine .inr (Classical.byContradiction λhc=>h (List.ext_getElem? λq=>?_));by_cases hq:(q:Int)<R
    ·exact Classical.byContradiction λa0=>hc ⟨q,by omega,a0⟩
    ·rw [List.getElem?_eq_none (by omega),List.getElem?_eq_none (by omega)]
 ·exact h.elim
end Unt
end Go.Wk
namespace Go.Wk
open Go
namespace Unt
set_option maxRecDepth 10000
def inO (c:jv) (O:Int->Int->Prop) (b r:Int):Prop:=al6 (kX c b) (O b) (-1) r/\¬ ∃ f∈(kX c b).a,f.to=r
theorem wv {c:jv} {O P:Int->Int->Prop} {b:Int} (h:∀ r,O b r->P b r) {r:Int} (e:inO c O b r):inO c P b r :=
 ⟨ah7 (λr hr=>hr.imp (h r) id) r e.1,e.2⟩
theorem bc5 {c:jv} {I:Int->Int->Prop} {b r:Int}:inF c I b r↔inO c (qk c I) b r:=Iff.rfl
theorem aq5 {xs:List (List Bool)} {b:Int} {o o':List Bool} (h:jr xs b=some o) (n r:Int):lz (xs.set b.toNat o') n r↔(if n=b then mI o' r else lz xs n r):=by
 obtain ⟨h0,N⟩:=jz.1 h;have M:=(lgE.1 N).1;unfold lz;by_cases e:n=b
 ·subst e;rw [if_pos rfl];have:jr (xs.set n.toNat o') n=some o':=jz.2 ⟨h0,by rw [List.getElem?_set_self M]⟩;rw [this];simp
 ·rw [if_neg e];constructor
  ·rintro ⟨q,L,hr⟩;obtain ⟨H,K⟩:=jz.1 L;rw [List.getElem?_set_ne (ay6 h0 H e)] at K;exact ⟨q,jz.2 ⟨H,K⟩,hr⟩
  ·rintro ⟨q,L,hr⟩;obtain ⟨H,K⟩:=jz.1 L;exact ⟨q,jz.2 ⟨H,by rw [List.getElem?_set_ne (ay6 h0 H e)];exact K⟩,hr⟩
theorem rS {xs:List (List Bool)} {b:Int} {o:List Bool} (h:jr xs b=some o) (r:Int):lz xs b r↔mI o r:=by
 unfold lz;rw [h];simp
structure tz (c:jv) (ins outs:List (List Bool)):Prop where
 li:ins.length=c.b.length
 lo:outs.length=c.b.length
 ri:∀ b l,jr ins b=some l->(l.length:Int)=c.r
 ro:∀ b l,jr outs b=some l->(l.length:Int)=c.r
 upI:∀ b r,lz ins b r->inO c (lz outs) b r
 upO:∀ b r,lz outs b r->qk c (lz ins) b r
 least:∀ J:Int->Int->Prop,(∀ b r,0<=b->b<(c.b.length:Int)->inF c J b r->J b r)->∀ b r,lz ins b r->J b r
theorem tz.growO {c:jv} {ins outs:List (List Bool)} (K:tz c ins outs) {b n:Int} {x:jq} (hb:jr c.b b=some x) (hn:n∈x.n) {H:List (List Bool)} {o o':List Bool} (M:jr outs b=some o) (h1:H.length=outs.length) (N:jr H b=some o') (h3:o'.length=o.length)
  (h4:∀ r,mI o' r↔(mI o r\/wm c (lz ins) b n r)) (W:∀ q,q≠b->jr H q=jr outs q):tz c ins H:=by
 have O:∀ q r,lz outs q r->lz H q r:=λq r h=>by
  by_cases e:q=b
  ·subst e;rw [rS N,h4];exact .inl ((rS M r).1 h)
  ·unfold lz;rw [W q e];exact h
 refine ⟨K.li,h1.trans K.lo,K.ri,λq l L=>?_,λq r h=>wv (O q) (K.upI q r h),λq r h=>?_,K.least⟩
 ·by_cases e:q=b
  ·subst e;rw [N] at L;cases L;rw [h3];exact K.ro q o M
  ·rw [W q e] at L;exact K.ro q l L
 ·by_cases e:q=b
  ·subst e;rw [rS N,h4] at h;rcases h with h | h
   ·exact K.upO q r ((rS M r).2 h)
   ·exact ⟨n,by rw [l0 hb];exact hn,h⟩
  ·refine K.upO q r ?_;unfold lz at h ⊢;rw [W q e] at h;exact h
theorem tz.growI {c:jv} {ins outs:List (List Bool)} (H:tz c ins outs) {b:Int} {x:jq} (hb:jr c.b b=some x) {W M:List Bool} (K:jr ins b=some W) (hl:(M.length:Int)=c.r) (hn:∀ r,mI M r↔inO c (lz outs) b r):tz c (ins.set b.toNat M) outs:=by
 have a1:∀ q r,lz ins q r->lz (ins.set b.toNat M) q r:=λq r h=>by
  rw [aq5 K];by_cases e:q=b
  ·rw [if_pos e,hn];subst e;exact H.upI q r h
  ·rw [if_neg e];exact h
 obtain ⟨N,a0⟩:=jz.1 hb;have a2:=(lgE.1 a0).1;refine ⟨by simpa using H.li,H.lo,λq l hq=>?_,H.ro,λq r h=>?_,λq r h=>aq4 a1 (H.upO q r h),λJ hJ q r h=>?_⟩
 ·obtain ⟨g0,L⟩:=jz.1 hq;by_cases e:q=b
  ·subst e;have O:=(lgE.1 (jz.1 K).2).1;rw [List.getElem?_set_self O] at L;cases L;exact hl
  ·rw [List.getElem?_set_ne (ay6 N g0 e)] at L;exact H.ri q l (jz.2 ⟨g0,L⟩)
 ·rw [aq5 K] at h;by_cases e:q=b
  ·rw [if_pos e,hn] at h;subst e;exact h
  ·rw [if_neg e] at h;exact H.upI q r h
 ·rw [aq5 K] at h;by_cases e:q=b
  ·rw [if_pos e,hn] at h;subst e;exact hJ q r (by omega) (by omega) (zt (H.least J hJ) (bc5.2 (wv (H.upO q) h)))
  ·rw [if_neg e] at h;exact H.least J hJ q r h
end Unt
end Go.Wk
namespace Go.Wk
open Go
namespace Unt
set_option maxRecDepth 10000
def nT (xs:List (List Bool)):Nat:=(xs.map λl=>l.count true).sum
theorem am1:∀ {xs:List (List Bool)} {i:Nat} {o o':List Bool},xs[i]?=some o->nT (xs.set i o')+o.count true=nT xs+o'.count true
 | [],i,o,o',h=>by simp at h
 | x::l,0,o,o',h=>by
  simp at h;subst h;simp [nT];omega
 | x::l,i+1,o,o',h=>by
  have:=am1 (xs:=l) (o':=o') (show l[i]?=some o by simpa using h);simp [nT] at this ⊢;omega
theorem cl6 {xs:List (List Bool)} {n:Nat} (h:∀ m∈xs,m.length<=n):nT xs<=xs.length*n:=by
 induction xs with
 | nil=>simp [nT]
 | cons m l e =>
  have H:=e λx K=>h x (List.mem_cons_of_mem _ K)
  have L:=h m (List.mem_cons_self ..);have M:m.count true<=m.length:=List.count_le_length;simp [nT] at H ⊢;rw [Nat.add_mul];omega
theorem ce6:∀ {o o':List Bool},o'.length=o.length->(∀ j:Nat,o[j]?=some true->o'[j]?=some true)->o.count true<=o'.count true/\∀ j:Nat,o'[j]?=some true->o[j]?≠some true->o.count true<o'.count true
 | [],o',hl,_=>by
  have:o'=[]:=List.length_eq_zero_iff.1 hl;subst this;exact ⟨Nat.le_refl _,λj h=>by simp at h⟩
 | x::o,[],hl,_=>by simp at hl
 | x::o,y::o',hl,h=>by
  have L:=ce6 (o:=o) (o':=o') (by simpa using hl) λj K=>by simpa using h (j+1) (by simpa using K)
  have h0:x=true->y=true:=λe=>by have:=h 0 (by simp [e]);simpa using this
  refine ⟨?_,λj K H=>?_⟩
  ·cases x<;>cases y<;>simp [List.count_cons] at h0 ⊢<;>omega
  ·cases j with
   | zero =>
    have M:y=true:=by simpa using K
    have N:x=false:=by cases x<;>simp at H ⊢
    subst M;subst N;simp [List.count_cons];omega
   | succ j =>
    have:=L.2 j (by simpa using K) (by simpa using H);cases x<;>cases y<;>simp [List.count_cons] at h0 ⊢<;>omega
theorem zk {o:List Bool} {j:Nat}:o[j]?=some true↔mI o (j:Int):=by rw [qs];simp
theorem bh3 {o o':List Bool} (L:o'.length=o.length) (h:∀ r,mI o r->mI o' r):o.count true<=o'.count true/\∀ r,mI o' r->¬ mI o r->o.count true<o'.count true:=by
 have:=ce6 L λj K=>zk.2 (h _ (zk.1 K))
 refine ⟨this.1,λr H M=>this.2 r.toNat ?_ ?_⟩
 ·exact (qs.1 H).2
 ·intro e;exact M (qs.2 ⟨(qs.1 H).1,e⟩)
theorem cm0 {xs ys:List (List Bool)} {b:Int} {o':List Bool} {o:List Bool} (K:jr xs b=some o) (O:ys.length=xs.length) (L:jr ys b=some o') (N:∀ q,q≠b->jr ys q=jr xs q):ys=xs.set b.toNat o':=by
 obtain ⟨h0,M⟩:=jz.1 K;have H:=(lgE.1 M).1;apply List.ext_getElem?;intro j;by_cases e:j=b.toNat
 ·subst e;rw [List.getElem?_set_self H,(jz.1 L).2]
 ·rw [List.getElem?_set_ne (Ne.symm e)];have:=N (j:Int) (by omega);unfold jr at this;simpa using this
theorem ch7 {u:kU} {k:Int} {c:jv} (hc:COk u k c) (a6:∀ x∈c.b,x.a.length<=1048576) {ins outs:List (List Bool)} (hI:tz c ins outs) {b:Int} {x:jq} (N:jr c.b b=some x) (L:Bool) :
  ∃ q:List (List Bool) × Bool,kx (λ(e:(List (List Bool)) × Bool × Int)=>((jr c.b (ins,(),(),b).2.2.2).bind λuE=>if decide (e.2.2<((uE.n.length:Int))) then ((jr uE.n e.2.2).bind λuH=>(nL c (⟨(ins,(),(),b).1,e.1⟩:n4) (ins,(),(),b).2.2.2 uH).bind λM=>if M.1 then some (M.2,true) else some (M.2,e.2.1):Option ((List (List Bool)) × Bool)).bind λuG=>some (.inl (uG.1,uG.2,w64 (e.2.2+1))) else some (.inr (e.1,e.2.1)):Option (((List (List Bool)) × Bool × Int) ⊕ ((List (List Bool)) × Bool)))) (outs,L,0)=some q/\tz c ins q.1/\nT outs<=nT q.1/\(q.2=true->L=true\/nT outs<nT q.1)/\(L=true->q.2=true)/\(∀ p,p≠b->jr q.1 p=jr outs p)/\∀ r,qk c (lz ins) b r->lz q.1 b r:=by
 have a7:=hc.bok N
 refine lp (b1 := (fun (e : (List (List Bool)) × Bool × Int) => ((jr c.b (ins,(),(),b).2.2.2).bind fun uE => if decide (e.2.2 < ((uE.n.length : Int))) then ((jr uE.n e.2.2).bind fun uH => (nL c (⟨(ins,(),(),b).1, e.1⟩ : n4) (ins,(),(),b).2.2.2 uH).bind fun M => if M.1 then some (M.2, true) else some (M.2, e.2.1) : Option ((List (List Bool)) × Bool)).bind fun uG => some (.inl (uG.1, uG.2, w64 (e.2.2 + 1))) else some (.inr (e.1, e.2.1)) : Option (((List (List Bool)) × Bool × Int) ⊕ ((List (List Bool)) × Bool))))) (fun s : List (List Bool) × Bool × Int => (0 <= s.2.2 /\ s.2.2 <= (x.n.length : Int)) /\ tz c ins s.1 /\ nT outs <= nT s.1 /\ (s.2.1 = true -> L = true \/ nT outs < nT s.1) /\ (L = true -> s.2.1 = true) /\ (∀ p, p ≠ b -> jr s.1 p = jr outs p) /\ ∀ n ∈ x.n.take s.2.2.toNat, ∀ r, wm c (lz ins) b n r -> lz s.1 b r)
  (λq:List (List Bool) × Bool=>tz c ins q.1/\nT outs<=nT q.1/\(q.2=true->L=true\/nT outs<nT q.1)/\(L=true->q.2=true)/\(∀ p,p≠b->jr q.1 p=jr outs p)/\∀ r,qk c (lz ins) b r->lz q.1 b r) (λs=>((x.n.length:Int) - s.2.2).toNat) (λs hs=>?_) (x.n.length+1) (outs,L,0)
  ⟨⟨by dsimp only;omega,by dsimp only;omega⟩,hI,Nat.le_refl _,.inl,id,λ_ _=>rfl,λn W=>by simp at W⟩ (by dsimp only;omega)
 obtain ⟨o1,a1,q⟩:=s;obtain ⟨⟨g1,g2⟩,g3,g4,g5,g6,g7,g8⟩:=hs;dsimp only at g1 g2 g3 g4 g5 g6 g7 g8 ⊢;rw [N,obS];by_cases hq:q<(x.n.length:Int)
 ·left;obtain ⟨n,W,a9,hm⟩:=kV (xs:=x.n) g1 hq;obtain ⟨a8,a4⟩:=jz.1 N;have aA:=(lgE.1 a4).1;obtain ⟨o,O,_⟩:=kV (xs:=o1) (j:=b) a8 (by rw [g3.lo];omega)
  obtain ⟨o2,more,o',f1,f2,f3,f4,f5,f6,f7⟩:=cq6 hc a6 (ins:=ins) (outs:=o1) (λn y hy=>by
   obtain ⟨e0,e1⟩:=jz.1 hy;have hl:=(lgE.1 e1).1;obtain ⟨l,a2,_⟩:=kV (xs:=ins) (j:=n) e0 (by rw [hI.li];omega)
   exact ⟨l,a2,hI.ri n l a2⟩) N hm O (g3.ro b o O)
  have K:=bh3 f4 (λr h=>(f5 r).2 (.inl h));have a3:=cm0 O f2 f3 f6;have a0:=am1 (o':=o') (jz.1 O).2;rw [<- a3] at a0
  have a5:more=true->nT o1<nT o2:=λh=>by
   obtain ⟨r,h1,h2⟩:=f7.1 h;have:=K.2 r ((f5 r).2 (.inr h1)) h2;omega
  have aB:=K.1;refine ⟨(o2,if more then true else a1,q+1),?_,⟨⟨by dsimp only;omega,by dsimp only;omega⟩,g3.growO N hm O f2 f3 f4 f5 f6,by dsimp only;omega,λh=>?_,λh=>?_,λp hp=>(f6 p hp).trans (g7 p hp),λn' H r hr=>?_⟩,by dsimp only;omega⟩
  ·rw [if_pos (by simpa using hq), W, obS, f1, obS];have hx:=a7.j;cases more
   ·simp;rw [kv (by omega) (by omega)]
   ·simp;rw [kv (by omega) (by omega)]
  ·dsimp only at h ⊢;cases more with
   | true=>have:=a5 rfl;exact .inr (by omega)
   | false=>exact (g5 (by simpa using h)).imp id λh=>by omega
  ·dsimp only;rw [g6 h];cases more<;>rfl
  ·dsimp only at H ⊢;rw [show (q+1).toNat=q.toNat+1 by omega,List.take_add_one,a9] at H;simp only [Option.toList_some,List.mem_append,List.mem_singleton] at H;rw [rS f3,f5];rcases H with h | h
   ·exact .inl ((rS O r).1 (g8 n' h r hr))
   ·subst h;exact .inr hr
 ·right;refine ⟨(o1,a1),by rw [if_neg (by simpa using hq)],g3,g4,g5,g6,g7,λr hr=>?_⟩;obtain ⟨n,W,h⟩:=hr;rw [l0 N] at W;exact g8 n (by rw [List.take_of_length_le (by omega)];exact W) r h
end Unt
end Go.Wk
namespace Go.Wk
open Go
namespace Unt
set_option maxRecDepth 10000
theorem ck7 {o o':List Bool} (K:o'.length=o.length) (h:∀ r,mI o' r↔mI o r):o'=o:=by
 apply List.ext_getElem?;intro j;by_cases H:j<o.length
 ·have e:=h (j:Int);rw [<- zk,<- zk] at e;rw [List.getElem?_eq_getElem H,List.getElem?_eq_getElem (by omega)] at e ⊢;simp only [osI] at e ⊢;exact Bool.eq_iff_iff.2 e
 ·rw [List.getElem?_eq_none (by omega),List.getElem?_eq_none (by omega)]
theorem bk7 {x:jq} {S T:Int->Prop} (h:∀ r,S r↔T r) (i r:Int):al6 x S i r↔al6 x T i r :=
 ch6 (λr=>by unfold ac0;rw [h]) r
def tH (c:jv) (ins outs:List (List Bool)) (b:Int):Prop:=(∀ r,qk c (lz ins) b r->lz outs b r)/\∀ r,inO c (lz outs) b r->lz ins b r
theorem ce2 {u:kU} {k:Int} {c:jv} (hc:COk u k c) (hs:∀ x∈c.b,x.a.length<=1048576/\x.i.length<=1048576) {ins outs:List (List Bool)} (hI:tz c ins outs) (ag:Bool) {b:Int} (h0:0<=b) (h1:b<(c.b.length:Int)) :
  ∃ H e N, (fun (K : (List (List Bool)) × (List (List Bool)) × Bool × Int) => (if decide (0 <= K.2.2.2) then ((kx (S := (List (List Bool)) × Bool × Int) (X := (List (List Bool)) × Bool) (fun uD => (jr c.b K.2.2.2).bind fun uI => if decide (uD.2.2 < ((uI.n.length : Int))) then ((jr uI.n uD.2.2).bind fun uQ => (nL c (⟨K.1, uD.1⟩ : n4) K.2.2.2 uQ).bind fun uG => if uG.1 then some (uG.2, true) else some (uG.2, uD.2.1) : Option ((List (List Bool)) × Bool)).bind fun uJ => some (.inl (uJ.1, uJ.2, w64 (uD.2.2 + 1))) else some (.inr (uD.1, uD.2.1))) (K.2.1, K.2.2.1, 0)).bind (fun e0 => some e0) : Option ((List (List Bool)) × Bool)).bind fun uH => (nJ c (⟨K.1, uH.1⟩ : n4) K.2.2.2 (-1)).bind fun uR => ((kx (S := (List Bool) × Int) (X := (List Bool)) (fun uE => (jr c.b K.2.2.2).bind fun uL => if decide (uE.2 < ((uL.a.length : Int))) then (jr uL.a uE.2).bind fun uN => (jr uE.1 uN.to).bind fun _ => some (.inl ((uE.1.set (uN.to).toNat false), w64 (uE.2 + 1))) else some (.inr uE.1)) (uR, 0)).bind (fun e0 => some e0) : Option ((List Bool))).bind fun uO => (tv c.r).bind fun _ => (kO (S := Bool) (X := Empty) (fun uP uS => (if uS then some true else (jr uO uP).bind fun uU => (jr K.1 K.2.2.2).bind fun uV => (jr uV uP).bind fun uW => some (decide (uU ≠ uW)) : Option (Bool)).bind fun uX => some (.inl uX)) ((c.r : Int) - 0).toNat 0 uH.2).bind (Sum.elim (fun uY => (jr K.1 K.2.2.2).bind fun _ => some (.inl ((K.1.set (K.2.2.2).toNat uO), uH.1, uY, w64 (K.2.2.2 - 1)))) (fun (e0 : Empty) => nomatch e0)) else some (.inr (K.1, K.2.1, K.2.2.1)) : Option (((List (List Bool)) × (List (List Bool)) × Bool × Int) ⊕ ((List (List Bool)) × (List (List Bool)) × Bool)))) (ins, outs, ag, b) = some (.inl (H, e, N, b - 1)) /\ tz c H e /\ nT ins + nT outs <= nT H + nT e /\ (N = true -> ag = true \/ nT ins + nT outs < nT H + nT e) /\ (ag = true -> N = true) /\
   (N=false->H=ins/\(∀ p,p≠b->jr e p=jr outs p)/\tH c H e b):=by
 have hnb:=hc.nb;have a3:=hc.r;obtain ⟨x,W,_,a8⟩:=kV (xs:=c.b) h0 h1;obtain ⟨⟨o1,a1⟩,f1,f2,f3,f4,f5,f6,f7⟩:=ch7 hc (λx W=>(hs x W).1) hI W ag;dsimp only at f2 f3 f4 f5 f6 f7;obtain ⟨o,ho,_⟩:=kV (xs:=o1) (j:=b) h0 (by rw [f2.lo];exact h1);obtain ⟨L,hold,_⟩:=kV (xs:=ins) (j:=b) h0 (by rw [f2.li];exact h1);have aA:=f2.ro b o ho;obtain ⟨l,e1,_,e3⟩:=bn3 hc (ins:=ins) W (hs x a8).2 ho aA (i:=-1) (by omega) (.inr rfl);obtain ⟨M,g1,_,g3⟩:=cc5 W (hs x a8).1 l (λf hf=>by have:=((hc.bok W).a f hf).2.1;omega);have hnl:(M.length:Int)=c.r:=by omega
 have a4:∀ r,mI M r↔inO c (lz o1) b r:=λr=>by
  rw [g3,e3];unfold inO;rw [l0 W,bk7 (S:=lz o1 b) (T:=mI o) (rS ho)]
 obtain ⟨a2,q1,q2⟩:=cu4 (ins:=ins) a3.1 hold hnl (f2.ri b L hold) a1;have a0:∀ r,mI L r->mI M r:=λr hr=>(a4 r).2 (f2.upI b r ((rS hold r).2 hr))
 have a6:M.length=L.length:=by have:=f2.ri b L hold;omega
 have O:=bh3 a6 a0;have aC:=am1 (o':=M) (jz.1 hold).2;have aD:=O.1;refine ⟨ins.set b.toNat M,o1,a2,?_,f2.growI W hold hnl a4,by omega,λh=>?_,λh=>q2.2 (.inl (f5 h)),λh=>?_⟩
 ·dsimp only;rw [if_pos (by simpa using h0)];refine kN (kN f1 rfl) ?_;dsimp only;rw [e1,obS];refine kN (kN g1 rfl) ?_;rw [show tv c.r=some () by rw [tv,if_pos (by omega)],obS];refine kN q1 ?_;rw [Sum.elim_inl,hold,obS,kv (by omega) (by omega)]
 ·rcases q2.1 h with h | h
  ·exact (f4 h).imp id λh=>by omega
  ·have:∃ r,mI M r/\¬ mI L r:=Classical.byContradiction λhc=>h (ck7 a6 λr=>⟨λhr=>Classical.byContradiction λhn=>hc ⟨r,hr,hn⟩,a0 r⟩)
   obtain ⟨r,aB,a9⟩:=this;have:=O.2 r aB a9;exact .inr (by omega)
 ·have a5 : M = L := Classical.byContradiction fun hc => by rw [q2.2 (.inr hc)] at h; cases h
  have a7:ins.set b.toNat M=ins:=by rw [a5];exact sI (jz.1 hold).2
  rw [a7];refine ⟨rfl,f6,f7,λr hr=>(rS hold r).2 ?_⟩;rw [<- a5];exact (a4 r).2 hr
end Unt
end Go.Wk
