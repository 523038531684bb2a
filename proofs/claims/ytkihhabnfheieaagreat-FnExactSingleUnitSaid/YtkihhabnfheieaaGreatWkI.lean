/- A part of a proof: general laws of walks, no statement of the seat. -/
import Derived.Test.YtkihhabnfheieaaGreatWkA
import Derived.Laws.Strings
import Derived.Laws.Pointers
namespace Go.Wk
open Go Go.RowKit
def cu0 (i j:Int):Int:=IntKind.i64.wrap ((BitVec.ofInt 64 i &&& BitVec.ofInt 64 j).toNat:Int)
def orI (i j:Int):Int:=IntKind.i64.wrap ((BitVec.ofInt 64 i ||| BitVec.ofInt 64 j).toNat:Int)
section
variable {P:Program} {l:Env} {w:World} {o:Oper} {x y:Operand} {t t' s:TypeId} {k k':IntKind} {i j:Int} {b c:UInt8}
theorem bn4 {d:TypeDesc} (hs:P.underlying s=some d) (H:P.underlying t=some (.int k)) (N:o.op=.convert s t x) (M:ev l x=some (.int k' i)):Yl P l w o (.int k (k.wrap i)):=λn a K=>by
 simp [execOp,N,K.eval M,convert,run_underlying hs,run_underlying H,Conv.intToInt]
theorem dc1 (M:o.op=.binOp .and t x y t') (N:ev l x=some (.int .i64 i)) (K:ev l y=some (.int .i64 j)):Yl P l w o (.int .i64 (cu0 i j)):=λn a H=>by
 simp [execOp,M,H.eval N,H.eval K,binOp,eqGuard,Op.intBits,cu0];rfl
theorem dc8 (M:o.op=.binOp .or t x y t') (N:ev l x=some (.int .i64 i)) (K:ev l y=some (.int .i64 j)):Yl P l w o (.int .i64 (orI i j)):=λn a H=>by
 simp [execOp,M,H.eval N,H.eval K,binOp,eqGuard,Op.intBits,orI];rfl
theorem ba6 (b:ByteArray):b.toList=b.data.toList:=ByteArray.toList_eq b
theorem tu {p q:Str} (M:o.op=.binOp .eql t x y t') (N:ev l x=some (.string ⟨p.b.toArray⟩)) (K:ev l y=some (.string ⟨q.b.toArray⟩)):Yl P l w o (.bool (decide (p=q))):=λn a H=>by
 have e:(p.b == q.b)=decide (p=q):=by
  by_cases h:p=q
  ·simp [h]
  ·have:p.b≠q.b:=λh'=>h (Str.ext' h')
   simp [h,this]
 simp [execOp,M,H.eval N,H.eval K,binOp,eqGuard,Op.stringOp,ba6,e]
theorem ak3 {p q:Bool} (H:P.underlying t=some .bool):(Op.equal t (.bool p) (.bool q)).run P w=.ok (p == q) w:=by
 unfold Op.equal;rw [show Op.maxDepth=9999+1 from rfl];unfold Op.equalIn;rw [Sem.run_bind,run_underlying H];rfl
theorem ct5 {p q:Bool} (N:P.underlying t=some .bool) (K:o.op=.binOp .eql t x y t') (O:ev l x=some (.bool p)) (M:ev l y=some (.bool q)):Yl P l w o (.bool (decide (p=q))):=λn a H=>by
 simp only [execOp,K,H.eval O,H.eval M,binOp,eqGuard];simp [ak3 N];cases p<;>cases q<;>rfl
theorem ao5 {p q:Bool} (N:P.underlying t=some .bool) (K:o.op=.binOp .neq t x y t') (O:ev l x=some (.bool p)) (M:ev l y=some (.bool q)):Yl P l w o (.bool (decide (p≠q))):=λn a H=>by
 simp only [execOp,K,H.eval O,H.eval M,binOp,eqGuard];simp [ak3 N];cases p<;>cases q<;>rfl
theorem ar3 (K:o.op=.binOp .shr t x y t') (N:ev l x=some (.int k i)) (M:ev l y=some (.int k' j)) (O:0<=j):Yl P l w o (.int k (i.fdiv (2 ^ (min j.toNat k.bits)))):=λn a H=>by
 have:¬ j<0:=by omega
 simp [execOp,K,H.eval N,H.eval M,binOp,eqGuard,Op.shift,this]
def si (k:IntKind) (f:BitVec k.bits->BitVec k.bits->BitVec k.bits) (i j:Int):Int:=k.wrap ((f (BitVec.ofInt k.bits i) (BitVec.ofInt k.bits j)).toNat:Int)
theorem cy0 (M:o.op=.binOp .and t x y t') (N:ev l x=some (.int k i)) (K:ev l y=some (.int k j)):Yl P l w o (.int k (si k (· &&& ·) i j)):=λn a H=>by
 simp [execOp,M,H.eval N,H.eval K,binOp,eqGuard,Op.intBits,si]
theorem db8 (M:o.op=.binOp .or t x y t') (N:ev l x=some (.int k i)) (K:ev l y=some (.int k j)):Yl P l w o (.int k (si k (· ||| ·) i j)):=λn a H=>by
 simp [execOp,M,H.eval N,H.eval K,binOp,eqGuard,Op.intBits,si]
theorem cu5 (M:o.op=.binOp .xor t x y t') (N:ev l x=some (.int k i)) (K:ev l y=some (.int k j)):Yl P l w o (.int k (si k (· ^^^ ·) i j)):=λn a H=>by
 simp [execOp,M,H.eval N,H.eval K,binOp,eqGuard,Op.intBits,si]
end
end Go.Wk
namespace Go.Wk
open Go Go.RowKit
section
variable {α β γ:Type} [GT α] [GT β] [GT γ] {h:kR}
def zx (h:kR) (cs:List Value) (x:α) (v:List Value) (inner:β) (put:β->α):Prop :=
 ∀ (F:Nat->Prop),GT.own F h cs x->∃ R G:Nat->Prop,(∀ b,R b->F b)/\(∀ b,G b->F b)/\(∀ b,R b->¬ G b)/\GT.own G h v inner /\
  ∀ (h':kR) (H:Nat->Prop) (y:β),(∀ b,R b->h' b=h b)->(∀ b,H b->¬ R b)->GT.own H h' v y->GT.own (λb=>R b\/H b) h' cs (put y)
theorem ab7 (cs:List Value) (x:α):zx h cs x cs x (λy=>y):=λF K =>
 ⟨λ_=>False,F,λ_ h=>h.elim,λ_ h=>h,λ_ h=>h.elim,K,λ_ _ _ _ _ H=>GT.own_mono (λ_ h=>.inr h) H⟩
theorem bc7 {cs ds v:List Value} {x:α} {z:β} {inner:γ} {put:γ->α} (hl:cs.length=GT.sz α) (hf:zx h cs x v inner put):zx h (cs++ds) (x,z) v inner (λy=>(put y,z)):=by
 rintro F ⟨c,d,he,_,G2,g1,g2,g3,O,h2⟩;have hc:c.length=GT.sz α:=GT.len (GT.own_rep O);obtain ⟨rfl,rfl⟩:=List.append_inj he.symm (by rw [hc,hl]);obtain ⟨R,G,N,r2,r3,r4,r5⟩:=hf _ O;refine ⟨λb=>R b\/G2 b,G,λb H=>H.elim (λH=>g1 b (N b H)) (g2 b),λb H=>g1 b (r2 b H),λb H K=>H.elim (λH=>r3 b H K) (λH=>g3 b (r2 b K) H),r4,λh' M y e1 W e3=>?_⟩;refine ⟨_,_,rfl,λb=>R b\/M b,G2,λb H=>H.elim (λH=>.inl (.inl H)) .inr,λb H=>.inl (.inr H),λb H K=>H.elim (λH=>g3 b (N b H) K) (λH=>W b H (.inr K)),r5 h' M y (λb H=>e1 b (.inl H)) (λb H hr=>W b H (.inl hr)) e3,?_⟩;exact GT.own_loc h2 λb H=>e1 b (.inr H)
theorem sZ {cs ds v:List Value} {x:β} {z:α} {inner:γ} {put:γ->β} (hl:cs.length=GT.sz α) (hf:zx h ds x v inner put):zx h (cs++ds) (z,x) v inner (λy=>(z,put y)):=by
 rintro F ⟨c,d,he,G1,_,g1,O,g3,W,h2⟩;have hc:c.length=GT.sz α:=GT.len (GT.own_rep W);obtain ⟨rfl,rfl⟩:=List.append_inj he.symm (by rw [hc,hl]);obtain ⟨R,G,N,r2,r3,r4,r5⟩:=hf _ h2;refine ⟨λb=>R b\/G1 b,G,λb H=>H.elim (λH=>O b (N b H)) (g1 b),λb H=>O b (r2 b H),λb H K=>H.elim (λH=>r3 b H K) (λH=>g3 b H (r2 b K)),r4,λh' M y e1 e2 e3=>?_⟩;refine ⟨_,_,rfl,G1,λb=>R b\/M b,λb H=>.inl (.inr H),λb H=>H.elim (λH=>.inl (.inl H)) .inr,λb H K=>K.elim (λK=>g3 b H (N b K)) (λK=>e2 b K (.inr H)),?_,r5 h' M y (λb H=>e1 b (.inl H)) (λb H hr=>e2 b H (.inl hr)) e3⟩;exact GT.own_loc W λb H=>e1 b (.inr H)
theorem wN {b off len cap i:Nat} {xs:List α} {x:α} {K v:List Value} {inner:β} {put:β->α} (hx:xs[i]?=some x) (hc:kS h b (off+i*GT.sz α) K) (hl:K.length=GT.sz α) (hf:zx h K x v inner put) :
  zx h [.slice (some ⟨b,off,none⟩) len cap] xs v inner (λy=>xs.set i (put y)):=by
 intro F ho;obtain ⟨hi,_⟩:=lgE.1 hx;rcases ke.1 ho with ⟨hv,_⟩ | ⟨_,_,_,_,C,T,hv,hF,hb,a7,a6,hm,hs,fps,W,h2,h3⟩
 ·cases hv
 simp only [Value.slice.injEq,osI,Addr.mk.injEq] at hv;obtain ⟨⟨rfl,rfl,_⟩,rfl,rfl⟩:=hv
 have a0:seg C (off+i*GT.sz α) (GT.sz α)=K:=by
  obtain ⟨_,_,_,e1,e2⟩:=hc;rw [hb] at e1;simp only [osI,Obj.cells.injEq] at e1;obtain ⟨rfl,_,_⟩:=e1;apply List.ext_getElem?;intro j;by_cases H:j<GT.sz α
  ·have a9 : K[j]? = some (K[j]'(by omega)) := List.getElem?_eq_getElem (by omega);rw [a9];have:=e2 j _ a9;simp [seg,List.getElem?_take_of_lt H,this]
  ·rw [List.getElem?_eq_none (l := K) (by omega)];refine List.getElem?_eq_none ?_;simp [seg];omega
 have a8:=h3 i x hx;rw [a0] at a8;obtain ⟨R,G,r1,r2,r3,r4,r5⟩:=hf _ a8;refine ⟨λc=>F c/\¬ G c,G,λc hc=>hc.1,λc hc=>(W i c (r2 c hc)).1,λc hc=>hc.2,r4,λh' G' y e1 e2 e3=>?_⟩;have a3:¬ G b:=λhg=>(W i b (r2 b hg)).2 rfl
 have aA:h' b=h b:=e1 b ⟨hF,a3⟩;refine ke.2 (.inr ⟨b,off,len,cap,C,T,rfl,.inl ⟨hF,a3⟩,by rw [aA,hb],by simpa using a7,a6,hm,hs,λj c=>if j=i then R c\/G' c else fps j c,?_,?_,?_⟩)
 ·intro j c H
  try dsimp only at H
  split at H
  ·rcases H with H | H
   ·exact ⟨.inl ⟨(W i c (r1 c H)).1,r3 c H⟩,(W i c (r1 c H)).2⟩
   ·exact ⟨.inr H,λe=>by subst e;exact e2 c H ⟨hF,a3⟩⟩
  ·rename_i M;exact ⟨.inl ⟨(W j c H).1,λhg=>h2 j i c M H (r2 c hg)⟩,(W j c H).2⟩
 ·intro j k c a5 H hk
  try dsimp only at H hk
  have O:∀ m,m≠i->fps m c->R c\/G' c->False:=λm hm a4 hc=>by
   rcases hc with hc | hc
   ·exact h2 m i c hm a4 (r1 c hc)
   ·exact e2 c hc ⟨(W m c a4).1,λhg=>h2 m i c hm a4 (r2 c hg)⟩
  split at H<;>split at hk
  ·rename_i a1 a2;exact a5 (by rw [a1,a2])
  ·rename_i a1 a2;exact O k a2 hk H
  ·rename_i a1 a2;exact O j a1 H hk
  ·exact h2 j k c a5 H hk
 ·intro j z hz;dsimp only;by_cases M:j=i
  ·subst M;rw [List.getElem?_set_self hi] at hz;simp only [osI] at hz;subst hz;have N:(λc=>if j=j then R c\/G' c else fps j c)=λc=>R c\/G' c:=by funext c;simp
   rw [N,a0];exact r5 h' G' y (λc hc=>e1 c ⟨(W j c (r1 c hc)).1,r3 c hc⟩) (λc hg hr=>e2 c hg ⟨(W j c (r1 c hr)).1,r3 c hr⟩) e3
  ·rw [List.getElem?_set_ne (Ne.symm M)] at hz;have N:(λc=>if j=i then R c\/G' c else fps j c)=fps j:=by funext c;simp [M]
   rw [N];exact GT.own_loc (h3 j z hz) λc hc=>e1 c ⟨(W j c hc).1,λhg=>h2 j i c M hc (r2 c hg)⟩
def bk0 (cs:List Value) (v:List Value) (put:β->α):Ch where
 pr R h:=∀ (h':kR) (K:Nat->Prop) (y:β),(∀ b,R b->h' b=h b)->(∀ b,K b->¬ R b)->GT.own K h' v y->GT.own (λb=>R b\/K b) h' cs (put y)
 loc R h h2 hp hh:=λh' K y M O N=>hp h' K y (λb H=>(M b H).trans (hh b H)) O N
 mono R R' h hp hR:=λh' K y M O N=>GT.own_mono (λb H=>H.elim (λH=>.inl (hR b H)) .inr) (hp h' K y (λb H=>M b (hR b H)) (λb H W=>O b H (hR b W)) N)
variable {w0 w:World} {hz:kR} {L:List Ch}
theorem Mem.open {cs v:List Value} {x:α} {inner:β} {put:β->α} (hm:Mem w0 hz w L) (k:Nat) (hk:L[k]?=some (ow cs x)) (hf:zx (hp w) cs x v inner put) :
  Mem w0 hz w (ow v inner::L.set k (bk0 cs v put)):=by
 obtain ⟨hs,M,Fs,f1,K,f3⟩:=hm;obtain ⟨R,G,r1,r2,r3,r4,r5⟩:=hf _ (f1 k _ hk);refine ⟨hs,M,λi b=>match i with | 0=>G b | i+1=>if i=k then R b else Fs i b,?_,?_,?_⟩
 ·intro i c hi;cases i with
  | zero=>simp at hi;subst hi;exact r4
  | succ i =>
   simp only [List.getElem?_cons_succ] at hi;by_cases e:i=k
   ·subst e;have hl:i<L.length:=(lgE.1 hk).1;rw [List.getElem?_set_self hl] at hi;simp only [osI] at hi;subst hi;simp only [if_true];exact r5
   ·rw [List.getElem?_set_ne (Ne.symm e)] at hi;simp only [e,if_false];exact f1 i c hi
 ·intro i j b N hi H;cases i with
  | zero =>
   cases j with
   | zero=>exact N rfl
   | succ j =>
    simp only at hi H;split at H
    ·exact r3 b H hi
    ·rename_i e;exact K k j b (Ne.symm e) (r2 b hi) H
  | succ i =>
   cases j with
   | zero =>
    simp only at hi H;split at hi
    ·exact r3 b hi H
    ·rename_i e;exact K k i b (Ne.symm e) (r2 b H) hi
   | succ j =>
    simp only at hi H;split at hi<;>split at H
    ·rename_i O W;exact N (by rw [O,W])
    ·rename_i O W;exact K k j b (Ne.symm W) (r1 b hi) H
    ·rename_i O W;exact K k i b (Ne.symm O) (r1 b H) hi
    ·exact K i j b (by omega) hi H
 ·intro i b hi;cases i with
  | zero=>exact f3 k b (r2 b hi)
  | succ i =>
   simp only at hi;split at hi
   ·exact f3 k b (r1 b hi)
   ·exact f3 i b hi
theorem Mem.shut {cs v:List Value} {y:β} {put:β->α} (K:Mem w0 hz w L) (k j:Nat) (H:k≠j) (N:L[k]?=some (bk0 cs v put)) (O:L[j]?=some (ow v y)) :
  Mem w0 hz w ((L.set k (ow cs (put y))).set j ⟨λ_ _=>True,λ_ _ _ _ _=>trivial,λ_ _ _ _ _=>trivial⟩) :=
 K.merge k j H N O λF G h1 W h3=>h1 _ G y (λ_ _=>rfl) (λb hg M=>h3 b M hg) W
theorem l8.alter {h':kR} {F:Nat->Prop} {b off len cap i:Nat} {xs:List α} {C H:Array Value} {T:TypeId} {x':α} (ho:l8 F h (.slice (some ⟨b,off,none⟩) len cap) xs) (hi:i<xs.length)
  (hC:h b=some (.cells C T (0,0))) (a1:h' b=some (.cells H T (0,0))) (a0:H.size=C.size) (M:∀ j,(j<off+i*GT.sz α\/off+i*GT.sz α+GT.sz α<=j)->H[j]?=C[j]?)
  (hh:∀ c,F c->c≠b->h' c=h c) (hx:∀ G:Nat->Prop,(∀ c,G c->F c/\c≠b)->GT.own G h (seg C (off+i*GT.sz α) (GT.sz α)) xs[i]->GT.own G h' (seg H (off+i*GT.sz α) (GT.sz α)) x') :
  l8 F h' (.slice (some ⟨b,off,none⟩) len cap) (xs.set i x'):=by
 rcases ho with ⟨O,_⟩ | ⟨_,_,_,_,_,_,O,hF,hb,hl,hc,hm,hs,fps,N,h2,h3⟩
 ·cases O
 simp only [Value.slice.injEq,osI,Addr.mk.injEq] at O;obtain ⟨⟨rfl,rfl,_⟩,rfl,rfl⟩:=O;rw [hC] at hb;simp only [osI,Obj.cells.injEq] at hb;obtain ⟨rfl,rfl,_⟩:=hb;refine .inr ⟨b,off,len,cap,H,T,rfl,hF,a1,by simpa using hl,hc,hm,by rw [a0];exact hs,fps,N,h2,λj z hz=>?_⟩;by_cases K:j=i
 ·subst K;rw [List.getElem?_set_self hi] at hz;simp only [osI] at hz;subst hz;exact hx _ (N j) (h3 j _ (List.getElem?_eq_getElem hi))
 ·rw [List.getElem?_set_ne (Ne.symm K)] at hz;have a2:j<xs.length:=(lgE.1 hz).1
  have he:seg H (off+j*GT.sz α) (GT.sz α)=seg C (off+j*GT.sz α) (GT.sz α):=by
   apply List.ext_getElem?;intro q;by_cases hq:q<GT.sz α
   ·rw [nP hq,nP hq];refine M _ ?_;rcases Nat.lt_or_ge j i with W | _
    ·left;have:(j+1)*GT.sz α<=i*GT.sz α:=Nat.mul_le_mul_right _ W;rw [Nat.add_mul] at this;omega
    ·right;have:(i+1)*GT.sz α<=j*GT.sz α:=Nat.mul_le_mul_right _ (by omega);rw [Nat.add_mul] at this;omega
   ·rw [List.getElem?_eq_none (by simp [seg];omega),List.getElem?_eq_none (by simp [seg];omega)]
  rw [he];exact GT.own_loc (h3 j z hz) λc hc=>hh c (N j c hc).1 (N j c hc).2
def both (c d:Ch):Ch where
 pr F h:=∃ K H:Nat->Prop,(∀ b,K b->F b)/\(∀ b,H b->F b)/\(∀ b,K b->¬ H b)/\c.pr K h/\d.pr H h
 loc F h h':=λ⟨K,H,a,b,e,p,q⟩ N=>⟨K,H,a,b,e,c.loc _ _ _ p (λx M=>N x (a x M)),d.loc _ _ _ q (λx M=>N x (b x M))⟩
 mono F F' h:=λ⟨K,H,a,b,e,p,q⟩ O=>⟨K,H,λx M=>O x (a x M),λx M=>O x (b x M),e,p,q⟩
theorem Mem.both {c d:Ch} (K:Mem w0 hz w L) (k j:Nat) (H:k≠j) (M:L[k]?=some c) (N:L[j]?=some d) :
  Mem w0 hz w ((L.set k (both c d)).set j ⟨λ_ _=>True,λ_ _ _ _ _=>trivial,λ_ _ _ _ _=>trivial⟩) :=
 K.merge k j H M N λF G W O h3=>⟨F,G,λ_ h=>.inl h,λ_ h=>.inr h,h3,W,O⟩
section
variable {P:Program} {a:Act} {o:Oper} {n:Nat} {l:Env} {v:Value} {x y:Operand} {xs:List α}
theorem ak9 {C:Array Value} {o m:Nat} (h:o+m<=C.size):(seg C o m).length=m:=by
 simp [seg];omega
theorem bz1 {b o:Nat} {H:List Value} {C:Array Value} {T:TypeId} {O:Nat × Nat} (hc:kS h b o H) (W:h b=some (.cells C T O)) (hl:o+H.length<=C.size):seg C o H.length=H:=by
 obtain ⟨_,_,_,M,e2⟩:=hc;rw [W] at M;simp only [osI,Obj.cells.injEq] at M;obtain ⟨rfl,_,_⟩:=M;apply List.ext_getElem?;intro j;by_cases N:j<H.length
 ·have K:H[j]?=some (H[j]'N):=List.getElem?_eq_getElem N;rw [nP N,K,e2 j _ K]
 ·rw [List.getElem?_eq_none (l:=H) (by omega),List.getElem?_eq_none (by simp [seg];omega)]
theorem an8 {C:Array Value} {o j m:Nat} {vs:List Value} (N:o+m<=C.size) (O:j+vs.length<=m) :
  seg (mM C.toList (o+j) vs).toArray o m=mM (seg C o m) j vs:=by
 have H:o+j+vs.length<=C.toList.length:=by simp;omega
 have M:(seg C o m).length=m:=ak9 N;apply List.ext_getElem?;intro q;by_cases K:q<m
 ·rw [nP K, List.getElem?_toArray, nY H, nY (by omega), nP K];by_cases hc:j<=q/\q<j+vs.length
  ·rw [if_pos (by omega),if_pos hc];congr 1;omega
  ·rw [if_neg (by omega),if_neg hc];simp
 ·rw [List.getElem?_eq_none (by simp [seg];omega),List.getElem?_eq_none (by rw [n5 (by omega)];omega)]
theorem pK {b off len cap i j:Nat} {x0 x1:α} {vs H:List Value} {ty:TypeId} (k:Nat) (hf:Fr n l a) (hm:Mem w0 hz w L) (hk:L[k]?=some (ow [.slice (some ⟨b,off,none⟩) len cap] xs)) (a6:xs[i]?=some x0)
  (hc:kS (hp w) b (off+i*GT.sz α) H) (a3:H.length=GT.sz α) (a8:∀ G h,GT.own G h H x0->GT.own G h (mM H j vs) x1)
  (ho:o.op=.store ty x y) (hs:∀ w,(sizeOf ty).run P w=.ok vs.length w) (hx:ev l x=some (.pointer (some ⟨b,off+i*GT.sz α+j,none⟩))) (hy:ev l y=some v) (hv:v.cells=vs.toArray) (h1:∀ u∈vs,u.oneCell'=true)
  (hj:Nat.ble (j+vs.length) (GT.sz α)=true) :
  Ef P a w o (λ_ w'=>Mem w0 hz w' (L.set k (ow [.slice (some ⟨b,off,none⟩) len cap] (xs.set i x1)))):=by
 have a4:=Nat.le_of_ble_eq_true hj;obtain ⟨hi,a7⟩:=lgE.1 a6;obtain ⟨F,hF,W⟩:=hm.get k hk;obtain ⟨C,T',G,O,_,_,_,_,_⟩:=(ke.1 hF).at hi;have a2:=run_storeCells_at P b (off+i*GT.sz α+j) T' vs 0 C w O (by simp;omega) h1;refine sd (w':=w.setRow b (mM C.toList (off+i*GT.sz α+j) vs).toArray) ?_ ?_
 ·simp [execOp,ho,hf.eval hx,hf.eval hy,Instr.storeAt,Instr.sureAddr,storeVar,hv,hs,a2,mM]
 ·refine hm.upd k hk ⟨rfl, rfl, rfl, by simp⟩ fun F hF W => ?_
  have a0:=ke.1 hF;obtain ⟨_,_,_,p1,p2,p3,p4,_,_⟩:=a0.at hi;rw [O] at p1;simp only [osI,Obj.cells.injEq] at p1;obtain ⟨rfl,rfl,_⟩:=p1;have a1:off+i*GT.sz α+j+vs.length<=C.toList.length:=by simp;omega
  have a5:=setRow_heap w b C (mM C.toList (off+i*GT.sz α+j) vs).toArray T' (0,0) O
  have M:seg C (off+i*GT.sz α) (GT.sz α)=H:=by
   have:=bz1 hc O (by omega)
   rwa [a3] at this
  refine ⟨F,λ_ h=>.inl h,λc hc=>by simpa using W c hc,?_,λc _ N=>setRow_other w b c _ (λe=>N (by subst e;exact p2))⟩;refine ke.2 (l8.alter (h':=hp (w.setRow b (mM C.toList (off+i*GT.sz α+j) vs).toArray)) a0 hi O a5 (by simp [n5 a1]) (λq _=>?_) (λc _ N=>setRow_other w b c _ N) (λG hG K=>?_))
  ·simp only [List.getElem?_toArray,nY a1];rw [if_neg (by omega)];simp
  ·rw [an8 (by omega) a4, M];rw [M,a7] at K;exact GT.own_loc (a8 G _ K) λc hc=>setRow_other w b c _ (hG c hc).2
theorem sO {b off len cap i:Nat} {x0 x1:α} {vs:List Value} {ty:TypeId} (k:Nat) (hf:Fr n l a) (hm:Mem w0 hz w L) (hk:L[k]?=some (both (ow [.slice (some ⟨b,off,none⟩) len cap] xs) (ow vs x1))) (a3:xs[i]?=some x0)
  (ho:o.op=.store ty x y) (hs:∀ w,(sizeOf ty).run P w=.ok vs.length w) (hx:ev l x=some (.pointer (some ⟨b,off+i*GT.sz α,none⟩))) (hy:ev l y=some v) (hv:v.cells=vs.toArray) (hl:vs.length=GT.sz α) :
  Ef P a w o (λ_ w'=>Mem w0 hz w' (L.set k (ow [.slice (some ⟨b,off,none⟩) len cap] (xs.set i x1)))):=by
 obtain ⟨hi,_⟩:=lgE.1 a3;obtain ⟨F0,⟨F,H,f1,f2,f3,hF,hH⟩,M⟩:=hm.get k hk;have h1:∀ u∈vs,u.oneCell'=true:=GT.one (GT.own_rep hH);obtain ⟨C,T',G,q1,_,_,_,_,_⟩:=(ke.1 hF).at hi;have a1:=run_storeCells_at P b (off+i*GT.sz α) T' vs 0 C w q1 (by simp;omega) h1;refine sd (w':=w.setRow b (mM C.toList (off+i*GT.sz α) vs).toArray) ?_ ?_
 ·simp [execOp,ho,hf.eval hx,hf.eval hy,Instr.storeAt,Instr.sureAddr,storeVar,hv,hs,a1,mM]
 ·refine hm.upd k hk ⟨rfl, rfl, rfl, by simp⟩ fun F0 ⟨F, H, f1, f2, f3, hF, hH⟩ M => ?_
  have N:=ke.1 hF;obtain ⟨_,_,_,p1,p2,p3,p4,_,_⟩:=N.at hi;rw [q1] at p1;simp only [osI,Obj.cells.injEq] at p1;obtain ⟨rfl,rfl,_⟩:=p1;have W:off+i*GT.sz α+vs.length<=C.toList.length:=by simp;omega
  have a2:=setRow_heap w b C (mM C.toList (off+i*GT.sz α) vs).toArray T' (0,0) q1;have K:∀ c,H c->c≠b:=λc hc e=>f3 c (by subst e;exact p2) hc
  refine ⟨F0,λ_ h=>.inl h,λc hc=>by simpa using M c hc,?_,λc _ K=>setRow_other w b c _ (λe=>K (by subst e;exact f1 c p2))⟩;have O:=an8 (C:=C) (o:=off+i*GT.sz α) (j:=0) (m:=GT.sz α) (vs:=vs) (by omega) (by omega);rw [Nat.add_zero] at O
  have a0:mM (seg C (off+i*GT.sz α) (GT.sz α)) 0 vs=vs:=by
   have a4:(seg C (off+i*GT.sz α) (GT.sz α)).length=GT.sz α:=ak9 (by omega);apply List.ext_getElem?;intro q;rw [nY (by omega)];by_cases hq:q<vs.length
   ·rw [if_pos (by omega)];simp
   ·rw [if_neg (by omega),List.getElem?_eq_none (by omega),List.getElem?_eq_none (by omega)]
  refine GT.own_mono (F:=λc=>F c\/H c) (λc hc=>hc.elim (f1 c) (f2 c)) (ke.2 (l8.put (h':=hp (w.setRow b (mM C.toList (off+i*GT.sz α) vs).toArray)) N hi q1 a2 (by simp [n5 W]) (λq hq=>?_) (λc _ K=>setRow_other w b c _ K) (λc hc hf=>f3 c hf hc) ?_))
  ·simp only [List.getElem?_toArray,nY W];rw [if_neg (by omega)];simp
  ·rw [O,a0];exact GT.own_loc hH λc hc=>setRow_other w b c _ (K c hc)
end
end
end Go.Wk
namespace Go.Wk
open Go Go.RowKit
def bg6:Ch:=⟨λ_ _=>True,λ_ _ _ _ _=>trivial,λ_ _ _ _ _=>trivial⟩
section
variable {w0 w w':World} {hz hz':kR} {L:List Ch} {c:Ch}
theorem Mem.freeze (hm:Mem w0 hz w L) (k:Nat) (hk:L[k]?=some c):∃ hz',kR.le hz hz'/\(∃ F,c.pr F hz')/\Mem w0 hz' w (L.set k bg6):=by
 classical
 obtain ⟨hs,O,H,f1,f2,f3⟩:=hm;have W:∀ b,H k b->(if H k b then hp w b else hz b)=hp w b:=λb h=>if_pos h
 have M:∀ b,¬ H k b->(if H k b then hp w b else hz b)=hz b:=λb h=>if_neg h
 refine ⟨λb=>if H k b then hp w b else hz b,?_,⟨H k,c.loc _ _ _ (f1 k c hk) W⟩,hs,?_,λi b=>i≠k/\H i b,?_,?_,?_⟩
 ·intro b o K;show (if H k b then hp w b else hz b)=some o;rw [M b (λN=>by rw [(f3 k b N).1] at K;cases K)];exact K
 ·intro b o K;by_cases N:H k b
  ·exact (W b N).symm.trans K
  ·exact O b o ((M b N).symm.trans K)
 ·intro i d hi;by_cases e:i=k
  ·subst e;have hl:i<L.length:=(lgE.1 hk).1;rw [List.getElem?_set_self hl] at hi;simp only [osI] at hi;subst hi;trivial
  ·rw [List.getElem?_set_ne (Ne.symm e)] at hi;exact d.mono _ _ _ (f1 i d hi) λb K=>⟨e,K⟩
 ·rintro i j b a1 ⟨_,hi⟩ ⟨_,hj⟩;exact f2 i j b a1 hi hj
 ·rintro i b ⟨a0,hi⟩;exact ⟨(M b (λN=>f2 i k b a0 hi N)).trans (f3 i b hi).1,(f3 i b hi).2⟩
theorem Mem.thaw (K:kR.le hz hz') (W:Mem w0 hz' w L):Mem w0 hz w L:=by
 obtain ⟨hs,H,Fs,f1,O,M⟩:=W;refine ⟨hs,kR.le_trans K H,Fs,f1,O,λi b N=>⟨?_,(M i b N).2⟩⟩;cases h:hz b with
 | none=>rfl
 | some o =>
  have:=K b o h;rw [(M i b N).1] at this;cases this
theorem aq0 {α:Type} [GT α] {cs:List Value} {x:α} {h:kR} (H:∃ F,(ow cs x).pr F h):GT.rep h cs x:=let ⟨_,h1⟩:=H;GT.own_rep h1
theorem bd0 {b T:Nat} {cs:List Value} {h:kR} (H:∃ F,(blk b cs T).pr F h):h b=some (.cells cs.toArray T (0,0)):=let ⟨_,h1⟩:=H;h1.2
theorem Mem.hz_cell {b i T:Nat} {cs:List Value} {H:Nat × Nat} {v:Value} (K:Mem w0 hz w L) (M:hz b=some (.cells cs.toArray T H)) (hi:cs[i]?=some v):w.cell? ⟨b,i,none⟩=some v:=by
 have:=K.lez b _ M;unfold hp at this;simp [World.cell?,this,hi]
theorem Mem.hz_at {b T:Nat} {cs:List Value} {H:Nat × Nat} (M:Mem w0 hz w L) (N:hz b=some (.cells cs.toArray T H)):kS (hp w) b 0 cs :=
 ⟨cs.toArray,T,H,M.lez b _ N,λj v K=>by simpa using K⟩
end
def Sh (H:kR) (α:Type):Type:=α
instance {hz:kR} {α:Type} [GT α]:GT (Sh hz α) where
 sz:=GT.sz α
 rep _ cs x:=GT.rep (α:=α) hz cs x
 own _ _ cs x:=GT.rep (α:=α) hz cs x
 len:=GT.len (α:=α)
 mono:=λ_ h=>h
 own_rep:=λh=>h
 own_loc:=λh _=>h
 own_mono:=λ_ h=>h
 one:=GT.one (α:=α)
class Cheap (α:Type) [GT α]:Prop where
 own_of:∀ {F h cs} {x:α},GT.rep h cs x->GT.own F h cs x
instance {α:Type} [Flat α]:Cheap α:=⟨λh=>Flat.own_iff.2 (Flat.rep_iff.1 h)⟩
instance {hz:kR} {α:Type} [GT α]:Cheap (Sh hz α):=⟨λh=>h⟩
section
variable {α:Type} [GT α] {hz hz' h:kR} {v:Value} {xs:List α} {F:Nat->Prop}
inductive Els (hz:kR):List Value->List α->Prop
 | nil:Els hz [] []
 | cons {c cs:List Value} {x:α} {xs:List α}:GT.rep hz c x->Els hz cs xs->Els hz (c++cs) (x::xs)
theorem Els.get {cs:List Value} {xs:List α} (M:Els hz cs xs):cs.length=xs.length*GT.sz α/\∀ (i:Nat) (x:α),xs[i]?=some x->GT.rep hz ((cs.drop (i*GT.sz α)).take (GT.sz α)) x:=by
 induction M with
 | nil=>exact ⟨by simp,λi x N=>by simp at N⟩
 | @cons c cs x xs h1 h2 ih =>
  have H:=GT.len h1;refine ⟨by simp [H,ih.1,Nat.add_mul,Nat.add_comm],λi y K=>?_⟩;cases i with
  | zero=>simp at K;subst K;simpa [H] using h1
  | succ i =>
   have:=ih.2 i y (by simpa using K);rw [show (i+1)*GT.sz α=c.length+i*GT.sz α by rw [Nat.add_mul,H];omega,List.drop_append,List.drop_eq_nil_of_le (by omega)];simpa using this
end
section
variable {α:Type} [GT α] [Cheap α] {P:Program} {a:Act} {w w0:World} {hz:kR} {L:List Ch} {o:Oper} {n:Nat} {l:Env} {v sv z:Value} {x y:Operand} {t e:TypeId} {xs ys:List α}
omit [Cheap α] in
theorem cd8 {w:World} (N:GT.rep (hp w) [v] ys):∃ H,Src w (GT.sz α) ys.length v H/\∀ (i:Nat) (x:α),ys[i]?=some x->GT.rep (hp w) ((H.drop (i*GT.sz α)).take (GT.sz α)) x:=by
 rcases og.1 N with ⟨rfl | ⟨p,cap,rfl⟩,rfl⟩ | ⟨b,off,len,cap,rfl,hl,hc,_,_⟩
 ·exact ⟨[],⟨by simp,by simp,.inl ⟨rfl,rfl⟩⟩,λi x K=>by simp at K⟩
 ·exact ⟨[],⟨by simp,by simp,.inr ⟨p,cap,rfl,λj u hu=>by simp at hu⟩⟩,λi x K=>by simp at K⟩
 ·subst hl;obtain ⟨cs,g1,W,g3,O⟩:=qB.cells (og.1 N);refine ⟨cs,⟨g1,W,.inr ⟨_,cap,rfl,λj u hj=>?_⟩⟩,O⟩;obtain ⟨C,T,_,M,e2⟩:=g3 j u hj;rw [oT];simp only [hp] at M;simp [World.cell?,M,e2]
end
theorem lW {α:Type} [GT α] {P:Program} {a:Act} {w w0:World} {hz:kR} {L:List Ch} {o:Oper} {n:Nat} {l:Env} {v sv z:Value} {x y:Operand} {t e:TypeId} {xs ys:List α} (k:Nat) (hT:oK P t e (GT.sz α) z) (hf:Fr n l a) (hm:Mem w0 hz w L)
  (hk:L[k]?=some (both (ow [sv] xs) (ow [v] ys))) (ho:o.op=.call { callee:=.builtin .append,args:=#[x,y],argTypes:=#[t,t] })
  (hx:ev l x=some sv) (hy:ev l y=some v) (a8:xs.length+ys.length<=2147483648) :
  Ef P a w o (λO w'=>Mem w0 hz w' (L.set k (ow [O] (xs++ys)))):=by
 have key:∀ F G:Nat->Prop,(∀ b,F b->b<w.heap.size)->(∀ b,G b->b<w.heap.size)->(∀ b,F b->¬ G b)->GT.own F (hp w) [sv] xs->GT.own G (hp w) [v] ys ->
   ∃ O w',(Builtin.append_ #[t,t] o.type #[sv,v]).run P w=.ok O w'/\tT w w'/\(∀ b,b<w.heap.size->¬ F b->w'.heap[b]?=w.heap[b]?) /\
   ∃ F',(∀ b,F' b->F b\/G b\/w.heap.size<=b)/\(∀ b,F' b->b<w'.heap.size)/\l8 F' (hp w') O (xs++ys):=by
  intro F G hF hG aB hx hy
  have N:∃ M,Src w (GT.sz α) ys.length v M/\∃ fps:Nat->Nat->Prop,ab9 fps (hp w) M ys/\(∀ i c,fps i c->G c)/\(∀ i j c,i≠j->fps i c->¬ fps j c):=by
   rcases ke.1 hy with ⟨rfl,rfl⟩ | ⟨b,off,len,cap,C,T,rfl,_,K,hl,hc,_,_,fps,h1,h2,h3⟩
   ·exact ⟨[],⟨by simp,by simp,.inl ⟨rfl,rfl⟩⟩,λ_ _=>False,λi x hx=>by simp at hx,λ_ _ h=>h.elim,λ_ _ _ _ h=>h.elim⟩
   ·subst hl
    have a0:off+ys.length*GT.sz α<=C.size:=by
     have:=Nat.mul_le_mul_right (GT.sz α) hc;omega
    refine ⟨seg C off (ys.length*GT.sz α),⟨xq a0,?_,.inr ⟨_,cap,rfl,zd K⟩⟩,fps,?_,λi c hc=>(h1 i c hc).1,h2⟩
    ·intro u hu;obtain ⟨j,hj,aC⟩:=List.mem_iff_getElem.1 hu;have aA:=xq a0
     have W:0<GT.sz α:=by
      rcases Nat.eq_zero_or_pos (GT.sz α) with h | h
      ·rw [aA,h] at hj;omega
      ·exact h
     have hi:j / GT.sz α<ys.length:=(Nat.div_lt_iff_lt_mul W).2 (by omega);have h4:=h3 _ _ (List.getElem?_eq_getElem hi);rw [yE (mg hi)] at h4;refine GT.one (GT.own_rep h4) u (List.mem_iff_getElem?.2 ⟨j % GT.sz α,?_⟩);rw [List.getElem?_take_of_lt (Nat.mod_lt j W),List.getElem?_drop,show j / GT.sz α*GT.sz α+j % GT.sz α=j by rw [Nat.mul_comm];exact Nat.div_add_mod j _,List.getElem?_eq_getElem hj,aC]
    ·intro i y hy;have h4:=h3 i y hy
     rwa [yE (mg (show i<ys.length from (lgE.1 hy).1))] at h4
  obtain ⟨M,N,fps,g1,g2,g3⟩:=N;obtain ⟨O,w',hr,hs,a4,F',f1,f2,f3⟩:=ay9 (ty:=o.type) hT (ke.1 hx) hF N rfl fps g1 (λi c hc=>⟨λhf=>aB c hf (g2 i c hc),hG c (g2 i c hc)⟩) g3 a8
  exact ⟨O,w',hr,hs,a4,F',λb K=>by
   rcases f1 b K with h | ⟨i,h⟩ | h
   ·exact .inl h
   ·exact .inr (.inl (g2 i b h))
   ·exact .inr (.inr h),f2,f3⟩
 obtain ⟨_,⟨F,G,a1,a2,a3,hF,hG⟩,a9⟩:=hm.get k hk;obtain ⟨O,w',hr,hs,a4,F',f1,f2,f3⟩:=key F G (λb K=>(a9 b (a1 b K)).1) (λb K=>(a9 b (a2 b K)).1) a3 hF hG;refine nR (w':=w') (v:=O) ?_ ?_
 ·simp [execOp,ho,resolve,invoke,builtin,hf.eval hx,hf.eval hy,hr]
 ·refine hm.upd k hk hs λ_ ⟨H,I,b1,b2,b3,hH,hI⟩ a7=>?_
  obtain ⟨v2,_,a5,_,a6,F2,p1,p2,p3⟩:=key H I (λb K=>a7 b (b1 b K)) (λb K=>a7 b (b2 b K)) b3 hH hI;rw [hr] at a5;simp only [Result.ok.injEq] at a5;obtain ⟨rfl,rfl⟩:=a5;refine ⟨F2,λb K=>?_,p2,ke.2 p3,λb K hn=>a6 b K (λh=>hn (b1 b h))⟩;rcases p1 b K with h | h | h
  ·exact .inl (b1 b h)
  ·exact .inl (b2 b h)
  ·exact .inr h
theorem Mem.take2 {w0 w:World} {hz:kR} {L L1 L2:List Ch} (hm:Mem w0 hz w L) (js ks:List Nat) (hn:(js++ks).Nodup) (h1:js.map (λj=>L[j]?)=L1.map some) (h2:ks.map (λj=>L[j]?)=L2.map some) :
  ∃ hz',kR.le hz hz'/\Mem w hz' w L1/\(∀ (i:Nat) (c:Ch),L2[i]?=some c->∃ F,c.pr F hz')/\∀ w' M,Mem w hz' w' M->Mem w0 hz w' (M++L2):=by
 classical
 have aE:=hm.pick (js++ks) hn (L':=L1++L2) (by rw [List.map_append,List.map_append,h1,h2]);clear h1 h2 hn hm;obtain ⟨hs,aA,N,f1,f2,f3⟩:=aE
 have aC:∀ b,(if ∃ i,i<L1.length/\N i b then none else hp w b)=none\/((¬ ∃ i,i<L1.length/\N i b)/\(if ∃ i,i<L1.length/\N i b then none else hp w b)=hp w b):=λb=>by
  by_cases h:∃ i,i<L1.length/\N i b
  ·exact .inl (if_pos h)
  ·exact .inr ⟨h,if_neg h⟩
 have a8:kR.le hz (λb=>if ∃ i,i<L1.length/\N i b then none else hp w b):=by
  intro b o H;show (if ∃ i,i<L1.length/\N i b then none else hp w b)=some o;rw [if_neg]
  ·exact aA b o H
  ·rintro ⟨i,_,hF⟩;rw [(f3 i b hF).1] at H;cases H
 refine ⟨λb=>if ∃ i,i<L1.length/\N i b then none else hp w b,a8,⟨tT.refl w,?_,λi b=>i<L1.length/\N i b,?_,?_,?_⟩,?_,?_⟩
 ·intro b o H;rcases aC b with h | ⟨_,h⟩
  ·exact absurd (H.symm.trans h) (by simp)
  ·exact (H.symm.trans h).symm
 ·intro i c hi;have aB:i<L1.length:=(lgE.1 hi).1;exact c.mono _ _ _ (f1 i c (by rw [List.getElem?_append_left aB];exact hi)) λb H=>⟨aB,H⟩
 ·rintro i j b a6 ⟨_,hi⟩ ⟨_,O⟩;exact f2 i j b a6 hi O
 ·rintro i b ⟨hi,H⟩;exact ⟨if_pos ⟨i,hi,H⟩,(f3 i b H).2⟩
 ·intro i c hi;have a9:=f1 (L1.length+i) c (by rw [List.getElem?_append_right (by omega)];simpa using hi);refine ⟨_,c.loc _ _ _ a9 λb H=>?_⟩;show (if ∃ i,i<L1.length/\N i b then none else hp w b)=hp w b;rw [if_neg];rintro ⟨j,O,a5⟩;exact f2 j (L1.length+i) b (by omega) a5 H
 ·intro w' M hM;obtain ⟨gs,a2,Gs,g1,g2,g3⟩:=hM
  have a7:∀ i b,L1.length<=i->N i b->hp w' b=hp w b:=λi b hi H=>by
   have a4:¬ ∃ i,i<L1.length/\N i b:=by
    rintro ⟨j,O,a5⟩;exact f2 j i b (by omega) a5 H
   have a3:=(f3 i b H).2;have a0:hp w b=some w.heap[b]:=Array.getElem?_eq_getElem a3;have:=a2 b w.heap[b] (by show (if ∃ i,i<L1.length/\N i b then none else hp w b)=_;rw [if_neg a4];exact a0);rw [this,a0]
  refine ⟨hs.trans gs,kR.le_trans a8 a2,λi b=>if i<M.length then Gs i b else L1.length<=i - M.length+L1.length/\N (i - M.length+L1.length) b,?_,?_,?_⟩
  ·intro i c hi;by_cases K:i<M.length
   ·rw [List.getElem?_append_left K] at hi;exact c.mono _ _ _ (g1 i c hi) λb H=>by dsimp only;rw [if_pos K];exact H
   ·rw [List.getElem?_append_right (by omega)] at hi;have:=f1 (L1.length+(i - M.length)) c (by rw [List.getElem?_append_right (by omega)];simpa using hi);refine c.mono _ _ _ (c.loc _ _ _ this λb H=>a7 _ b (by omega) H) λb H=>?_
    dsimp only;rw [if_neg K];exact ⟨by omega,by rw [Nat.add_comm];exact H⟩
  ·intro i j b a6 hi O
   try dsimp only at hi O
   have a1:∀ i j,i<M.length->Gs i b->L1.length<=j->N j b->False:=λi j _ hG O hF=>by
    have h3:=(g3 i b hG).1
    have a4:¬ ∃ i,i<L1.length/\N i b:=by
     rintro ⟨k,_,aD⟩;exact f2 k j b (by omega) aD hF
    rw [if_neg a4] at h3;have a3:=(f3 j b hF).2;have:hp w b=some w.heap[b]:=Array.getElem?_eq_getElem a3;rw [this] at h3;cases h3
   by_cases K:i<M.length
   ·rw [if_pos K] at hi;by_cases W:j<M.length
    ·rw [if_pos W] at O;exact g2 i j b a6 hi O
    ·rw [if_neg W] at O;exact a1 i _ K hi O.1 O.2
   ·rw [if_neg K] at hi;by_cases W:j<M.length
    ·rw [if_pos W] at O;exact a1 j _ W O hi.1 hi.2
    ·rw [if_neg W] at O;exact f2 _ _ b (by omega) hi.2 O.2
  ·intro i b hi
   try dsimp only at hi
   by_cases K:i<M.length
   ·rw [if_pos K] at hi;have h3:=g3 i b hi;refine ⟨?_,h3.2⟩;cases aF:hz b with
    | none=>rfl
    | some o =>
     have:=(a8 b o aF).symm.trans h3.1;cases this
   ·rw [if_neg K] at hi;exact ⟨(f3 _ b hi.2).1,Nat.lt_of_lt_of_le (f3 _ b hi.2).2 gs.size⟩
end Go.Wk
namespace Go.Wk
open Go Go.RowKit
section
variable {P:Program} {l:Env} {w:World} {o:Oper} {x y:Operand} {t t' e:TypeId} {p:Option Addr}
theorem cv6 (K:P.underlying t=some (.pointer e)) (M:o.op=.binOp .neq t x y t') (O:ev l x=some (.pointer p)) (N:ev l y=some (.pointer none)):Yl P l w o (.bool (!p.isNone)):=λn a H=>by
 have h:=run_neq_pointer_nil (P:=P) w t p (by rw [K];simp [Program.pointee,K]);simp [execOp,M,H.eval O,H.eval N,eqGuard,h]
def bn2 (i j:Int):Int:=if j<i then j else i
theorem bq9 (i j:Int):bn2 i j=min i j:=by unfold bn2;split<;>omega
theorem db5 {k:IntKind} {i j:Int} {H:Array TypeId} (M:o.op=.call { callee:=.builtin .min,args:=#[x,y],argTypes:=H }) (O:ev l x=some (.int k i)) (N:ev l y=some (.int k j)):Yl P l w o (.int k (bn2 i j)):=λn a K=>by
 simp [execOp,M,resolve,invoke,builtin,K.eval O,K.eval N,Builtin.min_,Builtin.min2,bn2]
end
def tl {α:Type} (xs:List α) (lo hi:Int):Option (List α):=if 0<=lo/\lo<=hi/\hi<=(xs.length:Int) then some ((xs.take hi.toNat).drop lo.toNat) else none
theorem oN {α:Type} {xs ys:List α} {lo hi:Int}:tl xs lo hi=some ys↔(0<=lo/\lo<=hi/\hi<=(xs.length:Int))/\(xs.take hi.toNat).drop lo.toNat=ys:=by
 unfold tl;by_cases h:0<=lo/\lo<=hi/\hi<=(xs.length:Int)<;>simp only [h,if_true,if_false,osI,true_and,false_and,and_self];simp
def sj (s:Nat) (v:Value) (lo hi:Nat):Value:=match v with
 | .slice p _ cap=>.slice (if cap=lo then p else p.map (·.add (lo*s))) (hi - lo) (cap - lo)
 | v=>v
theorem bs8 {α:Type} {xs:List α} {lo hi i:Nat} {x:α} (h:((xs.take hi).drop lo)[i]?=some x):lo+i<hi/\xs[lo+i]?=some x:=by
 rw [List.getElem?_drop] at h;have H:=(lgE.1 h).1;simp at H;rw [List.getElem?_take_of_lt (by omega)] at h;exact ⟨by omega,h⟩
section
variable {α:Type} [GT α] {h:kR} {v:Value} {xs:List α} {lo hi:Nat} {F:Nat->Prop}
theorem bs1 (M:GT.rep h [v] xs):∃ p cap,v=.slice p xs.length cap/\xs.length<=cap:=by
 rcases og.1 M with ⟨rfl | ⟨p,cap,rfl⟩,rfl⟩ | ⟨b,off,len,cap,H,K,hc,_,_⟩
 ·exact ⟨none,0,rfl,by simp⟩
 ·exact ⟨some p,cap,rfl,by simp⟩
 ·exact ⟨_,cap,by rw [K];exact H,by omega⟩
theorem ch0 (O:GT.rep h [v] xs) (h1:lo<=hi) (H:hi<=xs.length):GT.rep h [sj (GT.sz α) v lo hi] ((xs.take hi).drop lo):=by
 refine og.2 ?_;rcases og.1 O with ⟨rfl | ⟨p,cap,rfl⟩,rfl⟩ | ⟨b,off,len,cap,rfl,_,hc,_,W⟩
 ·simp at H;have:lo=0:=by omega
  subst H;subst this;exact .inl ⟨.inl rfl,by simp⟩
 ·simp at H;have:lo=0:=by omega
  subst H;subst this;refine .inl ⟨.inr ?_,by simp⟩;simp only [sj];split
  ·exact ⟨_,_,rfl⟩
  ·exact ⟨_,_,rfl⟩
 ·by_cases N:lo=hi
  ·subst N;refine .inl ⟨.inr ?_,by simp⟩;simp only [sj,Nat.sub_self];split
   ·exact ⟨_,_,rfl⟩
   ·exact ⟨_,_,rfl⟩
  ·have M : cap ≠ lo := by omega
   simp only [sj,M,if_false,Option.map_some,oT];refine .inr ⟨b,off+lo*GT.sz α,hi - lo,cap - lo,rfl,by simp;omega,by omega,⟨by omega,by omega⟩,λi x hx=>?_⟩;obtain ⟨_,K⟩:=bs8 hx;have:=W _ x K
   rwa [Nat.add_mul,<- Nat.add_assoc] at this
theorem vw (ho:GT.own F h [v] xs) (h1:lo<=hi) (N:hi<=xs.length):GT.own F h [sj (GT.sz α) v lo hi] ((xs.take hi).drop lo):=by
 refine ke.2 ?_;rcases ke.1 ho with ⟨rfl,rfl⟩ | ⟨b,off,len,cap,C,T,rfl,W,O,_,hc,_,hs,fps,g1,g2,g3⟩
 ·simp at N;have:lo=0:=by omega
  subst N;subst this;exact .inl ⟨rfl,by simp⟩
 ·by_cases H:cap=lo
  ·have h3 : hi = lo := by omega
   subst h3;simp only [sj,H,if_true,Nat.sub_self];refine .inr ⟨b,off,0,0,C,T,rfl,W,O,by simp,by omega,⟨by simp [maxLen],by omega⟩,by omega,λ_ _=>False,λ_ _ h=>h.elim,λ_ _ _ _ h=>h.elim,λi x M=>by simp at M⟩
  ·simp only [sj,H,if_false,Option.map_some,oT];refine .inr ⟨b,off+lo*GT.sz α,hi - lo,cap - lo,C,T,rfl,W,O,by simp;omega,by omega,⟨by omega,by omega⟩,?_,λi=>fps (lo+i),λi c hc=>g1 _ c hc,λi j c _=>g2 _ _ c (by omega),λi x M=>?_⟩
   ·have : (cap - lo) * GT.sz α + lo * GT.sz α = cap * GT.sz α := by rw [<- Nat.add_mul]; congr 1; omega
    omega
   ·obtain ⟨_,K⟩:=bs8 M;have:=g3 _ x K
    rwa [Nat.add_mul,<- Nat.add_assoc] at this
end
section
variable {α:Type} [GT α] {P:Program} {l:Env} {h:kR} {o:Oper} {x yl yh:Operand} {t e:TypeId} {v:Value} {xs:List α} {lo hi:Int} {kl kh:IntKind}
theorem br7 (O:mO P t e (GT.sz α)) {p:Option Addr} {len cap:Nat} (w:World) (K H:Option Value) (l1 M:Nat)
  (hl:(K=none/\l1=0)\/∃ k,K=some (.int k (l1:Int))) (hh:(H=none/\M=len)\/∃ k,H=some (.int k (M:Int))) (h2:l1<=M) (h3:M<=len) (h4:len<=cap) :
  (Instr.slice t (.slice p len cap) K H none).run P w=.ok (sj (GT.sz α) (.slice p len cap) l1 M) w:=by
 have N:=O.size;have W:M<=cap:=by omega
 rcases hl with ⟨rfl,rfl⟩ | ⟨kl,rfl⟩<;>rcases hh with ⟨rfl,rfl⟩ | ⟨kh,rfl⟩ <;>
  simp [Instr.slice,Instr.sliceBounds,Instr.sliceBound,run_underlying O.und,asIntOf,W,h2,h4,N,sj]
theorem az8 (K:mO P t e (GT.sz α)) (O:GT.rep h [v] xs) (M:o.op=.slice t x (some yl) none none) (hx:ev l x=some v) (N:ev l yl=some (.int kl lo)) (W:0<=lo/\lo<=(xs.length:Int)/\(xs.length:Int)<=(xs.length:Int)) (w:World) :
  Yl P l w o (sj (GT.sz α) v lo.toNat (xs.length:Int).toNat):=λn a H=>by
 obtain ⟨p,cap,rfl,hc⟩:=bs1 O;obtain ⟨l1,rfl⟩:=Int.eq_ofNat_of_zero_le W.1;have:=br7 (α:=α) (P:=P) K (p:=p) (len:=xs.length) (cap:=cap) w (some (.int kl l1)) none l1 xs.length (.inr ⟨_,rfl⟩) (.inl ⟨rfl,rfl⟩) (by omega) (by omega) hc;simp [execOp,M,H.eval hx,H.eval N,Instr.sliceAt,run_underlying K.und,this]
theorem bl2 (K:mO P t e (GT.sz α)) (W:GT.rep h [v] xs) (N:o.op=.slice t x none (some yh) none) (hx:ev l x=some v) (O:ev l yh=some (.int kh hi)) (hb:(0:Int)<=0/\0<=hi/\hi<=(xs.length:Int)) (w:World) :
  Yl P l w o (sj (GT.sz α) v (0:Int).toNat hi.toNat):=λn a H=>by
 obtain ⟨p,cap,rfl,hc⟩:=bs1 W;obtain ⟨M,rfl⟩:=Int.eq_ofNat_of_zero_le hb.2.1;have:=br7 (α:=α) (P:=P) K (p:=p) (len:=xs.length) (cap:=cap) w none (some (.int kh M)) 0 M (.inl ⟨rfl,rfl⟩) (.inr ⟨_,rfl⟩) (by omega) (by omega) hc;simp [execOp,N,H.eval hx,H.eval O,Instr.sliceAt,run_underlying K.und,this]
end
def Str.sub (s:Str) (lo hi:Nat):Str:=⟨(s.b.take hi).drop lo,by have:=s.h;simp;omega⟩
section
variable {P:Program} {l:Env} {o:Oper} {x yl yh:Operand} {t:TypeId} {s:Str} {lo hi:Int} {kl kh:IntKind}
end
def o6 {α:Type} (xs ys:List α) (lo hi:Nat):List α:=xs.take lo++ys.take (min ys.length (hi - lo))++xs.drop (lo+min ys.length (hi - lo))
theorem wT {α:Type} {xs ys:List α} {lo hi:Nat} (H:lo<=hi) (K:hi<=xs.length):(o6 xs ys lo hi).length=xs.length:=by
 simp [o6];omega
section
variable {α:Type} [GT α] [Cheap α] {P:Program} {a:Act} {w w0:World} {hz:kR} {L:List Ch} {o:Oper} {n:Nat} {l:Env} {v sv z:Value} {x y:Operand} {t e:TypeId} {xs ys:List α} {lo hi:Nat}
theorem cb0 (k : Nat) (hT : mO P t e (GT.sz α)) (aX : 0 < GT.sz α) (hf : Fr n l a) (hm : Mem w0 hz w L) (hk : L[k]? = some (ow [sv] xs)) (aT : GT.rep (hp w) [v] ys) (ho : o.op = .call { callee := .builtin .copy, args := #[x, y], argTypes := #[t, t] })
  (hx:ev l x=some (sj (GT.sz α) sv lo hi)) (hy:ev l y=some v) (h1:lo<=hi) (h2:hi<=xs.length) :
  Ef P a w o (λr w'=>r=.int .i64 ((min ys.length (hi - lo):Nat):Int)/\Mem w0 hz w' (L.set k (ow [sv] (o6 xs ys lo hi)))):=by
 obtain ⟨H,M,aR⟩:=cd8 aT;obtain ⟨F,hF,_⟩:=hm.get k hk;have N:=M.len (P:=P) (w':=w);rcases ke.1 hF with ⟨rfl,rfl⟩ | ⟨b,off,len,cap,C,T,rfl,_,hb,hl,hc,aS,aL,fps,_,_,_⟩
 ·simp at h2;subst h2;have h0:lo=0:=by omega
  subst h0;have a9:o6 ([]:List α) ys 0 0=[]:=by simp [o6]
  rw [a9]
  have K:(Builtin.firstCells (GT.sz α) 0 v).run P w=.ok #[] w:=by
   obtain ⟨q1,_,⟨rfl,q2⟩ | ⟨ad,c,rfl,q3⟩⟩:=M
   ·simp [Builtin.firstCells]
   ·have := run_firstCells_some (P := P) w (GT.sz α) 0 ad ys.length c [] (by simp) (by simp);simpa using this
  refine nR (w':=w) (v:=.int .i64 0) ?_ ⟨by simp,by
   rw [show L.set k (ow [Value.slice none 0 0] ([]:List α))=L from by
    apply List.ext_getElem?;intro i;by_cases e:i=k
    ·subst e;rw [List.getElem?_set_self (lgE.1 hk).1,hk]
    ·rw [List.getElem?_set_ne (Ne.symm e)]]
   exact hm⟩
  simp [execOp,ho,resolve,invoke,builtin,hf.eval hx,hf.eval hy,sj,Builtin.copy_,run_underlying hT.und,N,hT.size,K,goInt]
 ·subst hl;have aA:w.heap[b]?=some (.cells C T (0,0)):=hb
  have K:∀ m,m<=ys.length->(Builtin.firstCells (GT.sz α) m v).run P w=.ok (H.take (m*GT.sz α)).toArray w:=by
   intro m aO;obtain ⟨q1,_,⟨rfl,q2⟩ | ⟨ad,c,rfl,q3⟩⟩:=M
   ·have : m = 0 := by omega
    subst this;simp [Builtin.firstCells]
   ·refine run_firstCells_some (P:=P) w (GT.sz α) m ad ys.length c _ ?_ (λj u hj=>q3 j u ?_)
    ·rw [List.length_take,q1];have:=Nat.mul_le_mul_right (GT.sz α) aO;omega
    ·have aM:=(lgE.1 hj).1;rw [List.length_take] at aM
     rwa [List.getElem?_take_of_lt (by omega)] at hj
  have a5:min ys.length (hi - lo)<=ys.length:=Nat.min_le_left _ _
  have aG:(H.take (min ys.length (hi - lo)*GT.sz α)).length=min ys.length (hi - lo)*GT.sz α:=by
   rw [List.length_take,M.1];have:=Nat.mul_le_mul_right (GT.sz α) a5;omega
  by_cases aH:cap=lo
  ·have h3 : hi = lo := by omega
   subst h3;have aZ:min ys.length (hi - hi)=0:=by simp
   have aI:o6 xs ys hi hi=xs:=by simp [o6]
   rw [aI];have aF:=K 0 (by omega);simp only [Nat.zero_mul,List.take_zero] at aF;have a3:∀ ad:Addr,(storeCells ad []).run P w=.ok () w:=λad=>by simp [storeCells]
   refine nR (w':=w) (v:=.int .i64 0) ?_ ⟨by simp,by
    rw [show L.set k (ow [Value.slice (some ⟨b,off,none⟩) xs.length cap] xs)=L from by
     apply List.ext_getElem?;intro i;by_cases e:i=k
     ·subst e;rw [List.getElem?_set_self (lgE.1 hk).1,hk]
     ·rw [List.getElem?_set_ne (Ne.symm e)]]
    exact hm⟩
   simp [execOp,ho,resolve,invoke,builtin,hf.eval hx,hf.eval hy,sj,Builtin.copy_,run_underlying hT.und,N,hT.size,aH,aF,a3,goInt]
  ·have aC:off+lo*GT.sz α+(H.take (min ys.length (hi - lo)*GT.sz α)).length<=C.size:=by
    rw [aG,Nat.add_assoc,<- Nat.add_mul];have:=Nat.mul_le_mul_right (GT.sz α) (show lo+min ys.length (hi - lo)<=cap by omega);omega
   have a3:=run_storeCells_at P b (off+lo*GT.sz α) T (H.take (min ys.length (hi - lo)*GT.sz α)) 0 C w aA (by simpa using aC) (λu W=>M.2.1 u (List.mem_of_mem_take W));simp only [Nat.add_zero] at a3;refine nR (w':=w.setRow b (mM C.toList (off+lo*GT.sz α) (H.take (min ys.length (hi - lo)*GT.sz α))).toArray) (v:=.int .i64 ((min ys.length (hi - lo):Nat):Int)) ?_ ⟨rfl,?_⟩
   ·simp only [execOp,ho,resolve,invoke,builtin];simp [hf.eval hx,hf.eval hy,sj,Builtin.copy_,run_underlying hT.und,N,hT.size,aH,K _ a5,a3,goInt,oT,mM]
   ·refine hm.upd k hk ⟨rfl, rfl, rfl, by simp⟩ fun G hG aV => ?_
    rcases ke.1 hG with ⟨hv,_⟩ | ⟨_,_,_,_,_,_,hv,a4,a8,_,_,_,_,a6,aE,aP,aQ⟩
    ·cases hv
    simp only [Value.slice.injEq,osI,Addr.mk.injEq] at hv;obtain ⟨⟨rfl,rfl,_⟩,rfl,rfl⟩:=hv;rw [hb] at a8;simp only [osI,Obj.cells.injEq] at a8;obtain ⟨rfl,rfl,_⟩:=a8;refine ⟨G,λ_ h=>.inl h,λc hc=>by simpa using aV c hc,?_,λc _ aJ=>setRow_other w b c _ (λe=>aJ (by subst e;exact a4))⟩;have O:off+lo*GT.sz α+(H.take (min ys.length (hi - lo)*GT.sz α)).length<=C.toList.length:=by simpa using aC
    refine ke.2 (.inr ⟨b,off,xs.length,cap,(mM C.toList (off+lo*GT.sz α) (H.take (min ys.length (hi - lo)*GT.sz α))).toArray,T,rfl,a4,setRow_heap w b C _ T _ aA,wT h1 h2,hc,aS,by simp [n5 O];exact aL,λi c=>(i<lo\/lo+min ys.length (hi - lo)<=i)/\a6 i c,λi c hc=>aE i c hc.2,λi j c aN hi hj=>aP i j c aN hi.2 hj.2,λi u W=>?_⟩);have aY:i<xs.length:=by have:=(lgE.1 W).1;rwa [wT h1 h2] at this
    by_cases b0:lo<=i/\i<lo+min ys.length (hi - lo)
    ·have a7:ys[i - lo]?=some u:=by
      have aB:(xs.take lo).length=lo:=by simp;omega
      unfold o6 at W;rw [List.append_assoc,List.getElem?_append_right (by omega),aB,List.getElem?_append_left (by simp;omega),List.getElem?_take_of_lt (by omega)] at W;exact W
     have hr:=aR _ u a7
     have a0:seg (mM C.toList (off+lo*GT.sz α) (H.take (min ys.length (hi - lo)*GT.sz α))).toArray (off+i*GT.sz α) (GT.sz α)=(H.drop ((i - lo)*GT.sz α)).take (GT.sz α):=by
      apply List.ext_getElem?;intro q;by_cases hq:q<GT.sz α
      ·rw [nP hq,List.getElem?_toArray,nY O,List.getElem?_take_of_lt hq,List.getElem?_drop];have e1:i*GT.sz α=lo*GT.sz α+(i - lo)*GT.sz α:=by rw [<- Nat.add_mul];congr 1;omega
       have e2:=mg (s:=GT.sz α) (show i - lo<min ys.length (hi - lo) by omega);rw [if_pos (by omega),List.getElem?_take_of_lt (by omega)]
       congr 1
       omega
      ·rw [List.getElem?_eq_none (by simp [seg];omega),List.getElem?_eq_none (by simp;omega)]
     rw [a0]
     exact Cheap.own_of (GT.mono (λc o aK=>aK) (by
      have:=hr
      exact (GT.own_rep (GT.own_loc (F:=λ_=>False) (Cheap.own_of this) (λ_ h=>h.elim)))))
    ·have a7:xs[i]?=some u:=by
      have aB:(xs.take lo).length=lo:=by simp;omega
      unfold o6 at W;by_cases aW:i<lo
      ·rw [List.append_assoc, List.getElem?_append_left (by omega), List.getElem?_take_of_lt aW] at W;exact W
      ·rw [List.getElem?_append_right (by simp; omega), List.getElem?_drop] at W;rw [<- W]
       congr 1
       simp;omega
     have aD:=aQ i u a7
     have a0:seg (mM C.toList (off+lo*GT.sz α) (H.take (min ys.length (hi - lo)*GT.sz α))).toArray (off+i*GT.sz α) (GT.sz α)=seg C (off+i*GT.sz α) (GT.sz α):=by
      apply List.ext_getElem?;intro q;by_cases hq:q<GT.sz α
      ·rw [nP hq,List.getElem?_toArray,nY O,nP hq,if_neg]
       ·simp
       ·rw [aG];rintro ⟨_,_⟩;rcases Nat.lt_or_ge i lo with h | h
        ·have:=mg (s:=GT.sz α) h;omega
        ·have aU : lo + min ys.length (hi - lo) <= i := by omega
         have:=Nat.mul_le_mul_right (GT.sz α) aU;rw [Nat.add_mul] at this;omega
      ·rw [List.getElem?_eq_none (by simp [seg];omega),List.getElem?_eq_none (by simp [seg];omega)]
     rw [a0];refine GT.own_mono (F:=a6 i) (λc hc=>⟨by omega,hc⟩) (GT.own_loc aD λc hc=>setRow_other w b c _ (aE i c hc).2)
end
section
variable {w0 w:World} {hz:kR} {L:List Ch}
theorem Mem.blk_part {b i:Nat} {cs ds:List Value} {T:TypeId} (O:Mem w0 hz w L) (k:Nat) (W:L[k]?=some (blk b cs T)) (M:ds=(cs.drop i).take ds.length):kS (hp w) b i ds:=by
 obtain ⟨C,T',N,h1,h2⟩:=O.blk_at k W;refine ⟨C,T',N,h1,λj v K=>?_⟩;have H:=(lgE.1 K).1;rw [M,List.getElem?_take_of_lt H,List.getElem?_drop] at K;have:=h2 _ v K
 rwa [Nat.zero_add] at this
theorem kS.part {h:kR} {b o i:Nat} {cs ds:List Value} (hc:kS h b o cs) (M:ds=(cs.drop i).take ds.length):kS h b (o+i) ds:=by
 refine hc.sub λj v H=>?_
 have K:=(lgE.1 H).1;rw [M,List.getElem?_take_of_lt K,List.getElem?_drop] at H;exact H
end
section
variable {w0 w:World} {hz:kR} {L:List Ch} {α:Type} [GT α] {b off len cap i:Nat} {xs:List α} {x:α}
end
section
variable {α:Type} [GT α] {w0 w:World} {hz:kR} {L:List Ch}
def els (cs:List Value) (xs:List α):Ch where
 pr F h:=cs.length=xs.length*GT.sz α/\∃ fps:Nat->Nat->Prop,(∀ i c,fps i c->F c)/\(∀ i j c,i≠j->fps i c->¬ fps j c)/\ab9 fps h cs xs
 loc F h h':=λ⟨K,fps,H,M,N⟩ O=>⟨K,fps,H,M,λi x W=>GT.own_loc (N i x W) λc hc=>O c (H i c hc)⟩
 mono F F' h:=λ⟨K,fps,H,M,N⟩ hF=>⟨K,fps,λi c hc=>hF c (H i c hc),M,N⟩
theorem Mem.els_nil (H:Mem w0 hz w L):Mem w0 hz w (els ([]:List Value) ([]:List α)::L) :=
 H.more (tT.refl w) (λ_ _=>rfl) ⟨λ_=>False,λ_ h=>h.elim,by simp,λ_ _=>False,λ_ _ h=>h,λ_ _ _ _ h=>h.elim,λi x K=>by simp at K⟩
theorem Mem.els_cons {c cs:List Value} {x:α} {xs:List α} (hm:Mem w0 hz w L) (k j:Nat) (O:k≠j) (hk:L[k]?=some (els cs xs)) (H:L[j]?=some (ow c x)) :
  Mem w0 hz w ((L.set k (els (c++cs) (x::xs))).set j bg6) :=
 hm.merge k j O hk H λF G ⟨hl,fps,N,h2,h3⟩ hG K=>by
  have hc:c.length=GT.sz α:=GT.len (GT.own_rep hG);refine ⟨by simp [hl,hc,Nat.add_mul,Nat.add_comm],λi=>match i with | 0=>G | i+1=>fps i,?_,?_,?_⟩
  ·intro i c hi;cases i with
   | zero=>exact .inr hi
   | succ i=>exact .inl (N i c hi)
  ·intro i j c a0 hi H;cases i with
   | zero =>
    cases j with
    | zero=>exact a0 rfl
    | succ j=>exact K c (N j c H) hi
   | succ i =>
    cases j with
    | zero=>exact K c (N i c hi) H
    | succ j=>exact h2 i j c (by omega) hi H
  ·intro i y M;cases i with
   | zero =>
    simp at M;subst M;have W:GT.own G (hp w) c x:=hG;simpa [hc] using W
   | succ i =>
    have:=h3 i y (by simpa using M);rw [show (i+1)*GT.sz α=c.length+i*GT.sz α by rw [Nat.add_mul,hc];omega,List.drop_append,List.drop_eq_nil_of_le (by omega)];simpa using this
theorem Mem.lit_els {b len e:Nat} {cs:List Value} {xs:List α} (hm:Mem w0 hz w L) (k j:Nat) (H:k≠j) (hk:L[k]?=some (blk b cs e)) (hj:L[j]?=some (els cs xs)) (hl:xs.length=len) (M:Nat.ble len 16777216=true) :
  Mem w0 hz w ((L.set k (ow [.slice (some ⟨b,0,none⟩) len len] xs)).set j bg6):=by
 have h2:=Nat.le_of_ble_eq_true M;refine hm.merge k j H hk hj λF G O ⟨K,fps,W,g2,g3⟩ N=>?_
 refine ke.2 (.inr ⟨b,0,len,len,cs.toArray,e,rfl,.inl O.1,O.2,hl,Nat.le_refl _,⟨by simp [maxLen];omega,by omega⟩,by rw [List.size_toArray,K,hl];omega,fps,λi c hc=>⟨.inr (W i c hc),λh=>N c (by rw [h];exact O.1) (W i c hc)⟩,g2,λi x hx=>?_⟩);have:=g3 i x hx;rw [bf5,Nat.zero_add];exact this
end
theorem ae5 {P:Program} {l:Env} {w:World} {o:Oper} {u v:Value} (H:v=u) (h:Yl P l w o u):Yl P l w o v:=by rw [H];exact h
theorem al9 {α:Type} [GT α] {h:kR} {v H:Value} {xs ys:List α} {lo hi:Int} (M:H=sj (GT.sz α) v lo.toNat hi.toNat) (K:(xs.take hi.toNat).drop lo.toNat=ys) (O:0<=lo/\lo<=hi/\hi<=(xs.length:Int)) (N:GT.rep h [v] xs):GT.rep h [H] ys:=by
 rw [M,<- K];exact ch0 N (by omega) (by omega)
theorem subV_whole {α:Type} [GT α] {F:Nat->Prop} {h:kR} {v:Value} {xs:List α} (K:GT.own F h [v] xs):sj (GT.sz α) v 0 xs.length=v:=by
 rcases ke.1 K with ⟨rfl,rfl⟩ | ⟨b,off,len,cap,C,T,rfl,_,_,H,hc,_,hs,fps,_,_,_⟩
 ·rfl
 ·simp only [sj,Nat.sub_zero,H];split
  ·rfl
  ·simp [oT]
theorem Mem.subV_whole {α:Type} [GT α] {w0 w:World} {hz:kR} {L:List Ch} {v:Value} {xs:List α} (H:Mem w0 hz w L) (k:Nat) (K:L[k]?=some (ow [v] xs)):sj (GT.sz α) v 0 xs.length=v :=
 let ⟨_,h,_⟩:=H.get k K
 Wk.subV_whole h
section
variable {α β:Type} [GT α] [GT β] {w0 w:World} {hz:kR} {L:List Ch}
end
section
variable {P:Program} {fn:Func} {R:Value->World->Prop} {a:Act} {w:World} {n:Nat} {l:Env} {v1 v2 v3 v4:Value} {t1 t2 t3 t4:Nat}
end
section
variable {α:Type} [GT α] {P:Program} {a:Act} {w w0:World} {hz:kR} {L:List Ch} {o:Oper} {n:Nat} {l:Env} {v sv z:Value} {x y:Operand} {t e:TypeId} {xs ys:List α} {lo hi:Nat}
end
def tv (n:Int):Option Unit:=if n<=9223372036854775807 then some () else none
theorem sM {n:Int} {u:Unit}:tv n=some u↔n<=9223372036854775807:=by
 unfold tv;by_cases h:n<=9223372036854775807<;>simp [h]
end Go.Wk
namespace Go.Wk
open Go Go.RowKit
inductive Ord
 | fin
 | q (i:Nat) (t:Ord)
 | p (i:Nat) (t:Ord)
 | e (i:Nat) (t:Ord) (more:Ord)
 | nil
def Ord.choices:Ord->List Nat
 | .e i _ more=>i::more.choices
 | _=>[]
def okT (md:Region.Mode) (ops:Array Oper) (ns ps:List Nat):Ord->Nat->Bool->Array Bool->Bool
 | .fin,fuel,first,listed=>first&&fuel == 0&&(Region.ready md ops listed).isEmpty
 | .q _ _,0,_,_=>false
 | .q i t, fuel + 1, first, listed => first && (Region.free md ops listed i && (Region.ready md ops listed).contains i &&
   ((List.range ops.size).all λj=>j == i||ns.contains j||ps.contains j||at8 md ops ops.size j i||at8 md ops ops.size i j))&&okT md ops ns ps t fuel true (listed.setIfInBounds i true)
 | .p _ _,0,_,_=>false
 | .p i t,fuel+1,first,listed=>first&&(Region.free md ops listed i&&(Region.ready md ops listed).contains i&&!ns.contains i)&&okT md ops ns ps t fuel true (listed.setIfInBounds i true)
 | .e _ _ _,0,_,_=>false
 | .e i t more,fuel+1,first,listed=>(!first||Region.ready md ops listed == i::more.choices)&&!ps.contains i&&okT md ops ns ps t fuel true (listed.setIfInBounds i true)&&okT md ops ns ps more (fuel+1) false listed
 | .nil,_,first,_=>!first
section
variable {P:Program} {ops:Array Oper} {Q:Exit->Act->World->Prop} {md:Region.Mode} {S:World->Prop} {ns ps:List Nat}
def y5 (P:Program) (md:Region.Mode) (ops:Array Oper) (Q:Exit->Act->World->Prop) (S:World->Prop) (ns ps:List Nat):Nat->Array Bool->Act->World->Prop
 | 0,H,a,w=>Region.ready md ops H=[]/\Q .normal a w
 | fuel+1,H,a,w =>
  (Region.ready md ops H=[]->Q .normal a w) /\
  ∀ i∈Region.ready md ops H,wpOp P ops Q i (λK w'=>((ns.contains i=true->S w')/\(ps.contains i=true->w'=w))/\y5 P md ops Q S ns ps fuel (H.setIfInBounds i true) K w') a w
theorem am0:∀ (H:Nat) (K:Array Bool) (a:Act) (w:World),y5 P md ops Q S ns ps H K a w->wpAny P md ops Q H K a w
 | 0,_,_,_,h=>h
 | H+1,_,_,_,h=>⟨h.1,λi hi=>wpOp_mono (λM w' h'=>am0 H _ M w' h'.2) (h.2 i hi)⟩
theorem zh {i:Nat} {oi:Oper} {v:Value} {S0:World->Prop} (hi:ops[i]?=some oi) (a5:∀ (j:Nat) (o:Oper) cs b,ops[j]?=some o->o.op≠.select cs b)
  (hQ:∀ c a w,Q (.panic c) (a.put oi.dst v) w->Q (.panic c) a w)
  (a3:∀ w,S0 w->ns.contains i=true->S w)
  (aG:∀ j oj,ops[j]?=some oj->j≠i->(∀ n,at8 md ops n j i=false)->(∀ n,at8 md ops n i j=false)->∀ w w',S0 w->(ns.contains j=true->S w')->(ps.contains j=true->w'=w)->S0 w') :
  ∀ (O:Nat) (K:Array Bool) (a:Act) (w:World),tH md ops K ->
   (∀ j oj,ops[j]?=some oj->j≠i->K.getD j true=false->(∀ e∈oj.after,Region.binds md e=true->e.on≠i)->oi.apart ops oj=true) ->
   i∈Region.ready md ops K->YieldsIf P ops S0 oi v a->S0 w ->
   y5 P md ops Q S ns ps O (K.setIfInBounds i true) (a.put oi.dst v) w->y5 P md ops Q S ns ps (O+1) K a w:=by
 intro O
 induction O with
 | zero =>
  intro K a w _ _ hr hy hS H;refine ⟨λh=>(by rw [h] at hr;cases hr),λj hj=>?_⟩;by_cases M:j=i
  ·subst M;exact hy.wpOp hi hS ⟨⟨a3 w hS,λ_=>rfl⟩,H⟩
  ·have:=ready_mono hj M;rw [H.1] at this;cases this
 | succ O ih =>
  intro K a w a8 a1 hr hy hS H;refine ⟨λh=>(by rw [h] at hr;cases hr),λj hj=>?_⟩;by_cases M:j=i
  ·subst M;exact hy.wpOp hi hS ⟨⟨a3 w hS,λ_=>rfl⟩,H⟩
  ·have N:=H.2 j (ready_mono hj M);obtain ⟨a0,oj,a2,a6⟩:=mem_ready.1 hj
   have aB:∀ e∈oj.after,Region.binds md e=true->e.on≠i:=λe he hb aF=>by
    have N:=a6 e he hb;have h0:=(mem_ready.1 hr).1;rw [aF] at N;rcases Nat.lt_or_ge i K.size with h' | h'
    ·simp [h'] at h0 N;rw [h0] at N;cases N
    ·simp [Array.getElem?_eq_none h'] at N
   have aH:=aG j oj a2 M (λm=>by
    cases hd:at8 md ops m j i with
    | false=>rfl
    | true =>
     have N:=yf a8 m j i (λok W e he hb=>by
      rw [a2] at W;simp only [osI] at W;subst W
      exact a6 e he hb) hd
     have h0:=(mem_ready.1 hr).1;rcases Nat.lt_or_ge i K.size with h' | h'
     ·simp [h'] at h0 N;rw [h0] at N;cases N
     ·simp [Array.getElem?_eq_none h'] at N) (λm=>by
    cases hd:at8 md ops m i j with
    | false=>rfl
    | true =>
     obtain ⟨_,_,aA,a7⟩:=mem_ready.1 hr
     have N:=yf a8 m i j (λok W e he hb=>by
      rw [aA] at W;simp only [osI] at W;subst W
      exact a7 e he hb) hd
     rcases Nat.lt_or_ge j K.size with h' | h'
     ·simp [h'] at a0 N;rw [a0] at N;cases N
     ·simp [Array.getElem?_eq_none h'] at N)
   have h2:=wpOp_putIf a2 (a1 j oj a2 M a0 aB) (λcs b=>a5 i oi cs b hi) (λcs b=>a5 j oj cs b a2) hQ hy N
   have a4:∀ k ok,ops[k]?=some ok->k≠i->(K.setIfInBounds j true).getD k true=false ->
     (∀ e∈ok.after,Region.binds md e=true->e.on≠i)->oi.apart ops ok=true:=λk ok hk aE aC aD=>by
    refine a1 k ok hk aE ?_ aD;by_cases a9:j=k
    ·subst a9;exact a0
    ·rw [getD_set_ne true a9] at aC;exact aC
   refine wpOp_mono (λa' w' h3=>⟨h3.2.1,ih (K.setIfInBounds j true) a' w' (wV a8 hj) a4 (ready_mono hr (Ne.symm M)) h3.1 (aH w w' hS h3.2.1.1 h3.2.1.2) ?_⟩) h2;rw [Array.setIfInBounds_comm _ _ M];exact h3.2.2
def wpT (P:Program) (ops:Array Oper) (S:World->Prop) (ns:List Nat) (Q:Exit->Act->World->Prop):Ord->Act->World->Prop
 | .fin,a,w=>Q .normal a w
 | .q i t,a,w=>∃ o v,ops[i]?=some o/\YieldsIf P ops S o v a/\S w/\wpT P ops S ns Q t (a.put o.dst v) w
 | .p i t,a,w=>∃ o v,ops[i]?=some o/\YieldsIf P ops (λ_=>True) o v a/\wpT P ops S ns Q t (a.put o.dst v) w
 | .e i t more,a,w=>wpOp P ops Q i (λH w'=>(ns.contains i=true->S w')/\wpT P ops S ns Q t H w') a w/\wpT P ops S ns Q more a w
 | .nil,_,_=>True
theorem am5 (a:Act) (d:Option Nat) (v:Value):(a.put d v).defers=a.defers:=by cases d<;>rfl
theorem bk1 (hs:Region.noSelect ops=true) (hQ:∀ c (a a':Act) w,a.defers=a'.defers->Q (.panic c) a w->Q (.panic c) a' w):∀ (t:Ord) (K:Nat) (H:Array Bool) (a:Act) (w:World),tH md ops H ->
  (okT md ops ns ps t K true H=true->wpT P ops S ns Q t a w->y5 P md ops Q S ns ps K H a w) /\
  (∀ f,K=f+1->okT md ops ns ps t K false H=true->wpT P ops S ns Q t a w->(∀ j∈t.choices,j∈Region.ready md ops H) ->
   ∀ j∈t.choices,wpOp P ops Q j (λa' w'=>((ns.contains j=true->S w')/\(ps.contains j=true->w'=w))/\y5 P md ops Q S ns ps f (H.setIfInBounds j true) a' w') a w):=by
 intro t
 induction t with
 | fin =>
  intro K H a w M;refine ⟨λh N=>?_,λf hf h=>by simp [okT] at h⟩;simp only [okT,Bool.true_and,Bool.and_eq_true,beq_iff_eq,List.isEmpty_iff] at h;obtain ⟨rfl,h⟩:=h;exact ⟨h,N⟩
 | nil =>
  intro K H a w M;exact ⟨λh=>by simp [okT] at h,λf hf h N hr j W=>by simp [Ord.choices] at W⟩
 | q i t ih =>
  intro K H a w M;cases K with
  | zero=>exact ⟨λh=>by simp [okT] at h,λf hf h=>by simp [okT] at h⟩
  | succ K =>
   refine ⟨λh N=>?_,λf hf h=>by simp [okT] at h⟩;obtain ⟨o,v,ho,hy,hS,N⟩:=N;simp only [okT,Bool.true_and,Bool.and_eq_true] at h;obtain ⟨⟨⟨h1,h2⟩,h3⟩,h4⟩:=h;refine zh ho (Region.noSelect_spec hs) (λc a w h=>hQ c _ _ w (am5 _ _ _) h) (λw h _=>h) ?_ K H a w M (Region.free_spec ho h1) (by simpa using h2) hy hS ((ih K _ _ w (wV M (by simpa using h2))).1 h4 N);intro j _ W a4 a1 a0 w w' a7 hn hp;rw [List.all_eq_true] at h3;have a2:j<ops.size:=(Array.getElem?_eq_some_iff.1 W).1;have:=h3 j (List.mem_range.2 a2);simp only [Bool.or_eq_true,beq_iff_eq] at this;rcases this with (((h | h) | h) | h) | h
   ·exact absurd h a4
   ·exact hn h
   ·rw [hp h];exact a7
   ·rw [a1] at h;cases h
   ·rw [a0] at h;cases h
 | p i t ih =>
  intro K H a w M;cases K with
  | zero=>exact ⟨λh=>by simp [okT] at h,λf hf h=>by simp [okT] at h⟩
  | succ K =>
   refine ⟨λh N=>?_,λf hf h=>by simp [okT] at h⟩;obtain ⟨o,v,ho,hy,N⟩:=N;simp only [okT,Bool.true_and,Bool.and_eq_true,Bool.not_eq_true'] at h;obtain ⟨⟨⟨h1,h2⟩,h3⟩,h4⟩:=h;exact zh (S0:=λ_=>True) ho (Region.noSelect_spec hs) (λc a w h=>hQ c _ _ w (am5 _ _ _) h) (λw _ hn=>by rw [h3] at hn;cases hn) (λ_ _ _ _ _ _ _ _ _ _ _=>trivial) K H a w M (Region.free_spec ho h1) (by simpa using h2) hy trivial ((ih K _ _ w (wV M (by simpa using h2))).1 h4 N)
 | e i t more a3 a6 =>
  intro K H a w M;cases K with
  | zero=>exact ⟨λh=>by simp [okT] at h,λf hf h=>by simp [okT] at h⟩
  | succ K =>
   have O:∀ first,okT md ops ns ps (.e i t more) (K+1) first H=true->wpT P ops S ns Q (.e i t more) a w->(∀ j∈i::more.choices,j∈Region.ready md ops H) ->
     ∀ j∈i::more.choices,wpOp P ops Q j (λa' w'=>((ns.contains j=true->S w')/\(ps.contains j=true->w'=w))/\y5 P md ops Q S ns ps K (H.setIfInBounds j true) a' w') a w:=by
    intro first h N hr j W
    simp only [okT,Bool.and_eq_true,Bool.not_eq_true'] at h;obtain ⟨⟨⟨_,h1⟩,h2⟩,h3⟩:=h;rcases List.mem_cons.1 W with rfl | W
    ·exact wpOp_mono (λa' w' h'=>⟨⟨h'.1,λhp=>by rw [h1] at hp;cases hp⟩,(a3 K _ a' w' (wV M (hr j List.mem_cons_self))).1 h2 h'.2⟩) N.1
    ·exact (a6 (K+1) H a w M).2 K rfl h3 N.2 (λk hk=>hr k (List.mem_cons_of_mem _ hk)) j W
   refine ⟨λh N=>?_,λf hf h N hr j W=>?_⟩
   ·have h0:=h;simp only [okT,Bool.not_true,Bool.false_or,Bool.and_eq_true,beq_iff_eq] at h0;obtain ⟨⟨⟨h1,_⟩,_⟩,_⟩:=h0;refine ⟨λh0=>(by rw [h0] at h1;cases h1),λj W=>?_⟩;have a5:j∈i::more.choices:=by rw [<- h1];exact W
    exact O true h N (λk hk=>by rw [h1];exact hk) j a5
   ·obtain rfl : K = f := by omega
    exact O false h N hr j W
def bq0 (ops:Array Oper) (ns ps:List Nat) (t:Ord):Bool :=
 Region.noSelect ops&&okT .any ops ns ps t ops.size true (Array.replicate ops.size false)
theorem cm7 {id:Nat} {a:Act} {w:World} (t:Ord) (ns ps:List Nat) (S:World->Prop) (M:P.follows .mixedOrders=true) (K:bq0 ops ns ps t=true) (N:∀ c a w,¬ Q (.panic c) a w)
  (h:wpT P ops S ns Q t a w.drew):(Code.region id ops true).wk P Q a w:=by
 simp only [bq0,Bool.and_eq_true] at K;obtain ⟨O,W⟩:=K;refine at7 M (am0 (S:=S) (ns:=ns) (ps:=ps) _ _ _ _ ?_)
 exact (bk1 O (λc a _ w _ h=>(N c a w h).elim) t _ _ a _ (λk H=>by
  rw [Array.getD_eq_getD_getElem?,Array.getElem?_replicate] at H
  split at H<;>simp at H)).1 W h
variable {a:Act} {w:World} {o:Oper} {n:Nat} {l:Env} {d i:Nat} {v:Value} {R:Value->World->Prop} {t more:Ord}
end
end Go.Wk
