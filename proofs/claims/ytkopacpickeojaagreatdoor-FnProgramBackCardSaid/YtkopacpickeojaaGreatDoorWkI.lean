/- A part of a proof: general laws of walks, no statement of the seat. -/
import Derived.Test.YtkopacpickeojaaGreatDoorWkA
import Derived.Laws.Strings
import Derived.Laws.Pointers
namespace Go.Wk
open Go Go.RowKit
def qh (n:Int):UInt8:=UInt8.ofNat (n % 256).toNat
theorem ao4 (n:Int):IntKind.u8.wrap n=((qh n).toNat:Int):=by
 rw [IntKind.wrap_u8]
 unfold qh
 simp
 omega
def ch6 (i j:Int):Int:=IntKind.i64.wrap (i*2 ^ (min j.toNat 64))
def cg9 (i j:Int):Int:=i.fdiv (2 ^ (min j.toNat 64))
def bw4 (i j:Int):Int:=IntKind.i64.wrap ((BitVec.ofInt 64 i &&& BitVec.ofInt 64 j).toNat:Int)
def orI (i j:Int):Int:=IntKind.i64.wrap ((BitVec.ofInt 64 i ||| BitVec.ofInt 64 j).toNat:Int)
def bm8 (i j:Int):Option Int:=if j=0 then none else some (w64 (i.tdiv j))
def aj1 (i j:Int):Option Int:=if j=0 then none else some (i.tmod j)
theorem az3 {i j q:Int}:bm8 i j=some q↔j≠0∧w64 (i.tdiv j)=q:=by
 unfold bm8;by_cases h:j=0<;>simp [h]
theorem wJ {i j q:Int}:aj1 i j=some q↔j≠0∧i.tmod j=q:=by
 unfold aj1;by_cases h:j=0<;>simp [h]
section
variable {P:Program} {l:Env} {w:World} {o:Oper} {x y:Operand} {t t' s:TypeId} {k k':IntKind} {i j:Int} {b c:UInt8}
theorem bi1 {d:TypeDesc} (hs:P.underlying s=some d) (hd:P.underlying t=some (.int k)) (ho:o.op=.convert s t x) (hx:ev l x=some (.int k' i)):Yl P l w o (.int k (k.wrap i)):=λn a hf=>by
 simp [execOp,ho,hf.eval hx,convert,run_underlying hs,run_underlying hd,Conv.intToInt]
theorem as0 {d:TypeDesc} (hs:P.underlying s=some d) (hd:P.underlying t=some (.int .u8)) (ho:o.op=.convert s t x) (hx:ev l x=some (.int .i64 i)):Yl P l w o (.int .u8 ((qh i).toNat:Int)):=by
 have:=bi1 (w:=w) hs hd ho hx
 rwa [ao4] at this
theorem xA {d:TypeDesc} (hs:P.underlying s=some d) (hd:P.underlying t=some (.int .i64)) (ho:o.op=.convert s t x) (hx:ev l x=some (.int .u8 (b.toNat:Int))):Yl P l w o (.int .i64 (b.toNat:Int)):=by
 have:=bi1 (w:=w) hs hd ho hx
 have e:IntKind.i64.wrap (b.toNat:Int)=(b.toNat:Int):=lV (by omega) (by have:=b.toNat_lt;omega)
 rwa [e] at this
theorem uy (ho:o.op=.binOp .eql t x y t') (hx:ev l x=some (.int .u8 (b.toNat:Int))) (hy:ev l y=some (.int .u8 (c.toNat:Int))):Yl P l w o (.bool (decide (b=c))):=by
 have:=br8 (P:=P) (w:=w) ho hx hy
 have e:decide ((b.toNat:Int)=(c.toNat:Int))=decide (b=c):=by
  rw [decide_eq_decide]
  constructor
  ·intro h;exact UInt8.toNat_inj.1 (by omega)
  ·rintro rfl;rfl
 rwa [e] at this
theorem bw8 (ho:o.op=.binOp .lss t x y t') (hx:ev l x=some (.int .u8 (b.toNat:Int))) (hy:ev l y=some (.int .u8 (c.toNat:Int))):Yl P l w o (.bool (decide (b<c))):=by
 have:=bs0 (P:=P) (w:=w) ho hx hy
 have e:decide ((b.toNat:Int)<(c.toNat:Int))=decide (b<c):=by
  rw [decide_eq_decide,UInt8.lt_iff_toNat_lt];omega
 rwa [e] at this
theorem xd (ho:o.op=.binOp .leq t x y t') (hx:ev l x=some (.int .u8 (b.toNat:Int))) (hy:ev l y=some (.int .u8 (c.toNat:Int))):Yl P l w o (.bool (decide (b≤c))):=by
 have:=bt0 (P:=P) (w:=w) ho hx hy
 have e:decide ((b.toNat:Int)≤(c.toNat:Int))=decide (b≤c):=by
  rw [decide_eq_decide,UInt8.le_iff_toNat_le];omega
 rwa [e] at this
theorem bx1 (ho:o.op=.binOp .gtr t x y t') (hx:ev l x=some (.int .u8 (b.toNat:Int))) (hy:ev l y=some (.int .u8 (c.toNat:Int))):Yl P l w o (.bool (decide (c<b))):=by
 have:=bs2 (P:=P) (w:=w) ho hx hy
 have e:decide ((c.toNat:Int)<(b.toNat:Int))=decide (c<b):=by
  rw [decide_eq_decide,UInt8.lt_iff_toNat_lt];omega
 rwa [e] at this
theorem bh1 (ho:o.op=.binOp .geq t x y t') (hx:ev l x=some (.int .u8 (b.toNat:Int))) (hy:ev l y=some (.int .u8 (c.toNat:Int))):Yl P l w o (.bool (decide (c≤b))):=by
 have:=bt4 (P:=P) (w:=w) ho hx hy
 have e:decide ((c.toNat:Int)≤(b.toNat:Int))=decide (c≤b):=by
  rw [decide_eq_decide,UInt8.le_iff_toNat_le];omega
 rwa [e] at this
theorem bx6 (ho:o.op=.binOp .sub t x y t') (hx:ev l x=some (.int .u8 (b.toNat:Int))) (hy:ev l y=some (.int .u8 (c.toNat:Int))):Yl P l w o (.int .u8 ((b - c).toNat:Int)):=by
 have:=ar2 (P:=P) (w:=w) ho hx hy
 have e:IntKind.u8.wrap ((b.toNat:Int) - (c.toNat:Int))=((b - c).toNat:Int):=by
  have h1:=b.toNat_lt
  have h2:=c.toNat_lt
  rw [IntKind.wrap_u8,UInt8.toNat_sub]
  omega
 rwa [e] at this
theorem bz5 (ho:o.op=.binOp .and t x y t') (hx:ev l x=some (.int .i64 i)) (hy:ev l y=some (.int .i64 j)):Yl P l w o (.int .i64 (bw4 i j)):=λn a hf=>by
 simp [execOp,ho,hf.eval hx,hf.eval hy,binOp,eqGuard,Op.intBits,bw4]
 rfl
theorem ce1 (ho:o.op=.binOp .or t x y t') (hx:ev l x=some (.int .i64 i)) (hy:ev l y=some (.int .i64 j)):Yl P l w o (.int .i64 (orI i j)):=λn a hf=>by
 simp [execOp,ho,hf.eval hx,hf.eval hy,binOp,eqGuard,Op.intBits,orI]
 rfl
theorem bc5 (ho:o.op=.binOp .quo t x y t') (hx:ev l x=some (.int .i64 i)) (hy:ev l y=some (.int .i64 j)) (hj:j≠0):Yl P l w o (.int .i64 (w64 (i.tdiv j))):=λn a hf=>by
 simp [execOp,ho,hf.eval hx,hf.eval hy,binOp,eqGuard,Op.intDiv,hj,w64]
theorem zt (ho:o.op=.binOp .rem t x y t') (hx:ev l x=some (.int .i64 i)) (hy:ev l y=some (.int .i64 j)) (hj:j≠0):Yl P l w o (.int .i64 (i.tmod j)):=λn a hf=>by
 simp [execOp,ho,hf.eval hx,hf.eval hy,binOp,eqGuard,Op.intDiv,hj]
theorem tk (b:ByteArray):b.toList=b.data.toList:=ByteArray.toList_eq b
theorem tG {p q:Str} (ho:o.op=.binOp .eql t x y t') (hx:ev l x=some (.string ⟨p.b.toArray⟩)) (hy:ev l y=some (.string ⟨q.b.toArray⟩)):Yl P l w o (.bool (decide (p=q))):=λn a hf=>by
 have e:(p.b == q.b)=decide (p=q):=by
  by_cases h:p=q
  ·simp [h]
  ·have:p.b≠q.b:=λh'=>h (Str.ext' h')
   simp [h,this]
 simp [execOp,ho,hf.eval hx,hf.eval hy,binOp,eqGuard,Op.stringOp,tk,e]
theorem vp {p q:Str} (ho:o.op=.binOp .neq t x y t') (hx:ev l x=some (.string ⟨p.b.toArray⟩)) (hy:ev l y=some (.string ⟨q.b.toArray⟩)):Yl P l w o (.bool (decide (p≠q))):=λn a hf=>by
 have e:(!(p.b == q.b))=decide (p≠q):=by
  by_cases h:p=q
  ·simp [h]
  ·have:p.b≠q.b:=λh'=>h (Str.ext' h')
   simp [h,this]
 simp [execOp,ho,hf.eval hx,hf.eval hy,binOp,eqGuard,Op.stringOp,tk,e]
theorem mD {p:Str} (ht:P.underlying t=some .string) (ho:o.op=.call { callee:=.builtin .len,args:=#[x],argTypes:=#[t] }) (hx:ev l x=some (.string ⟨p.b.toArray⟩)):Yl P l w o (.int .i64 (p.b.length:Int)):=by
 have:=ah4 (w:=w) ht ho hx
 exact this
theorem mo {p:Str} (ht:P.underlying t=some .string) (ho:o.op=.index t x y) (hx:ev l x=some (.string ⟨p.b.toArray⟩)) (hy:ev l y=some (.int k i)) (hi:0≤i) (hb:p.b[i.toNat]?=some b):Yl P l w o (.int .u8 (b.toNat:Int)):=λn a hf=>by
 have hlt:i.toNat<p.b.length:=(lgE.1 hb).1
 have hv:=(lgE.1 hb).2
 have e:(⟨p.b.toArray⟩:ByteArray)[i.toNat]?=some b:=by
  rw [getElem?_pos (⟨p.b.toArray⟩:ByteArray) i.toNat (by show i.toNat<p.b.toArray.size;simpa using hlt)]
  show some (p.b.toArray[i.toNat]'_)=_
  simp [hv]
 simp [execOp,ho,hf.eval hx,hf.eval hy,Instr.index,asIntOf,run_underlying ht,hi,e]
theorem zl {p q:Bool} (ht:P.underlying t=some .bool):(Op.equal t (.bool p) (.bool q)).run P w=.ok (p == q) w:=by
 unfold Op.equal
 rw [show Op.maxDepth=9999+1 from rfl]
 unfold Op.equalIn
 rw [Sem.run_bind,run_underlying ht]
 rfl
theorem bu9 {p q:Bool} (ht:P.underlying t=some .bool) (ho:o.op=.binOp .eql t x y t') (hx:ev l x=some (.bool p)) (hy:ev l y=some (.bool q)):Yl P l w o (.bool (decide (p=q))):=λn a hf=>by
 simp only [execOp,ho,hf.eval hx,hf.eval hy,binOp,eqGuard]
 simp [zl ht]
 cases p<;>cases q<;>rfl
theorem ao6 {p q:Bool} (ht:P.underlying t=some .bool) (ho:o.op=.binOp .neq t x y t') (hx:ev l x=some (.bool p)) (hy:ev l y=some (.bool q)):Yl P l w o (.bool (decide (p≠q))):=λn a hf=>by
 simp only [execOp,ho,hf.eval hx,hf.eval hy,binOp,eqGuard]
 simp [zl ht]
 cases p<;>cases q<;>rfl
def tI (k:IntKind) (f:BitVec k.bits→BitVec k.bits→BitVec k.bits) (i j:Int):Int:=k.wrap ((f (BitVec.ofInt k.bits i) (BitVec.ofInt k.bits j)).toNat:Int)
theorem by2 (ho:o.op=.binOp .and t x y t') (hx:ev l x=some (.int k i)) (hy:ev l y=some (.int k j)):Yl P l w o (.int k (tI k (· &&& ·) i j)):=λn a hf=>by
 simp [execOp,ho,hf.eval hx,hf.eval hy,binOp,eqGuard,Op.intBits,tI]
theorem cc4 (ho:o.op=.binOp .or t x y t') (hx:ev l x=some (.int k i)) (hy:ev l y=some (.int k j)):Yl P l w o (.int k (tI k (· ||| ·) i j)):=λn a hf=>by
 simp [execOp,ho,hf.eval hx,hf.eval hy,binOp,eqGuard,Op.intBits,tI]
theorem bv7 (ho:o.op=.binOp .xor t x y t') (hx:ev l x=some (.int k i)) (hy:ev l y=some (.int k j)):Yl P l w o (.int k (tI k (· ^^^ ·) i j)):=λn a hf=>by
 simp [execOp,ho,hf.eval hx,hf.eval hy,binOp,eqGuard,Op.intBits,tI]
end
end Go.Wk
namespace Go.Wk
open Go Go.RowKit
section
variable {α β γ:Type} [GT α] [GT β] [GT γ] {h:kX}
def ce5 (h:kX) (cs:List Value) (x:α) (v:List Value) (inner:β) (put:β→α):Prop :=
 ∀ (F:Nat→Prop),GT.own F h cs x→∃ R G:Nat→Prop,(∀ b,R b→F b)∧(∀ b,G b→F b)∧(∀ b,R b→¬ G b)∧GT.own G h v inner ∧
  ∀ (h':kX) (G':Nat→Prop) (y:β),(∀ b,R b→h' b=h b)→(∀ b,G' b→¬ R b)→GT.own G' h' v y→GT.own (λb=>R b∨G' b) h' cs (put y)
def bm2 (cs:List Value) (v:List Value) (put:β→α):Ch where
 pr R h:=∀ (h':kX) (G':Nat→Prop) (y:β),(∀ b,R b→h' b=h b)→(∀ b,G' b→¬ R b)→GT.own G' h' v y→GT.own (λb=>R b∨G' b) h' cs (put y)
 loc R h h2 hp hh:=λh' G' y e1 e2 e3=>hp h' G' y (λb hb=>(e1 b hb).trans (hh b hb)) e2 e3
 mono R R' h hp hR:=λh' G' y e1 e2 e3=>GT.own_mono (λb hb=>hb.elim (λhb=>.inl (hR b hb)) .inr) (hp h' G' y (λb hb=>e1 b (hR b hb)) (λb hb hr=>e2 b hb (hR b hr)) e3)
variable {w0 w:World} {hz:kX} {L:List Ch}
theorem Mem.open {cs v:List Value} {x:α} {inner:β} {put:β→α} (hm:Mem w0 hz w L) (k:Nat) (hk:L[k]?=some (ow cs x)) (hf:ce5 (hp w) cs x v inner put) :
  Mem w0 hz w (ow v inner::L.set k (bm2 cs v put)):=by
 obtain ⟨hs,hlez,Fs,f1,f2,f3⟩:=hm
 obtain ⟨R,G,r1,r2,r3,r4,r5⟩:=hf _ (f1 k _ hk)
 refine ⟨hs,hlez,λi b=>match i with | 0=>G b | i+1=>if i=k then R b else Fs i b,?_,?_,?_⟩
 ·intro i c hi
  cases i with
  | zero=>simp at hi;subst hi;exact r4
  | succ i =>
   simp only [List.getElem?_cons_succ] at hi
   by_cases e:i=k
   ·subst e
    have hl:i<L.length:=(lgE.1 hk).1
    rw [List.getElem?_set_self hl] at hi
    simp only [osI] at hi
    subst hi
    simp only [if_true]
    exact r5
   ·rw [List.getElem?_set_ne (Ne.symm e)] at hi
    simp only [e,if_false]
    exact f1 i c hi
 ·intro i j b hij hi hj
  cases i with
  | zero =>
   cases j with
   | zero=>exact hij rfl
   | succ j =>
    simp only at hi hj
    split at hj
    ·exact r3 b hj hi
    ·rename_i e;exact f2 k j b (Ne.symm e) (r2 b hi) hj
  | succ i =>
   cases j with
   | zero =>
    simp only at hi hj
    split at hi
    ·exact r3 b hi hj
    ·rename_i e;exact f2 k i b (Ne.symm e) (r2 b hj) hi
   | succ j =>
    simp only at hi hj
    split at hi<;>split at hj
    ·rename_i e1 e2;exact hij (by rw [e1,e2])
    ·rename_i e1 e2;exact f2 k j b (Ne.symm e2) (r1 b hi) hj
    ·rename_i e1 e2;exact f2 k i b (Ne.symm e1) (r1 b hj) hi
    ·exact f2 i j b (by omega) hi hj
 ·intro i b hi
  cases i with
  | zero=>exact f3 k b (r2 b hi)
  | succ i =>
   simp only at hi
   split at hi
   ·exact f3 k b (r1 b hi)
   ·exact f3 i b hi
def both (c d:Ch):Ch where
 pr F h:=∃ F1 G1:Nat→Prop,(∀ b,F1 b→F b)∧(∀ b,G1 b→F b)∧(∀ b,F1 b→¬ G1 b)∧c.pr F1 h∧d.pr G1 h
 loc F h h':=λ⟨F1,G1,a,b,e,p,q⟩ hh=>⟨F1,G1,a,b,e,c.loc _ _ _ p (λx hx=>hh x (a x hx)),d.loc _ _ _ q (λx hx=>hh x (b x hx))⟩
 mono F F' h:=λ⟨F1,G1,a,b,e,p,q⟩ hF=>⟨F1,G1,λx hx=>hF x (a x hx),λx hx=>hF x (b x hx),e,p,q⟩
theorem Mem.both {c d:Ch} (hm:Mem w0 hz w L) (k j:Nat) (hkj:k≠j) (hk:L[k]?=some c) (hj:L[j]?=some d) :
  Mem w0 hz w ((L.set k (both c d)).set j ⟨λ_ _=>True,λ_ _ _ _ _=>trivial,λ_ _ _ _ _=>trivial⟩) :=
 hm.merge k j hkj hk hj λF G h1 h2 h3=>⟨F,G,λ_ h=>.inl h,λ_ h=>.inr h,h3,h1,h2⟩
section
variable {P:Program} {a:Act} {o:Oper} {n:Nat} {l:Env} {v:Value} {x y:Operand} {xs:List α}
theorem zh {C:Array Value} {o m:Nat} (h:o+m≤C.size):(seg C o m).length=m:=by
 simp [seg];omega
theorem aq0 {C:Array Value} {o j m:Nat} {vs:List Value} (hl:o+m≤C.size) (hj:j+vs.length≤m) :
  seg (oy C.toList (o+j) vs).toArray o m=oy (seg C o m) j vs:=by
 have hle:o+j+vs.length≤C.toList.length:=by simp;omega
 have hsl:(seg C o m).length=m:=zh hl
 apply List.ext_getElem?
 intro q
 by_cases hq:q<m
 ·rw [rb hq, List.getElem?_toArray, qz hle, qz (by omega), rb hq]
  by_cases hc:j≤q∧q<j+vs.length
  ·rw [if_pos (by omega),if_pos hc];congr 1;omega
  ·rw [if_neg (by omega),if_neg hc];simp
 ·rw [List.getElem?_eq_none (by simp [seg];omega),List.getElem?_eq_none (by rw [re (by omega)];omega)]
theorem az4 {b off len cap i:Nat} {x0 x1:α} {vs:List Value} {ty:TypeId} (k:Nat) (hf:Fr n l a) (hm:Mem w0 hz w L) (hk:L[k]?=some (both (ow [.slice (some ⟨b,off,none⟩) len cap] xs) (ow vs x1))) (hx0:xs[i]?=some x0)
  (ho:o.op=.store ty x y) (hs:∀ w,(sizeOf ty).run P w=.ok vs.length w) (hx:ev l x=some (.pointer (some ⟨b,off+i*GT.sz α,none⟩))) (hy:ev l y=some v) (hv:v.cells=vs.toArray) (hl:vs.length=GT.sz α) :
  Ef P a w o (λ_ w'=>Mem w0 hz w' (L.set k (ow [.slice (some ⟨b,off,none⟩) len cap] (xs.set i x1)))):=by
 obtain ⟨hi,hxi⟩:=lgE.1 hx0
 obtain ⟨F0,⟨F,H,f1,f2,f3,hF,hH⟩,hFw⟩:=hm.get k hk
 have h1:∀ u∈vs,u.oneCell'=true:=GT.one (GT.own_rep hH)
 obtain ⟨C,T',G,q1,q2,q3,q4,q5,q6⟩:=(mK.1 hF).at hi
 have hst:=run_storeCells_at P b (off+i*GT.sz α) T' vs 0 C w q1 (by simp;omega) h1
 refine yw (w':=w.setRow b (oy C.toList (off+i*GT.sz α) vs).toArray) ?_ ?_
 ·simp [execOp,ho,hf.eval hx,hf.eval hy,Instr.storeAt,Instr.sureAddr,storeVar,hv,hs,hst,oy]
 ·refine hm.upd k hk ⟨rfl, rfl, rfl, by simp⟩ fun F0 ⟨F, H, f1, f2, f3, hF, hH⟩ hFw => ?_
  have ho':=mK.1 hF
  obtain ⟨C2,T2,G2,p1,p2,p3,p4,p5,p6⟩:=ho'.at hi
  rw [q1] at p1
  simp only [osI,Obj.cells.injEq] at p1
  obtain ⟨rfl,rfl,_⟩:=p1
  have hle:off+i*GT.sz α+vs.length≤C.toList.length:=by simp;omega
  have hb':=setRow_heap w b C (oy C.toList (off+i*GT.sz α) vs).toArray T' (0,0) q1
  have hne:∀ c,H c→c≠b:=λc hc e=>f3 c (by subst e;exact p2) hc
  refine ⟨F0,λ_ h=>.inl h,λc hc=>by simpa using hFw c hc,?_,λc _ hne=>setRow_other w b c _ (λe=>hne (by subst e;exact f1 c p2))⟩
  have hsp:=aq0 (C:=C) (o:=off+i*GT.sz α) (j:=0) (m:=GT.sz α) (vs:=vs) (by omega) (by omega)
  rw [Nat.add_zero] at hsp
  have hsv:oy (seg C (off+i*GT.sz α) (GT.sz α)) 0 vs=vs:=by
   have hsl:(seg C (off+i*GT.sz α) (GT.sz α)).length=GT.sz α:=zh (by omega)
   apply List.ext_getElem?
   intro q
   rw [qz (by omega)]
   by_cases hq:q<vs.length
   ·rw [if_pos (by omega)];simp
   ·rw [if_neg (by omega),List.getElem?_eq_none (by omega),List.getElem?_eq_none (by omega)]
  refine GT.own_mono (F:=λc=>F c∨H c) (λc hc=>hc.elim (f1 c) (f2 c)) (mK.2 (nG.put (h':=hp (w.setRow b (oy C.toList (off+i*GT.sz α) vs).toArray)) ho' hi q1 hb' (by simp [re hle]) (λq hq=>?_) (λc _ hne=>setRow_other w b c _ hne) (λc hc hf=>f3 c hf hc) ?_))
  ·simp only [List.getElem?_toArray,qz hle]
   rw [if_neg (by omega)]
   simp
  ·rw [hsp,hsv]
   exact GT.own_loc hH λc hc=>setRow_other w b c _ (hne c hc)
end
end
end Go.Wk
namespace Go.Wk
open Go Go.RowKit
def xg:Ch:=⟨λ_ _=>True,λ_ _ _ _ _=>trivial,λ_ _ _ _ _=>trivial⟩
section
variable {w0 w w':World} {hz hz':kX} {L:List Ch} {c:Ch}
theorem Mem.freeze (hm:Mem w0 hz w L) (k:Nat) (hk:L[k]?=some c):∃ hz',kX.le hz hz'∧(∃ F,c.pr F hz')∧Mem w0 hz' w (L.set k xg):=by
 classical
 obtain ⟨hs,hlez,Fs,f1,f2,f3⟩:=hm
 have hz1:∀ b,Fs k b→(if Fs k b then hp w b else hz b)=hp w b:=λb h=>if_pos h
 have hz2:∀ b,¬ Fs k b→(if Fs k b then hp w b else hz b)=hz b:=λb h=>if_neg h
 refine ⟨λb=>if Fs k b then hp w b else hz b,?_,⟨Fs k,c.loc _ _ _ (f1 k c hk) hz1⟩,hs,?_,λi b=>i≠k∧Fs i b,?_,?_,?_⟩
 ·intro b o hb
  show (if Fs k b then hp w b else hz b)=some o
  rw [hz2 b (λhF=>by rw [(f3 k b hF).1] at hb;cases hb)]
  exact hb
 ·intro b o hb
  by_cases hF:Fs k b
  ·exact (hz1 b hF).symm.trans hb
  ·exact hlez b o ((hz2 b hF).symm.trans hb)
 ·intro i d hi
  by_cases e:i=k
  ·subst e
   have hl:i<L.length:=(lgE.1 hk).1
   rw [List.getElem?_set_self hl] at hi
   simp only [osI] at hi
   subst hi
   trivial
  ·rw [List.getElem?_set_ne (Ne.symm e)] at hi
   exact d.mono _ _ _ (f1 i d hi) λb hb=>⟨e,hb⟩
 ·rintro i j b hij ⟨_,hi⟩ ⟨_,hj⟩
  exact f2 i j b hij hi hj
 ·rintro i b ⟨hne,hi⟩
  exact ⟨(hz2 b (λhF=>f2 i k b hne hi hF)).trans (f3 i b hi).1,(f3 i b hi).2⟩
theorem Mem.thaw (hle:kX.le hz hz') (hm:Mem w0 hz' w L):Mem w0 hz w L:=by
 obtain ⟨hs,hlez,Fs,f1,f2,f3⟩:=hm
 refine ⟨hs,kX.le_trans hle hlez,Fs,f1,f2,λi b hb=>⟨?_,(f3 i b hb).2⟩⟩
 cases h:hz b with
 | none=>rfl
 | some o =>
  have:=hle b o h
  rw [(f3 i b hb).1] at this
  cases this
theorem mY {α:Type} [GT α] {cs:List Value} {x:α} {h:kX} (H:∃ F,(ow cs x).pr F h):GT.rep h cs x:=let ⟨_,h1⟩:=H;GT.own_rep h1
theorem tv {b T:Nat} {cs:List Value} {h:kX} (H:∃ F,(blk b cs T).pr F h):h b=some (.cells cs.toArray T (0,0)):=let ⟨_,h1⟩:=H;h1.2
theorem Mem.hz_cell {b i T:Nat} {cs:List Value} {fz:Nat × Nat} {v:Value} (hm:Mem w0 hz w L) (hb:hz b=some (.cells cs.toArray T fz)) (hi:cs[i]?=some v):w.cell? ⟨b,i,none⟩=some v:=by
 have:=hm.lez b _ hb
 unfold hp at this
 simp [World.cell?,this,hi]
end
def Sh (_hz:kX) (α:Type):Type:=α
instance {hz:kX} {α:Type} [GT α]:GT (Sh hz α) where
 sz:=GT.sz α
 rep _ cs x:=GT.rep (α:=α) hz cs x
 own _ _ cs x:=GT.rep (α:=α) hz cs x
 len:=GT.len (α:=α)
 mono:=λ_ h=>h
 own_rep:=λh=>h
 own_loc:=λh _=>h
 own_mono:=λ_ h=>h
 one:=GT.one (α:=α)
class Cheap (α:Type) [GT α]:Prop where
 own_of:∀ {F h cs} {x:α},GT.rep h cs x→GT.own F h cs x
instance {α:Type} [Flat α]:Cheap α:=⟨λh=>Flat.own_iff.2 (Flat.rep_iff.1 h)⟩
instance {hz:kX} {α:Type} [GT α]:Cheap (Sh hz α):=⟨λh=>h⟩
section
variable {α:Type} [GT α] {hz hz' h:kX} {v:Value} {xs:List α} {F:Nat→Prop}
theorem oO (hle:kX.le hz h) (hr:GT.rep (α:=List (Sh hz α)) h [v] xs):GT.rep (α:=List α) h [v] xs:=by
 refine (nF (α:=α)).2 ?_
 rcases (nF (α:=Sh hz α)).1 hr with hr | ⟨b,off,len,cap,hv,hl,hc,hm,h3⟩
 ·exact .inl hr
 ·exact .inr ⟨b,off,len,cap,hv,hl,hc,hm,λi x hx=>let ⟨cs,c1,c2⟩:=h3 i x hx;⟨cs,c1,GT.mono (α:=α) hle c2⟩⟩
theorem tU (hle:kX.le hz h) (hr:GT.rep (α:=List α) hz [v] xs):GT.rep (α:=List (Sh hz α)) h [v] xs:=by
 refine (nF (α:=Sh hz α)).2 ?_
 rcases (nF (α:=α)).1 hr with hr | ⟨b,off,len,cap,hv,hl,hc,hm,h3⟩
 ·exact .inl hr
 ·exact .inr ⟨b,off,len,cap,hv,hl,hc,hm,λi x hx=>let ⟨cs,c1,c2⟩:=h3 i x hx;⟨cs,c1.mono hle,c2⟩⟩
theorem sh_up (hle:kX.le hz hz') (ho:GT.own (α:=List (Sh hz α)) F h [v] xs):GT.own (α:=List (Sh hz' α)) F h [v] xs:=by
 refine (mK (α:=Sh hz' α)).2 ?_
 rcases (mK (α:=Sh hz α)).1 ho with ho | ⟨b,off,len,cap,C,T,hv,hF,hb,hl,hc,hm,hs,fps,h1,h2,h3⟩
 ·exact .inl ho
 ·exact .inr ⟨b,off,len,cap,C,T,hv,hF,hb,hl,hc,hm,hs,fps,h1,h2,λi x hx=>GT.mono (α:=α) hle (h3 i x hx)⟩
theorem Mem.sh_up {w0 w:World} {L:List Ch} (hm:Mem w0 hz' w L) (hle:kX.le hz hz') (k:Nat) (hk:L[k]?=some (ow (α:=List (Sh hz α)) [v] xs)):Mem w0 hz' w (L.set k (ow (α:=List (Sh hz' α)) [v] xs)) :=
 hm.imp k hk λ_ h=>Wk.sh_up hle h
theorem Mem.shallow {w0 w:World} {L:List Ch} (hm:Mem w0 hz w L) (k:Nat) (hk:L[k]?=some (ow [v] xs)):∃ hz',kX.le hz hz'∧Mem w0 hz' w (L.set k (ow (α:=List (Sh hz' α)) [v] xs)):=by
 classical
 obtain ⟨hs,hlez,Fs,f1,f2,f3⟩:=hm
 have hlk:k<L.length:=(lgE.1 hk).1
 rcases mK.1 (f1 k _ hk) with ho | ⟨b,off,len,cap,C,T,hv,hF,hb,hl,hc,hmx,hsz,fps,h1,h2,h3⟩
 ·refine ⟨hz,kX.le_refl _,hs,hlez,Fs,λi d hi=>?_,f2,f3⟩
  by_cases e:i=k
  ·subst e
   rw [List.getElem?_set_self hlk] at hi
   simp only [osI] at hi
   subst hi
   exact (mK (α:=Sh hz α)).2 (.inl ho)
  ·rw [List.getElem?_set_ne (Ne.symm e)] at hi
   exact f1 i d hi
 ·have e1 : ∀ c, (Fs k c ∧ c ≠ b) → (if Fs k c ∧ c ≠ b then hp w c else hz c) = hp w c := fun c h => if_pos h
  have e2:∀ c,¬ (Fs k c∧c≠b)→(if Fs k c∧c≠b then hp w c else hz c)=hz c:=λc h=>if_neg h
  refine ⟨λc=>if Fs k c∧c≠b then hp w c else hz c,?_,hs,?_,λi c=>if i=k then c=b else Fs i c,?_,?_,?_⟩
  ·intro c o hco
   show (if Fs k c∧c≠b then hp w c else hz c)=some o
   rw [e2 c (λh=>by rw [(f3 k c h.1).1] at hco;cases hco)]
   exact hco
  ·intro c o hco
   by_cases hh:Fs k c∧c≠b
   ·exact (e1 c hh).symm.trans hco
   ·exact hlez c o ((e2 c hh).symm.trans hco)
  ·intro i d hi
   by_cases e:i=k
   ·subst e
    rw [List.getElem?_set_self hlk] at hi
    simp only [osI] at hi
    subst hi
    simp only [if_true]
    refine (mK (α:=Sh _ α)).2 (.inr ⟨b,off,len,cap,C,T,hv,rfl,hb,hl,hc,hmx,hsz,λ_ _=>False,λ_ _ h=>h.elim,λ_ _ _ _ h=>h.elim,λj x hx=>?_⟩)
    exact GT.own_rep (GT.own_loc (h3 j x hx) λc hcj=>e1 c (h1 j c hcj))
   ·rw [List.getElem?_set_ne (Ne.symm e)] at hi
    simp only [e,if_false]
    exact f1 i d hi
  ·intro i j c hij hi hj
   try dsimp only at hi hj
   split at hi<;>split at hj
   ·rename_i a1 a2;exact hij (by rw [a1,a2])
   ·rename_i a1 a2;subst hi;exact f2 k j c (Ne.symm a2) hF hj
   ·rename_i a1 a2;subst hj;exact f2 k i c (Ne.symm a1) hF hi
   ·exact f2 i j c hij hi hj
  ·intro i c hi
   try dsimp only at hi
   split at hi
   ·subst hi
    exact ⟨(e2 c (λh=>h.2 rfl)).trans (f3 k c hF).1,(f3 k c hF).2⟩
   ·rename_i e
    exact ⟨(e2 c (λh=>f2 k i c (Ne.symm e) h.1 hi)).trans (f3 i c hi).1,(f3 i c hi).2⟩
inductive Els (hz:kX):List Value→List α→Prop
 | nil:Els hz [] []
 | cons {c cs:List Value} {x:α} {xs:List α}:GT.rep hz c x→Els hz cs xs→Els hz (c++cs) (x::xs)
theorem Els.get {cs:List Value} {xs:List α} (he:Els hz cs xs):cs.length=xs.length*GT.sz α∧∀ (i:Nat) (x:α),xs[i]?=some x→GT.rep hz ((cs.drop (i*GT.sz α)).take (GT.sz α)) x:=by
 induction he with
 | nil=>exact ⟨by simp,λi x hx=>by simp at hx⟩
 | @cons c cs x xs h1 h2 ih =>
  have hl:=GT.len h1
  refine ⟨by simp [hl,ih.1,Nat.add_mul,Nat.add_comm],λi y hy=>?_⟩
  cases i with
  | zero=>simp at hy;subst hy;simpa [hl] using h1
  | succ i =>
   have:=ih.2 i y (by simpa using hy)
   rw [show (i+1)*GT.sz α=c.length+i*GT.sz α by rw [Nat.add_mul,hl];omega,List.drop_append,List.drop_eq_nil_of_le (by omega)]
   simpa using this
theorem Mem.litSh {w0 w:World} {L:List Ch} {b len e:Nat} {cs:List Value} (hm:Mem w0 hz w L) (k:Nat) (hk:L[k]?=some (blk b cs e)) (he:Els hz cs xs) (hl:xs.length=len) (hmx:Nat.ble len 16777216=true) :
  Mem w0 hz w (L.set k (ow (α:=List (Sh hz α)) [.slice (some ⟨b,0,none⟩) len len] xs)):=by
 have h2:=Nat.le_of_ble_eq_true hmx
 obtain ⟨g1,g2⟩:=he.get
 refine hm.imp k hk λF hF=>?_
 refine (mK (α:=Sh hz α)).2 (.inr ⟨b,0,len,len,cs.toArray,e,rfl,hF.1,hF.2,hl,Nat.le_refl _,⟨by simp [maxLen];omega,by omega⟩,?_,λ_ _=>False,λ_ _ h=>h.elim,λ_ _ _ _ h=>h.elim,λi x hx=>?_⟩)
 ·show 0 + len * GT.sz α ≤ cs.toArray.size
  simp only [List.size_toArray,Nat.zero_add]
  rw [g1,hl]
  exact Nat.le_refl _
 ·show GT.rep (α := α) hz (seg cs.toArray (0 + i * GT.sz α) (GT.sz α)) x
  rw [zV,Nat.zero_add]
  exact g2 i x hx
end
section
variable {α:Type} [GT α] [Cheap α] {P:Program} {a:Act} {w w0:World} {hz:kX} {L:List Ch} {o:Oper} {n:Nat} {l:Env} {v sv z:Value} {x y:Operand} {t e:TypeId} {xs ys:List α}
omit [Cheap α] in
theorem bd7 {w:World} (hr:GT.rep (hp w) [v] ys):∃ news,Src w (GT.sz α) ys.length v news∧∀ (i:Nat) (x:α),ys[i]?=some x→GT.rep (hp w) ((news.drop (i*GT.sz α)).take (GT.sz α)) x:=by
 rcases nF.1 hr with ⟨rfl | ⟨p,cap,rfl⟩,rfl⟩ | ⟨b,off,len,cap,rfl,hl,hc,hm,h3⟩
 ·exact ⟨[],⟨by simp,by simp,.inl ⟨rfl,rfl⟩⟩,λi x hx=>by simp at hx⟩
 ·exact ⟨[],⟨by simp,by simp,.inr ⟨p,cap,rfl,λj u hu=>by simp at hu⟩⟩,λi x hx=>by simp at hx⟩
 ·subst hl
  obtain ⟨cs,g1,g2,g3,g4⟩:=qU.cells (nF.1 hr)
  refine ⟨cs,⟨g1,g2,.inr ⟨_,cap,rfl,λj u hj=>?_⟩⟩,g4⟩
  obtain ⟨C,T,fz,e1,e2⟩:=g3 j u hj
  rw [pq]
  simp only [hp] at e1
  simp [World.cell?,e1,e2]
theorem aw3 (k : Nat) (hT : qw P t e (GT.sz α) z) (hf : Fr n l a) (hm : Mem w0 hz w L) (hk : L[k]? = some (ow [sv] xs)) (hys : GT.rep (hp w) [v] ys) (ho : o.op = .call { callee := .builtin .append, args := #[x, y], argTypes := #[t, t] })
  (hx:ev l x=some sv) (hy:ev l y=some v) (hlen:xs.length+ys.length≤2147483648) :
  Ef P a w o (λv' w'=>Mem w0 hz w' (L.set k (ow [v'] (xs++ys)))):=by
 obtain ⟨news,hsrc,hel⟩:=bd7 hys
 obtain ⟨F,hF,hFw⟩:=hm.get k hk
 obtain ⟨v',w',hr,hs,hout,F',f1,f2,f3⟩:=wu (ty:=o.type) hT (mK.1 hF) (λb hb=>(hFw b hb).1) hsrc rfl (λ_ _=>False) (λi x hx=>Cheap.own_of (hel i x hx)) (λ_ _ h=>h.elim) (λ_ _ _ _ h=>h.elim) hlen
 refine pw (w':=w') (v:=v') ?_ ?_
 ·simp [execOp,ho,resolve,invoke,builtin,hf.eval hx,hf.eval hy,hr]
 ·refine hm.upd k hk hs λG hG hGw=>?_
  obtain ⟨v2,w2,hr2,hs2,hout2,F2,p1,p2,p3⟩:=wu (ty:=o.type) hT (mK.1 hG) hGw hsrc rfl (λ_ _=>False) (λi x hx=>Cheap.own_of (hel i x hx)) (λ_ _ h=>h.elim) (λ_ _ _ _ h=>h.elim) hlen
  rw [hr] at hr2
  simp only [Result.ok.injEq] at hr2
  obtain ⟨rfl,rfl⟩:=hr2
  refine ⟨F2,λb hb=>?_,p2,mK.2 p3,hout2⟩
  rcases p1 b hb with h | ⟨_,h⟩ | h
  ·exact .inl h
  ·exact h.elim
  ·exact .inr h
end
theorem lp {α:Type} [GT α] {P:Program} {a:Act} {w w0:World} {hz:kX} {L:List Ch} {o:Oper} {n:Nat} {l:Env} {v sv z:Value} {x y:Operand} {t e:TypeId} {xs ys:List α} (k:Nat) (hT:qw P t e (GT.sz α) z) (hf:Fr n l a) (hm:Mem w0 hz w L)
  (hk:L[k]?=some (both (ow [sv] xs) (ow [v] ys))) (ho:o.op=.call { callee:=.builtin .append,args:=#[x,y],argTypes:=#[t,t] })
  (hx:ev l x=some sv) (hy:ev l y=some v) (hlen:xs.length+ys.length≤2147483648) :
  Ef P a w o (λv' w'=>Mem w0 hz w' (L.set k (ow [v'] (xs++ys)))):=by
 have key:∀ F G:Nat→Prop,(∀ b,F b→b<w.heap.size)→(∀ b,G b→b<w.heap.size)→(∀ b,F b→¬ G b)→GT.own F (hp w) [sv] xs→GT.own G (hp w) [v] ys →
   ∃ v' w',(Builtin.append_ #[t,t] o.type #[sv,v]).run P w=.ok v' w'∧rW w w'∧(∀ b,b<w.heap.size→¬ F b→w'.heap[b]?=w.heap[b]?) ∧
   ∃ F',(∀ b,F' b→F b∨G b∨w.heap.size≤b)∧(∀ b,F' b→b<w'.heap.size)∧nG F' (hp w') v' (xs++ys):=by
  intro F G hF hG hFG hx hy
  have hsrc:∃ news,Src w (GT.sz α) ys.length v news∧∃ fps:Nat→Nat→Prop,xZ fps (hp w) news ys∧(∀ i c,fps i c→G c)∧(∀ i j c,i≠j→fps i c→¬ fps j c):=by
   rcases mK.1 hy with ⟨rfl,rfl⟩ | ⟨b,off,len,cap,C,T,rfl,hb1,hb,hl,hc,hmx,hsz,fps,h1,h2,h3⟩
   ·exact ⟨[],⟨by simp,by simp,.inl ⟨rfl,rfl⟩⟩,λ_ _=>False,λi x hx=>by simp at hx,λ_ _ h=>h.elim,λ_ _ _ _ h=>h.elim⟩
   ·subst hl
    have hfit:off+ys.length*GT.sz α≤C.size:=by
     have:=Nat.mul_le_mul_right (GT.sz α) hc
     omega
    refine ⟨seg C off (ys.length*GT.sz α),⟨zA hfit,?_,.inr ⟨_,cap,rfl,xV hb⟩⟩,fps,?_,λi c hc=>(h1 i c hc).1,h2⟩
    ·intro u hu
     obtain ⟨j,hj,hju⟩:=List.mem_iff_getElem.1 hu
     have hsl:=zA hfit
     have hpos:0<GT.sz α:=by
      rcases Nat.eq_zero_or_pos (GT.sz α) with h | h
      ·rw [hsl,h] at hj;omega
      ·exact h
     have hi:j / GT.sz α<ys.length:=(Nat.div_lt_iff_lt_mul hpos).2 (by omega)
     have h4:=h3 _ _ (List.getElem?_eq_getElem hi)
     rw [wF (p8 hi)] at h4
     refine GT.one (GT.own_rep h4) u (List.mem_iff_getElem?.2 ⟨j % GT.sz α,?_⟩)
     rw [List.getElem?_take_of_lt (Nat.mod_lt j hpos),List.getElem?_drop,show j / GT.sz α*GT.sz α+j % GT.sz α=j by rw [Nat.mul_comm];exact Nat.div_add_mod j _,List.getElem?_eq_getElem hj,hju]
    ·intro i y hy
     have h4:=h3 i y hy
     rwa [wF (p8 (show i<ys.length from (lgE.1 hy).1))] at h4
  obtain ⟨news,hsrc,fps,g1,g2,g3⟩:=hsrc
  obtain ⟨v',w',hr,hs,hout,F',f1,f2,f3⟩:=wu (ty:=o.type) hT (mK.1 hx) hF hsrc rfl fps g1 (λi c hc=>⟨λhf=>hFG c hf (g2 i c hc),hG c (g2 i c hc)⟩) g3 hlen
  exact ⟨v',w',hr,hs,hout,F',λb hb=>by
   rcases f1 b hb with h | ⟨i,h⟩ | h
   ·exact .inl h
   ·exact .inr (.inl (g2 i b h))
   ·exact .inr (.inr h),f2,f3⟩
 obtain ⟨F0,⟨F,G,a1,a2,a3,hF,hG⟩,hFw⟩:=hm.get k hk
 obtain ⟨v',w',hr,hs,hout,F',f1,f2,f3⟩:=key F G (λb hb=>(hFw b (a1 b hb)).1) (λb hb=>(hFw b (a2 b hb)).1) a3 hF hG
 refine pw (w':=w') (v:=v') ?_ ?_
 ·simp [execOp,ho,resolve,invoke,builtin,hf.eval hx,hf.eval hy,hr]
 ·refine hm.upd k hk hs λH0 ⟨H,I,b1,b2,b3,hH,hI⟩ hGw=>?_
  obtain ⟨v2,w2,hr2,hs2,hout2,F2,p1,p2,p3⟩:=key H I (λb hb=>hGw b (b1 b hb)) (λb hb=>hGw b (b2 b hb)) b3 hH hI
  rw [hr] at hr2
  simp only [Result.ok.injEq] at hr2
  obtain ⟨rfl,rfl⟩:=hr2
  refine ⟨F2,λb hb=>?_,p2,mK.2 p3,λb hb hn=>hout2 b hb (λh=>hn (b1 b h))⟩
  rcases p1 b hb with h | h | h
  ·exact .inl (b1 b h)
  ·exact .inl (b2 b h)
  ·exact .inr h
def aw6 (w0:World) (hz:kX):Ch where
 pr F h:=∃ G:Nat→Prop,(∀ b,G b→F b)∧(∀ b,b<w0.heap.size→hz b=none→G b)∧∀ b,G b→h b=hp w0 b
 loc F h h':=λ⟨G,g1,g2,g3⟩ hh=>⟨G,g1,g2,λb hb=>(hh b (g1 b hb)).trans (g3 b hb)⟩
 mono F F' h:=λ⟨G,g1,g2,g3⟩ hF=>⟨G,λb hb=>hF b (g1 b hb),g2,g3⟩
theorem Mem.startA {w0:World} {hz:kX} (hle:kX.le hz (hp w0)):Mem w0 hz w0 [aw6 w0 hz]:=by
 refine ⟨rW.refl _,hle,λi b=>i=0∧b<w0.heap.size∧hz b=none,?_,?_,?_⟩
 ·intro i c hi
  cases i with
  | zero =>
   simp at hi
   subst hi
   exact ⟨λb=>b<w0.heap.size∧hz b=none,λb hb=>⟨rfl,hb.1,hb.2⟩,λb h1 h2=>⟨h1,h2⟩,λ_ _=>rfl⟩
  | succ i=>simp at hi
 ·rintro i j b hij ⟨rfl,_⟩ ⟨rfl,_⟩
  exact hij rfl
 ·rintro i b ⟨_,h1,h2⟩
  exact ⟨h2,h1⟩
theorem Mem.giveA {w0 w w':World} {hz hz':kX} {L M:List Ch} (hm:Mem w0 hz w L) (hle:kX.le hz hz') (hM:Mem w hz' w' (aw6 w hz::M)):Mem w0 hz' w' (M++L):=by
 obtain ⟨gs,glez,Gs,g1,g2,g3⟩:=hM
 obtain ⟨hs,hlez,Fs,f1,f2,f3⟩:=hm
 obtain ⟨G,j1,j2,j3⟩:=g1 0 _ rfl
 have hG:∀ i b,Fs i b→G b:=λi b hb=>j2 b (f3 i b hb).2 (f3 i b hb).1
 have hkeep:∀ i b,Fs i b→hp w' b=hp w b:=λi b hb=>j3 b (hG i b hb)
 refine ⟨hs.trans gs,glez,λi b=>if i<M.length then Gs (i+1) b else Fs (i - M.length) b,?_,?_,?_⟩
 ·intro i c hi
  by_cases him:i<M.length
  ·rw [List.getElem?_append_left him] at hi
   exact c.mono _ _ _ (g1 (i+1) c (by simpa using hi)) λb hb=>by dsimp only;rw [if_pos him];exact hb
  ·rw [List.getElem?_append_right (by omega)] at hi
   exact c.mono _ _ _ (c.loc _ _ _ (f1 _ c hi) λb hb=>hkeep _ b hb) λb hb=>by dsimp only;rw [if_neg him];exact hb
 ·intro i j b hij hi hj
  try dsimp only at hi hj
  have cross:∀ i j,Gs (i+1) b→Fs j b→False:=λi j hGi hF=>g2 (i+1) 0 b (by omega) hGi (j1 b (hG j b hF))
  by_cases him:i<M.length
  ·rw [if_pos him] at hi
   by_cases hjm:j<M.length
   ·rw [if_pos hjm] at hj;exact g2 (i+1) (j+1) b (by omega) hi hj
   ·rw [if_neg hjm] at hj;exact cross i _ hi hj
  ·rw [if_neg him] at hi
   by_cases hjm:j<M.length
   ·rw [if_pos hjm] at hj;exact cross j _ hj hi
   ·rw [if_neg hjm] at hj;exact f2 _ _ b (by omega) hi hj
 ·intro i b hi
  try dsimp only at hi
  by_cases him:i<M.length
  ·rw [if_pos him] at hi;exact g3 _ b hi
  ·rw [if_neg him] at hi
   have hgb:=hG _ b hi
   exact ⟨(g3 0 b (j1 b hgb)).1,(g3 0 b (j1 b hgb)).2⟩
theorem Mem.take2 {w0 w:World} {hz:kX} {L L1 L2:List Ch} (hm:Mem w0 hz w L) (js ks:List Nat) (hn:(js++ks).Nodup) (h1:js.map (λj=>L[j]?)=L1.map some) (h2:ks.map (λj=>L[j]?)=L2.map some) :
  ∃ hz',kX.le hz hz'∧Mem w hz' w L1∧(∀ (i:Nat) (c:Ch),L2[i]?=some c→∃ F,c.pr F hz')∧∀ w' M,Mem w hz' w' M→Mem w0 hz w' (M++L2):=by
 classical
 have hmp:=hm.pick (js++ks) hn (L':=L1++L2) (by rw [List.map_append,List.map_append,h1,h2])
 clear h1 h2 hn hm
 obtain ⟨hs,hlez,Fs,f1,f2,f3⟩:=hmp
 have hcut:∀ b,(if ∃ i,i<L1.length∧Fs i b then none else hp w b)=none∨((¬ ∃ i,i<L1.length∧Fs i b)∧(if ∃ i,i<L1.length∧Fs i b then none else hp w b)=hp w b):=λb=>by
  by_cases h:∃ i,i<L1.length∧Fs i b
  ·exact .inl (if_pos h)
  ·exact .inr ⟨h,if_neg h⟩
 have hle:kX.le hz (λb=>if ∃ i,i<L1.length∧Fs i b then none else hp w b):=by
  intro b o hb
  show (if ∃ i,i<L1.length∧Fs i b then none else hp w b)=some o
  rw [if_neg]
  ·exact hlez b o hb
  ·rintro ⟨i,_,hF⟩
   rw [(f3 i b hF).1] at hb
   cases hb
 refine ⟨λb=>if ∃ i,i<L1.length∧Fs i b then none else hp w b,hle,⟨rW.refl w,?_,λi b=>i<L1.length∧Fs i b,?_,?_,?_⟩,?_,?_⟩
 ·intro b o hb
  rcases hcut b with h | ⟨_,h⟩
  ·exact absurd (hb.symm.trans h) (by simp)
  ·exact (hb.symm.trans h).symm
 ·intro i c hi
  have hil:i<L1.length:=(lgE.1 hi).1
  exact c.mono _ _ _ (f1 i c (by rw [List.getElem?_append_left hil];exact hi)) λb hb=>⟨hil,hb⟩
 ·rintro i j b hij ⟨_,hi⟩ ⟨_,hj⟩
  exact f2 i j b hij hi hj
 ·rintro i b ⟨hi,hb⟩
  exact ⟨if_pos ⟨i,hi,hb⟩,(f3 i b hb).2⟩
 ·intro i c hi
  have hown:=f1 (L1.length+i) c (by rw [List.getElem?_append_right (by omega)];simpa using hi)
  refine ⟨_,c.loc _ _ _ hown λb hb=>?_⟩
  show (if ∃ i,i<L1.length∧Fs i b then none else hp w b)=hp w b
  rw [if_neg]
  rintro ⟨j,hj,hjb⟩
  exact f2 j (L1.length+i) b (by omega) hjb hb
 ·intro w' M hM
  obtain ⟨gs,glez,Gs,g1,g2,g3⟩:=hM
  have hkeep:∀ i b,L1.length≤i→Fs i b→hp w' b=hp w b:=λi b hi hb=>by
   have hne:¬ ∃ i,i<L1.length∧Fs i b:=by
    rintro ⟨j,hj,hjb⟩
    exact f2 j i b (by omega) hjb hb
   have hlt:=(f3 i b hb).2
   have hsome:hp w b=some w.heap[b]:=Array.getElem?_eq_getElem hlt
   have:=glez b w.heap[b] (by show (if ∃ i,i<L1.length∧Fs i b then none else hp w b)=_;rw [if_neg hne];exact hsome)
   rw [this,hsome]
  refine ⟨hs.trans gs,kX.le_trans hle glez,λi b=>if i<M.length then Gs i b else L1.length≤i - M.length+L1.length∧Fs (i - M.length+L1.length) b,?_,?_,?_⟩
  ·intro i c hi
   by_cases him:i<M.length
   ·rw [List.getElem?_append_left him] at hi
    exact c.mono _ _ _ (g1 i c hi) λb hb=>by dsimp only;rw [if_pos him];exact hb
   ·rw [List.getElem?_append_right (by omega)] at hi
    have:=f1 (L1.length+(i - M.length)) c (by rw [List.getElem?_append_right (by omega)];simpa using hi)
    refine c.mono _ _ _ (c.loc _ _ _ this λb hb=>hkeep _ b (by omega) hb) λb hb=>?_
    dsimp only
    rw [if_neg him]
    exact ⟨by omega,by rw [Nat.add_comm];exact hb⟩
  ·intro i j b hij hi hj
   try dsimp only at hi hj
   have cross:∀ i j,i<M.length→Gs i b→L1.length≤j→Fs j b→False:=λi j _ hG hj hF=>by
    have h3:=(g3 i b hG).1
    have hne:¬ ∃ i,i<L1.length∧Fs i b:=by
     rintro ⟨k,hk,hkb⟩
     exact f2 k j b (by omega) hkb hF
    rw [if_neg hne] at h3
    have hlt:=(f3 j b hF).2
    have:hp w b=some w.heap[b]:=Array.getElem?_eq_getElem hlt
    rw [this] at h3
    cases h3
   by_cases him:i<M.length
   ·rw [if_pos him] at hi
    by_cases hjm:j<M.length
    ·rw [if_pos hjm] at hj
     exact g2 i j b hij hi hj
    ·rw [if_neg hjm] at hj
     exact cross i _ him hi hj.1 hj.2
   ·rw [if_neg him] at hi
    by_cases hjm:j<M.length
    ·rw [if_pos hjm] at hj
     exact cross j _ hjm hj hi.1 hi.2
    ·rw [if_neg hjm] at hj
     exact f2 _ _ b (by omega) hi.2 hj.2
  ·intro i b hi
   try dsimp only at hi
   by_cases him:i<M.length
   ·rw [if_pos him] at hi
    have h3:=g3 i b hi
    refine ⟨?_,h3.2⟩
    cases hzb:hz b with
    | none=>rfl
    | some o =>
     have:=(hle b o hzb).symm.trans h3.1
     cases this
   ·rw [if_neg him] at hi
    exact ⟨(f3 _ b hi.2).1,Nat.lt_of_lt_of_le (f3 _ b hi.2).2 gs.size⟩
end Go.Wk
namespace Go.Wk
open Go Go.RowKit
section
variable {P:Program} {l:Env} {w:World} {o:Oper} {x y:Operand} {t t' e:TypeId} {p:Option Addr}
def cg6 (i j:Int):Int:=if j<i then j else i
def um (i j:Int):Int:=if i<j then j else i
theorem bn0 (i j:Int):um i j=max i j:=by unfold um;split<;>omega
theorem bt5 {k:IntKind} {i j:Int} {tys:Array TypeId} (ho:o.op=.call { callee:=.builtin .max,args:=#[x,y],argTypes:=tys }) (hx:ev l x=some (.int k i)) (hy:ev l y=some (.int k j)):Yl P l w o (.int k (um i j)):=λn a hf=>by
 simp [execOp,ho,resolve,invoke,builtin,hf.eval hx,hf.eval hy,Builtin.max_,Builtin.max2,um]
end
def zM {α:Type} (xs:List α) (lo hi:Int):Option (List α):=if 0≤lo∧lo≤hi∧hi≤(xs.length:Int) then some ((xs.take hi.toNat).drop lo.toNat) else none
theorem te {α:Type} {xs ys:List α} {lo hi:Int}:zM xs lo hi=some ys↔(0≤lo∧lo≤hi∧hi≤(xs.length:Int))∧(xs.take hi.toNat).drop lo.toNat=ys:=by
 unfold zM;by_cases h:0≤lo∧lo≤hi∧hi≤(xs.length:Int)<;>simp only [h,if_true,if_false,osI,true_and,false_and,and_self];simp
def wK (s:Nat) (v:Value) (lo hi:Nat):Value:=match v with
 | .slice p _ cap=>.slice (if cap=lo then p else p.map (·.add (lo*s))) (hi - lo) (cap - lo)
 | v=>v
theorem aw0 {α:Type} {xs:List α} {lo hi i:Nat} {x:α} (h:((xs.take hi).drop lo)[i]?=some x):lo+i<hi∧xs[lo+i]?=some x:=by
 rw [List.getElem?_drop] at h
 have hlt:=(lgE.1 h).1
 simp at hlt
 rw [List.getElem?_take_of_lt (by omega)] at h
 exact ⟨by omega,h⟩
section
variable {α:Type} [GT α] {h:kX} {v:Value} {xs:List α} {lo hi:Nat} {F:Nat→Prop}
theorem au1 (hr:GT.rep h [v] xs):∃ p cap,v=.slice p xs.length cap∧xs.length≤cap:=by
 rcases nF.1 hr with ⟨rfl | ⟨p,cap,rfl⟩,rfl⟩ | ⟨b,off,len,cap,hv,hl,hc,hm,h3⟩
 ·exact ⟨none,0,rfl,by simp⟩
 ·exact ⟨some p,cap,rfl,by simp⟩
 ·exact ⟨_,cap,by rw [hl];exact hv,by omega⟩
theorem ah8 (hr:GT.rep h [v] xs) (h1:lo≤hi) (h2:hi≤xs.length):GT.rep h [wK (GT.sz α) v lo hi] ((xs.take hi).drop lo):=by
 refine nF.2 ?_
 rcases nF.1 hr with ⟨rfl | ⟨p,cap,rfl⟩,rfl⟩ | ⟨b,off,len,cap,rfl,hl,hc,hm,h3⟩
 ·simp at h2
  have:lo=0:=by omega
  subst h2;subst this
  exact .inl ⟨.inl rfl,by simp⟩
 ·simp at h2
  have:lo=0:=by omega
  subst h2;subst this
  refine .inl ⟨.inr ?_,by simp⟩
  simp only [wK]
  split
  ·exact ⟨_,_,rfl⟩
  ·exact ⟨_,_,rfl⟩
 ·by_cases he:lo=hi
  ·subst he
   refine .inl ⟨.inr ?_,by simp⟩
   simp only [wK,Nat.sub_self]
   split
   ·exact ⟨_,_,rfl⟩
   ·exact ⟨_,_,rfl⟩
  ·have hne : cap ≠ lo := by omega
   simp only [wK,hne,if_false,Option.map_some,pq]
   refine .inr ⟨b,off+lo*GT.sz α,hi - lo,cap - lo,rfl,by simp;omega,by omega,⟨by omega,by omega⟩,λi x hx=>?_⟩
   obtain ⟨_,hx'⟩:=aw0 hx
   have:=h3 _ x hx'
   rwa [Nat.add_mul,← Nat.add_assoc] at this
theorem zp (ho:GT.own F h [v] xs) (h1:lo≤hi) (h2:hi≤xs.length):GT.own F h [wK (GT.sz α) v lo hi] ((xs.take hi).drop lo):=by
 refine mK.2 ?_
 rcases mK.1 ho with ⟨rfl,rfl⟩ | ⟨b,off,len,cap,C,T,rfl,hF,hb,hl,hc,hm,hs,fps,g1,g2,g3⟩
 ·simp at h2
  have:lo=0:=by omega
  subst h2;subst this
  exact .inl ⟨rfl,by simp⟩
 ·by_cases hcl:cap=lo
  ·have h3 : hi = lo := by omega
   subst h3
   simp only [wK,hcl,if_true,Nat.sub_self]
   refine .inr ⟨b,off,0,0,C,T,rfl,hF,hb,by simp,by omega,⟨by simp [maxLen],by omega⟩,by omega,λ_ _=>False,λ_ _ h=>h.elim,λ_ _ _ _ h=>h.elim,λi x hx=>by simp at hx⟩
  ·simp only [wK,hcl,if_false,Option.map_some,pq]
   refine .inr ⟨b,off+lo*GT.sz α,hi - lo,cap - lo,C,T,rfl,hF,hb,by simp;omega,by omega,⟨by omega,by omega⟩,?_,λi=>fps (lo+i),λi c hc=>g1 _ c hc,λi j c hij=>g2 _ _ c (by omega),λi x hx=>?_⟩
   ·have : (cap - lo) * GT.sz α + lo * GT.sz α = cap * GT.sz α := by rw [← Nat.add_mul]; congr 1; omega
    omega
   ·obtain ⟨_,hx'⟩:=aw0 hx
    have:=g3 _ x hx'
    rwa [Nat.add_mul,← Nat.add_assoc] at this
end
section
variable {α:Type} [GT α] {P:Program} {l:Env} {h:kX} {o:Oper} {x yl yh:Operand} {t e:TypeId} {v:Value} {xs:List α} {lo hi:Int} {kl kh:IntKind}
theorem au5 (hT:qK P t e (GT.sz α)) {p:Option Addr} {len cap:Nat} (w:World) (low high:Option Value) (l1 h1:Nat)
  (hl:(low=none∧l1=0)∨∃ k,low=some (.int k (l1:Int))) (hh:(high=none∧h1=len)∨∃ k,high=some (.int k (h1:Int))) (h2:l1≤h1) (h3:h1≤len) (h4:len≤cap) :
  (Instr.slice t (.slice p len cap) low high none).run P w=.ok (wK (GT.sz α) (.slice p len cap) l1 h1) w:=by
 have hsz:=hT.size
 have e1:h1≤cap:=by omega
 rcases hl with ⟨rfl,rfl⟩ | ⟨kl,rfl⟩<;>rcases hh with ⟨rfl,rfl⟩ | ⟨kh,rfl⟩ <;>
  simp [Instr.slice,Instr.sliceBounds,Instr.sliceBound,run_underlying hT.und,asIntOf,e1,h2,h4,hsz,wK]
theorem bg4 (hT:qK P t e (GT.sz α)) (hr:GT.rep h [v] xs) (ho:o.op=.slice t x (some yl) none none) (hx:ev l x=some v) (hl:ev l yl=some (.int kl lo)) (hb:0≤lo∧lo≤(xs.length:Int)∧(xs.length:Int)≤(xs.length:Int)) (w:World) :
  Yl P l w o (wK (GT.sz α) v lo.toNat (xs.length:Int).toNat):=λn a hf=>by
 obtain ⟨p,cap,rfl,hc⟩:=au1 hr
 obtain ⟨l1,rfl⟩:=Int.eq_ofNat_of_zero_le hb.1
 have:=au5 (α:=α) (P:=P) hT (p:=p) (len:=xs.length) (cap:=cap) w (some (.int kl l1)) none l1 xs.length (.inr ⟨_,rfl⟩) (.inl ⟨rfl,rfl⟩) (by omega) (by omega) hc
 simp [execOp,ho,hf.eval hx,hf.eval hl,Instr.sliceAt,run_underlying hT.und,this]
theorem bh3 (hT:qK P t e (GT.sz α)) (hr:GT.rep h [v] xs) (ho:o.op=.slice t x none (some yh) none) (hx:ev l x=some v) (hh:ev l yh=some (.int kh hi)) (hb:(0:Int)≤0∧0≤hi∧hi≤(xs.length:Int)) (w:World) :
  Yl P l w o (wK (GT.sz α) v (0:Int).toNat hi.toNat):=λn a hf=>by
 obtain ⟨p,cap,rfl,hc⟩:=au1 hr
 obtain ⟨h1,rfl⟩:=Int.eq_ofNat_of_zero_le hb.2.1
 have:=au5 (α:=α) (P:=P) hT (p:=p) (len:=xs.length) (cap:=cap) w none (some (.int kh h1)) 0 h1 (.inl ⟨rfl,rfl⟩) (.inr ⟨_,rfl⟩) (by omega) (by omega) hc
 simp [execOp,ho,hf.eval hx,hf.eval hh,Instr.sliceAt,run_underlying hT.und,this]
end
def Str.sub (s:Str) (lo hi:Nat):Str:=⟨(s.b.take hi).drop lo,by have:=s.h;simp;omega⟩
def tF (s:Str) (lo hi:Int):Option Str:=if 0≤lo∧lo≤hi∧hi≤(s.b.length:Int) then some (s.sub lo.toNat hi.toNat) else none
theorem rC {s t:Str} {lo hi:Int}:tF s lo hi=some t↔(0≤lo∧lo≤hi∧hi≤(s.b.length:Int))∧s.sub lo.toNat hi.toNat=t:=by
 unfold tF;by_cases h:0≤lo∧lo≤hi∧hi≤(s.b.length:Int)<;>simp only [h,if_true,if_false,osI,true_and,false_and,and_self];simp
theorem am2 (s:Str) (lo hi:Nat):(⟨s.b.toArray⟩:ByteArray).extract lo hi=⟨(s.sub lo hi).b.toArray⟩:=by
 have:((⟨s.b.toArray⟩:ByteArray).extract lo hi).data=(s.sub lo hi).b.toArray:=by
  rw [ByteArray.data_extract]
  apply Array.ext'
  simp [Str.sub,List.extract_eq_take_drop,List.drop_take]
 cases h:(⟨s.b.toArray⟩:ByteArray).extract lo hi with
 | mk d=>rw [h] at this;simp only at this;rw [this]
section
variable {P:Program} {l:Env} {o:Oper} {x yl yh:Operand} {t:TypeId} {s:Str} {lo hi:Int} {kl kh:IntKind}
theorem aj6 (hT:P.underlying t=some .string) (w:World) (low high:Option Value) (l1 h1:Nat)
  (hl:(low=none∧l1=0)∨∃ k,low=some (.int k (l1:Int))) (hh:(high=none∧h1=s.b.length)∨∃ k,high=some (.int k (h1:Int))) (h2:l1≤h1) (h3:h1≤s.b.length) :
  (Instr.slice t (.string ⟨s.b.toArray⟩) low high none).run P w=.ok (.string ⟨(s.sub l1 h1).b.toArray⟩) w:=by
 have hsize:(⟨s.b.toArray⟩:ByteArray).size=s.b.length:=by show s.b.toArray.size=_;simp
 rcases hl with ⟨rfl,rfl⟩ | ⟨kl,rfl⟩<;>rcases hh with ⟨rfl,rfl⟩ | ⟨kh,rfl⟩ <;>
  simp [Instr.slice,Instr.sliceBounds,Instr.sliceBound,run_underlying hT,asIntOf,h2,h3,hsize,am2]
 simp [Str.sub]
theorem zT (hT:P.underlying t=some .string) (ho:o.op=.slice t x (some yl) (some yh) none) (hx:ev l x=some (.string ⟨s.b.toArray⟩)) (hl:ev l yl=some (.int kl lo)) (hh:ev l yh=some (.int kh hi)) (hb:0≤lo∧lo≤hi∧hi≤(s.b.length:Int)) (w:World) :
  Yl P l w o (.string ⟨(s.sub lo.toNat hi.toNat).b.toArray⟩):=λn a hf=>by
 obtain ⟨l1,rfl⟩:=Int.eq_ofNat_of_zero_le hb.1
 obtain ⟨h1,rfl⟩:=Int.eq_ofNat_of_zero_le (show 0≤hi by omega)
 have:=aj6 (P:=P) (s:=s) hT w (some (.int kl l1)) (some (.int kh h1)) l1 h1 (.inr ⟨_,rfl⟩) (.inr ⟨_,rfl⟩) (by omega) (by omega)
 simp [execOp,ho,hf.eval hx,hf.eval hl,hf.eval hh,Instr.sliceAt,run_underlying hT,this]
theorem bm5 (hT:P.underlying t=some .string) (ho:o.op=.slice t x (some yl) none none) (hx:ev l x=some (.string ⟨s.b.toArray⟩)) (hl:ev l yl=some (.int kl lo)) (hb:0≤lo∧lo≤(s.b.length:Int)∧(s.b.length:Int)≤(s.b.length:Int)) (w:World) :
  Yl P l w o (.string ⟨(s.sub lo.toNat (s.b.length:Int).toNat).b.toArray⟩):=λn a hf=>by
 obtain ⟨l1,rfl⟩:=Int.eq_ofNat_of_zero_le hb.1
 have:=aj6 (P:=P) (s:=s) hT w (some (.int kl l1)) none l1 s.b.length (.inr ⟨_,rfl⟩) (.inl ⟨rfl,rfl⟩) (by omega) (by omega)
 simp [execOp,ho,hf.eval hx,hf.eval hl,Instr.sliceAt,run_underlying hT,this]
end
def cg3 {α:Type} (xs ys:List α) (lo hi:Nat):List α:=xs.take lo++ys.take (min ys.length (hi - lo))++xs.drop (lo+min ys.length (hi - lo))
section
variable {α:Type} [GT α] [Cheap α] {P:Program} {a:Act} {w w0:World} {hz:kX} {L:List Ch} {o:Oper} {n:Nat} {l:Env} {v sv z:Value} {x y:Operand} {t e:TypeId} {xs ys:List α} {lo hi:Nat}
end
section
variable {w0 w:World} {hz:kX} {L:List Ch}
theorem lq.part {h:kX} {b o i:Nat} {cs ds:List Value} (hc:lq h b o cs) (hd:ds=(cs.drop i).take ds.length):lq h b (o+i) ds:=by
 refine hc.sub λj v hj=>?_
 have hlt:=(lgE.1 hj).1
 rw [hd,List.getElem?_take_of_lt hlt,List.getElem?_drop] at hj
 exact hj
end
section
variable {w0 w:World} {hz:kX} {L:List Ch} {α:Type} [GT α] {b off len cap i:Nat} {xs:List α} {x:α}
theorem Mem.sh_get {v:Value} (hm:Mem w0 hz w L) {hy:kX} (k:Nat) (hk:L[k]?=some (ow (α:=List (Sh hy α)) [v] xs)) (hx:xs[i]?=some x) :
  ∃ b off cap cs,v=.slice (some ⟨b,off,none⟩) xs.length cap∧lq (hp w) b (off+i*GT.sz α) cs∧GT.rep hy cs x:=by
 obtain ⟨b,off,cap,h1,hi,cs,h2,h3⟩:=af4 (α:=Sh hy α) (hm.ow_rep (α:=List (Sh hy α)) k hk) hx
 exact ⟨b,off,cap,cs,h1,h2,h3⟩
end
section
variable {α:Type} [GT α] {w0 w:World} {hz:kX} {L:List Ch}
def els (cs:List Value) (xs:List α):Ch where
 pr F h:=cs.length=xs.length*GT.sz α∧∃ fps:Nat→Nat→Prop,(∀ i c,fps i c→F c)∧(∀ i j c,i≠j→fps i c→¬ fps j c)∧xZ fps h cs xs
 loc F h h':=λ⟨hl,fps,h1,h2,h3⟩ hh=>⟨hl,fps,h1,h2,λi x hx=>GT.own_loc (h3 i x hx) λc hc=>hh c (h1 i c hc)⟩
 mono F F' h:=λ⟨hl,fps,h1,h2,h3⟩ hF=>⟨hl,fps,λi c hc=>hF c (h1 i c hc),h2,h3⟩
theorem Mem.els_nil (hm:Mem w0 hz w L):Mem w0 hz w (els ([]:List Value) ([]:List α)::L) :=
 hm.more (rW.refl w) (λ_ _=>rfl) ⟨λ_=>False,λ_ h=>h.elim,by simp,λ_ _=>False,λ_ _ h=>h,λ_ _ _ _ h=>h.elim,λi x hx=>by simp at hx⟩
theorem Mem.els_cons {c cs:List Value} {x:α} {xs:List α} (hm:Mem w0 hz w L) (k j:Nat) (hkj:k≠j) (hk:L[k]?=some (els cs xs)) (hj:L[j]?=some (ow c x)) :
  Mem w0 hz w ((L.set k (els (c++cs) (x::xs))).set j xg) :=
 hm.merge k j hkj hk hj λF G ⟨hl,fps,h1,h2,h3⟩ hG hFG=>by
  have hc:c.length=GT.sz α:=GT.len (GT.own_rep hG)
  refine ⟨by simp [hl,hc,Nat.add_mul,Nat.add_comm],λi=>match i with | 0=>G | i+1=>fps i,?_,?_,?_⟩
  ·intro i c hi
   cases i with
   | zero=>exact .inr hi
   | succ i=>exact .inl (h1 i c hi)
  ·intro i j c hij hi hj
   cases i with
   | zero =>
    cases j with
    | zero=>exact hij rfl
    | succ j=>exact hFG c (h1 j c hj) hi
   | succ i =>
    cases j with
    | zero=>exact hFG c (h1 i c hi) hj
    | succ j=>exact h2 i j c (by omega) hi hj
  ·intro i y hy
   cases i with
   | zero =>
    simp at hy
    subst hy
    have hG':GT.own G (hp w) c x:=hG
    simpa [hc] using hG'
   | succ i =>
    have:=h3 i y (by simpa using hy)
    rw [show (i+1)*GT.sz α=c.length+i*GT.sz α by rw [Nat.add_mul,hc];omega,List.drop_append,List.drop_eq_nil_of_le (by omega)]
    simpa using this
theorem Mem.lit_els {b len e:Nat} {cs:List Value} {xs:List α} (hm:Mem w0 hz w L) (k j:Nat) (hkj:k≠j) (hk:L[k]?=some (blk b cs e)) (hj:L[j]?=some (els cs xs)) (hl:xs.length=len) (hmx:Nat.ble len 16777216=true) :
  Mem w0 hz w ((L.set k (ow [.slice (some ⟨b,0,none⟩) len len] xs)).set j xg):=by
 have h2:=Nat.le_of_ble_eq_true hmx
 refine hm.merge k j hkj hk hj λF G hF ⟨hcl,fps,g1,g2,g3⟩ hFG=>?_
 refine mK.2 (.inr ⟨b,0,len,len,cs.toArray,e,rfl,.inl hF.1,hF.2,hl,Nat.le_refl _,⟨by simp [maxLen];omega,by omega⟩,by rw [List.size_toArray,hcl,hl];omega,fps,λi c hc=>⟨.inr (g1 i c hc),λh=>hFG c (by rw [h];exact hF.1) (g1 i c hc)⟩,g2,λi x hx=>?_⟩)
 have:=g3 i x hx
 rw [zV,Nat.zero_add]
 exact this
end
theorem ar4 {P:Program} {l:Env} {w:World} {o:Oper} {u v:Value} (hv:v=u) (h:Yl P l w o u):Yl P l w o v:=by rw [hv];exact h
theorem am8 {α:Type} [GT α] {h:kX} {v nv:Value} {xs ys:List α} {lo hi:Int} (hy:nv=wK (GT.sz α) v lo.toNat hi.toNat) (he:(xs.take hi.toNat).drop lo.toNat=ys) (hb:0≤lo∧lo≤hi∧hi≤(xs.length:Int)) (hr:GT.rep h [v] xs):GT.rep h [nv] ys:=by
 rw [hy,← he]
 exact ah8 hr (by omega) (by omega)
def cg0 {α:Type} (z:α) (n c:Int):Option (List α):=if 0≤n∧n≤c∧c≤2147483648 then some (List.replicate n.toNat z) else none
section
variable {α β:Type} [GT α] [GT β] {w0 w:World} {hz:kX} {L:List Ch}
end
section
variable {P:Program} {fn:Func} {R:Value→World→Prop} {a:Act} {w:World} {n:Nat} {l:Env} {v1 v2 v3 v4:Value} {t1 t2 t3 t4:Nat}
theorem bc2 (hf:Fr n l a) (hr:fn.results=#[.tmp t1,.tmp t2,.tmp t3]) (h1:lk l t1=some v1) (h2:lk l t2=some v2) (h3:lk l t3=some v3) (h:R (.tuple #[v1,v2,v3]) w):bodyPost P fn (Rt R) .ret a w :=
 ⟨hf.defers,.tuple #[v1,v2,v3],by simp [results,hr,hf.get _ _ h1,hf.get _ _ h2,hf.get _ _ h3],h⟩
theorem bc7 (hf:Fr n l a) (hr:fn.results=#[.tmp t1,.tmp t2,.tmp t3,.tmp t4]) (h1:lk l t1=some v1) (h2:lk l t2=some v2) (h3:lk l t3=some v3) (h4:lk l t4=some v4) (h:R (.tuple #[v1,v2,v3,v4]) w):bodyPost P fn (Rt R) .ret a w :=
 ⟨hf.defers,.tuple #[v1,v2,v3,v4],by simp [results,hr,hf.get _ _ h1,hf.get _ _ h2,hf.get _ _ h3,hf.get _ _ h4],h⟩
end
section
variable {α:Type} [GT α] {P:Program} {a:Act} {w w0:World} {hz:kX} {L:List Ch} {o:Oper} {n:Nat} {l:Env} {v sv z:Value} {x y:Operand} {t e:TypeId} {xs ys:List α} {lo hi:Nat}
theorem mW (k : Nat) (hT : qw P t e (GT.sz α) z) (hf : Fr n l a) (hm : Mem w0 hz w L) (hk : L[k]? = some (ow (α := List (Sh hz α)) [sv] xs)) (hys : GT.rep (α := List (Sh hz α)) (hp w) [v] ys) (ho : o.op = .call { callee := .builtin .append, args := #[x, y], argTypes := #[t, t] })
  (hx:ev l x=some sv) (hy:ev l y=some v) (hlen:xs.length+ys.length≤2147483648) :
  Ef P a w o (λv' w'=>Mem w0 hz w' (L.set k (ow (α:=List (Sh hz α)) [v'] (xs++ys)))) :=
 aw3 (α:=Sh hz α) k hT hf hm hk hys ho hx hy hlen
end
def ch5 (n:Int):Option Unit:=if n≤9223372036854775807 then some () else none
end Go.Wk
namespace Go.Wk
open Go Go.RowKit
inductive Ord
 | fin
 | q (i:Nat) (t:Ord)
 | p (i:Nat) (t:Ord)
 | e (i:Nat) (t:Ord) (more:Ord)
 | nil
def Ord.choices:Ord→List Nat
 | .e i _ more=>i::more.choices
 | _=>[]
def okT (md:Region.Mode) (ops:Array Oper) (ns ps:List Nat):Ord→Nat→Bool→Array Bool→Bool
 | .fin,fuel,first,listed=>first&&fuel == 0&&(Region.ready md ops listed).isEmpty
 | .q _ _,0,_,_=>false
 | .q i t, fuel + 1, first, listed => first && (Region.free md ops listed i && (Region.ready md ops listed).contains i &&
   ((List.range ops.size).all λj=>j == i||ns.contains j||ps.contains j||yp md ops ops.size j i||yp md ops ops.size i j))&&okT md ops ns ps t fuel true (listed.setIfInBounds i true)
 | .p _ _,0,_,_=>false
 | .p i t,fuel+1,first,listed=>first&&(Region.free md ops listed i&&(Region.ready md ops listed).contains i&&!ns.contains i)&&okT md ops ns ps t fuel true (listed.setIfInBounds i true)
 | .e _ _ _,0,_,_=>false
 | .e i t more,fuel+1,first,listed=>(!first||Region.ready md ops listed == i::more.choices)&&!ps.contains i&&okT md ops ns ps t fuel true (listed.setIfInBounds i true)&&okT md ops ns ps more (fuel+1) false listed
 | .nil,_,first,_=>!first
section
variable {P:Program} {ops:Array Oper} {Q:Exit→Act→World→Prop} {md:Region.Mode} {S:World→Prop} {ns ps:List Nat}
def wR (P:Program) (md:Region.Mode) (ops:Array Oper) (Q:Exit→Act→World→Prop) (S:World→Prop) (ns ps:List Nat):Nat→Array Bool→Act→World→Prop
 | 0,listed,a,w=>Region.ready md ops listed=[]∧Q .normal a w
 | fuel+1,listed,a,w =>
  (Region.ready md ops listed=[]→Q .normal a w) ∧
  ∀ i∈Region.ready md ops listed,wpOp P ops Q i (λa' w'=>((ns.contains i=true→S w')∧(ps.contains i=true→w'=w))∧wR P md ops Q S ns ps fuel (listed.setIfInBounds i true) a' w') a w
theorem zR:∀ (fuel:Nat) (listed:Array Bool) (a:Act) (w:World),wR P md ops Q S ns ps fuel listed a w→wpAny P md ops Q fuel listed a w
 | 0,_,_,_,h=>h
 | fuel+1,_,_,_,h=>⟨h.1,λi hi=>wpOp_mono (λa' w' h'=>zR fuel _ a' w' h'.2) (h.2 i hi)⟩
theorem xF {i:Nat} {oi:Oper} {v:Value} {S0:World→Prop} (hi:ops[i]?=some oi) (hsel:∀ (j:Nat) (o:Oper) cs b,ops[j]?=some o→o.op≠.select cs b)
  (hQ:∀ c a w,Q (.panic c) (a.put oi.dst v) w→Q (.panic c) a w)
  (hnext:∀ w,S0 w→ns.contains i=true→S w)
  (hns:∀ j oj,ops[j]?=some oj→j≠i→(∀ n,yp md ops n j i=false)→(∀ n,yp md ops n i j=false)→∀ w w',S0 w→(ns.contains j=true→S w')→(ps.contains j=true→w'=w)→S0 w') :
  ∀ (fuel:Nat) (listed:Array Bool) (a:Act) (w:World),zm md ops listed →
   (∀ j oj,ops[j]?=some oj→j≠i→listed.getD j true=false→(∀ e∈oj.after,Region.binds md e=true→e.on≠i)→oi.apart ops oj=true) →
   i∈Region.ready md ops listed→YieldsIf P ops S0 oi v a→S0 w →
   wR P md ops Q S ns ps fuel (listed.setIfInBounds i true) (a.put oi.dst v) w→wR P md ops Q S ns ps (fuel+1) listed a w:=by
 intro fuel
 induction fuel with
 | zero =>
  intro listed a w _ _ hr hy hS H
  refine ⟨λh=>(by rw [h] at hr;cases hr),λj hj=>?_⟩
  by_cases hji:j=i
  ·subst hji;exact hy.wpOp hi hS ⟨⟨hnext w hS,λ_=>rfl⟩,H⟩
  ·have:=ready_mono hj hji
   rw [H.1] at this
   cases this
 | succ fuel ih =>
  intro listed a w hcl hfree hr hy hS H
  refine ⟨λh=>(by rw [h] at hr;cases hr),λj hj=>?_⟩
  by_cases hji:j=i
  ·subst hji;exact hy.wpOp hi hS ⟨⟨hnext w hS,λ_=>rfl⟩,H⟩
  ·have h1:=H.2 j (ready_mono hj hji)
   obtain ⟨hjun,oj,hoj,hall⟩:=mem_ready.1 hj
   have hnot:∀ e∈oj.after,Region.binds md e=true→e.on≠i:=λe he hb heq=>by
    have h1:=hall e he hb
    have h0:=(mem_ready.1 hr).1
    rw [heq] at h1
    rcases Nat.lt_or_ge i listed.size with h' | h'
    ·simp [h'] at h0 h1;rw [h0] at h1;cases h1
    ·simp [Array.getElem?_eq_none h'] at h1
   have hin:=hns j oj hoj hji (λm=>by
    cases hd:yp md ops m j i with
    | false=>rfl
    | true =>
     have h1:=wV hcl m j i (λok hok e he hb=>by
      rw [hoj] at hok
      simp only [osI] at hok
      subst hok
      exact hall e he hb) hd
     have h0:=(mem_ready.1 hr).1
     rcases Nat.lt_or_ge i listed.size with h' | h'
     ·simp [h'] at h0 h1;rw [h0] at h1;cases h1
     ·simp [Array.getElem?_eq_none h'] at h1) (λm=>by
    cases hd:yp md ops m i j with
    | false=>rfl
    | true =>
     obtain ⟨_,oi',hoi',hall'⟩:=mem_ready.1 hr
     have h1:=wV hcl m i j (λok hok e he hb=>by
      rw [hoi'] at hok
      simp only [osI] at hok
      subst hok
      exact hall' e he hb) hd
     rcases Nat.lt_or_ge j listed.size with h' | h'
     ·simp [h'] at hjun h1;rw [hjun] at h1;cases h1
     ·simp [Array.getElem?_eq_none h'] at h1)
   have h2:=wpOp_putIf hoj (hfree j oj hoj hji hjun hnot) (λcs b=>hsel i oi cs b hi) (λcs b=>hsel j oj cs b hoj) hQ hy h1
   have hfree':∀ k ok,ops[k]?=some ok→k≠i→(listed.setIfInBounds j true).getD k true=false →
     (∀ e∈ok.after,Region.binds md e=true→e.on≠i)→oi.apart ops ok=true:=λk ok hk hki hun hno=>by
    refine hfree k ok hk hki ?_ hno
    by_cases hjk:j=k
    ·subst hjk;exact hjun
    ·rw [getD_set_ne true hjk] at hun;exact hun
   refine wpOp_mono (λa' w' h3=>⟨h3.2.1,ih (listed.setIfInBounds j true) a' w' (tz hcl hj) hfree' (ready_mono hr (Ne.symm hji)) h3.1 (hin w w' hS h3.2.1.1 h3.2.1.2) ?_⟩) h2
   rw [Array.setIfInBounds_comm _ _ hji]
   exact h3.2.2
def wpT (P:Program) (ops:Array Oper) (S:World→Prop) (ns:List Nat) (Q:Exit→Act→World→Prop):Ord→Act→World→Prop
 | .fin,a,w=>Q .normal a w
 | .q i t,a,w=>∃ o v,ops[i]?=some o∧YieldsIf P ops S o v a∧S w∧wpT P ops S ns Q t (a.put o.dst v) w
 | .p i t,a,w=>∃ o v,ops[i]?=some o∧YieldsIf P ops (λ_=>True) o v a∧wpT P ops S ns Q t (a.put o.dst v) w
 | .e i t more,a,w=>wpOp P ops Q i (λa' w'=>(ns.contains i=true→S w')∧wpT P ops S ns Q t a' w') a w∧wpT P ops S ns Q more a w
 | .nil,_,_=>True
theorem zX (a:Act) (d:Option Nat) (v:Value):(a.put d v).defers=a.defers:=by cases d<;>rfl
theorem aj3 (hs:Region.noSelect ops=true) (hQ:∀ c (a a':Act) w,a.defers=a'.defers→Q (.panic c) a w→Q (.panic c) a' w):∀ (t:Ord) (fuel:Nat) (listed:Array Bool) (a:Act) (w:World),zm md ops listed →
  (okT md ops ns ps t fuel true listed=true→wpT P ops S ns Q t a w→wR P md ops Q S ns ps fuel listed a w) ∧
  (∀ f,fuel=f+1→okT md ops ns ps t fuel false listed=true→wpT P ops S ns Q t a w→(∀ j∈t.choices,j∈Region.ready md ops listed) →
   ∀ j∈t.choices,wpOp P ops Q j (λa' w'=>((ns.contains j=true→S w')∧(ps.contains j=true→w'=w))∧wR P md ops Q S ns ps f (listed.setIfInBounds j true) a' w') a w):=by
 intro t
 induction t with
 | fin =>
  intro fuel listed a w hcl
  refine ⟨λh hw=>?_,λf hf h=>by simp [okT] at h⟩
  simp only [okT,Bool.true_and,Bool.and_eq_true,beq_iff_eq,List.isEmpty_iff] at h
  obtain ⟨rfl,h⟩:=h
  exact ⟨h,hw⟩
 | nil =>
  intro fuel listed a w hcl
  exact ⟨λh=>by simp [okT] at h,λf hf h hw hr j hj=>by simp [Ord.choices] at hj⟩
 | q i t ih =>
  intro fuel listed a w hcl
  cases fuel with
  | zero=>exact ⟨λh=>by simp [okT] at h,λf hf h=>by simp [okT] at h⟩
  | succ fuel =>
   refine ⟨λh hw=>?_,λf hf h=>by simp [okT] at h⟩
   obtain ⟨o,v,ho,hy,hS,hw⟩:=hw
   simp only [okT,Bool.true_and,Bool.and_eq_true] at h
   obtain ⟨⟨⟨h1,h2⟩,h3⟩,h4⟩:=h
   refine xF ho (Region.noSelect_spec hs) (λc a w h=>hQ c _ _ w (zX _ _ _) h) (λw h _=>h) ?_ fuel listed a w hcl (Region.free_spec ho h1) (by simpa using h2) hy hS ((ih fuel _ _ w (tz hcl (by simpa using h2))).1 h4 hw)
   intro j oj hj hji hno hno2 w w' hSw hn hp
   rw [List.all_eq_true] at h3
   have hlt:j<ops.size:=(Array.getElem?_eq_some_iff.1 hj).1
   have:=h3 j (List.mem_range.2 hlt)
   simp only [Bool.or_eq_true,beq_iff_eq] at this
   rcases this with (((h | h) | h) | h) | h
   ·exact absurd h hji
   ·exact hn h
   ·rw [hp h];exact hSw
   ·rw [hno] at h
    cases h
   ·rw [hno2] at h
    cases h
 | p i t ih =>
  intro fuel listed a w hcl
  cases fuel with
  | zero=>exact ⟨λh=>by simp [okT] at h,λf hf h=>by simp [okT] at h⟩
  | succ fuel =>
   refine ⟨λh hw=>?_,λf hf h=>by simp [okT] at h⟩
   obtain ⟨o,v,ho,hy,hw⟩:=hw
   simp only [okT,Bool.true_and,Bool.and_eq_true,Bool.not_eq_true'] at h
   obtain ⟨⟨⟨h1,h2⟩,h3⟩,h4⟩:=h
   exact xF (S0:=λ_=>True) ho (Region.noSelect_spec hs) (λc a w h=>hQ c _ _ w (zX _ _ _) h) (λw _ hn=>by rw [h3] at hn;cases hn) (λ_ _ _ _ _ _ _ _ _ _ _=>trivial) fuel listed a w hcl (Region.free_spec ho h1) (by simpa using h2) hy trivial ((ih fuel _ _ w (tz hcl (by simpa using h2))).1 h4 hw)
 | e i t more ih1 ih2 =>
  intro fuel listed a w hcl
  cases fuel with
  | zero=>exact ⟨λh=>by simp [okT] at h,λf hf h=>by simp [okT] at h⟩
  | succ fuel =>
   have wx:∀ first,okT md ops ns ps (.e i t more) (fuel+1) first listed=true→wpT P ops S ns Q (.e i t more) a w→(∀ j∈i::more.choices,j∈Region.ready md ops listed) →
     ∀ j∈i::more.choices,wpOp P ops Q j (λa' w'=>((ns.contains j=true→S w')∧(ps.contains j=true→w'=w))∧wR P md ops Q S ns ps fuel (listed.setIfInBounds j true) a' w') a w:=by
    intro first h hw hr j hj
    simp only [okT,Bool.and_eq_true,Bool.not_eq_true'] at h
    obtain ⟨⟨⟨_,h1⟩,h2⟩,h3⟩:=h
    rcases List.mem_cons.1 hj with rfl | hj
    ·exact wpOp_mono (λa' w' h'=>⟨⟨h'.1,λhp=>by rw [h1] at hp;cases hp⟩,(ih1 fuel _ a' w' (tz hcl (hr j List.mem_cons_self))).1 h2 h'.2⟩) hw.1
    ·exact (ih2 (fuel+1) listed a w hcl).2 fuel rfl h3 hw.2 (λk hk=>hr k (List.mem_cons_of_mem _ hk)) j hj
   refine ⟨λh hw=>?_,λf hf h hw hr j hj=>?_⟩
   ·have h0:=h
    simp only [okT,Bool.not_true,Bool.false_or,Bool.and_eq_true,beq_iff_eq] at h0
    obtain ⟨⟨⟨h1,_⟩,_⟩,_⟩:=h0
    refine ⟨λh0=>(by rw [h0] at h1;cases h1),λj hj=>?_⟩
    have hj':j∈i::more.choices:=by rw [← h1];exact hj
    exact wx true h hw (λk hk=>by rw [h1];exact hk) j hj'
   ·obtain rfl : fuel = f := by omega
    exact wx false h hw hr j hj
def an4 (ops:Array Oper) (ns ps:List Nat) (t:Ord):Bool :=
 Region.noSelect ops&&okT .any ops ns ps t ops.size true (Array.replicate ops.size false)
theorem bn4 {id:Nat} {a:Act} {w:World} (t:Ord) (ns ps:List Nat) (S:World→Prop) (hm:P.follows .mixedOrders=true) (ht:an4 ops ns ps t=true) (hQ:∀ c a w,¬ Q (.panic c) a w)
  (h:wpT P ops S ns Q t a w.drew):(Code.region id ops true).wk P Q a w:=by
 simp only [an4,Bool.and_eq_true] at ht
 obtain ⟨h1,h3⟩:=ht
 refine ac3 hm (zR (S:=S) (ns:=ns) (ps:=ps) _ _ _ _ ?_)
 exact (aj3 h1 (λc a a' w _ h=>(hQ c a w h).elim) t _ _ a _ (λk hk=>by
  rw [Array.getD_eq_getD_getElem?,Array.getElem?_replicate] at hk
  split at hk<;>simp at hk)).1 h3 h
variable {a:Act} {w:World} {o:Oper} {n:Nat} {l:Env} {d i:Nat} {v:Value} {R:Value→World→Prop} {t more:Ord}
end
end Go.Wk
