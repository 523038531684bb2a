/- A part of a proof: general laws of walks, no statement of the seat. -/
import Derived.Test.YtkihhabnfheieaaGreatWkS
import Derived.Defers
import Derived.Recover
import Derived.Test.YtkihhabnfheieaaGreatWkN
namespace Go.Wk
open Go Go.RowKit
theorem cv3.mono {P:Program} {f:FuncId} {args:List Value} {w:World} {R K:Value->World->Prop} {X M:List PanicEntry->World->Prop} (h:cv3 P f args w R X) (N:∀ v w',R v w'->K v w') (O:∀ c w',X c w'->M c w'):cv3 P f args w K M :=
 Calls.mono h λe w' H=>by
  cases e with
  | returned u=>exact N u w' H
  | panicked c=>exact O c w' H
  | outgrown=>exact H.elim
end Go.Wk
namespace Go.Wk
open Go Go.RowKit
section
variable {w0 w:World} {hz:kR} {L:List Ch}
theorem Mem.split {c c1 c2:Ch} (hm:Mem w0 hz w L) (k:Nat) (hk:L[k]?=some c)
  (H:∀ F,c.pr F (hp w)->∃ R G:Nat->Prop,(∀ b,R b->F b)/\(∀ b,G b->F b)/\(∀ b,R b->¬ G b)/\c1.pr R (hp w)/\c2.pr G (hp w)):Mem w0 hz w (c2::L.set k c1):=by
 obtain ⟨hs,N,Fs,f1,O,f3⟩:=hm;obtain ⟨R,G,r1,r2,r3,r4,r5⟩:=H _ (f1 k _ hk);refine ⟨hs,N,λi b=>match i with | 0=>G b | i+1=>if i=k then R b else Fs i b,?_,?_,?_⟩
 ·intro i d hi;cases i with
  | zero=>simp at hi;subst hi;exact r5
  | succ i =>
   simp only [List.getElem?_cons_succ] at hi;by_cases e:i=k
   ·subst e;have hl:i<L.length:=(lgE.1 hk).1;rw [List.getElem?_set_self hl] at hi;simp only [osI] at hi;subst hi;simp only [if_true];exact r4
   ·rw [List.getElem?_set_ne (Ne.symm e)] at hi;simp only [e,if_false];exact f1 i d hi
 ·intro i j b M hi K;cases i with
  | zero =>
   cases j with
   | zero=>exact M rfl
   | succ j =>
    simp only at hi K;split at K
    ·exact r3 b K hi
    ·rename_i e;exact O k j b (Ne.symm e) (r2 b hi) K
  | succ i =>
   cases j with
   | zero =>
    simp only at hi K;split at hi
    ·exact r3 b hi K
    ·rename_i e;exact O k i b (Ne.symm e) (r2 b K) hi
   | succ j =>
    simp only at hi K;split at hi<;>split at K
    ·rename_i e1 W;exact M (by rw [e1,W])
    ·rename_i e1 W;exact O k j b (Ne.symm W) (r1 b hi) K
    ·rename_i e1 W;exact O k i b (Ne.symm e1) (r1 b K) hi
    ·exact O i j b (by omega) hi K
 ·intro i b hi;cases i with
  | zero=>exact f3 k b (r2 b hi)
  | succ i =>
   simp only at hi;split at hi
   ·exact f3 k b (r1 b hi)
   ·exact f3 i b hi
theorem Mem.unpair {α β:Type} [GT α] [GT β] {c d:List Value} {x:α} {y:β} (K:Mem w0 hz w L) (k:Nat) (M:L[k]?=some (ow (c++d) (x,y))) (hl:c.length=GT.sz α):Mem w0 hz w (ow d y::L.set k (ow c x)) :=
 K.split k M λF hF=>by
  obtain ⟨c',_,W,G1,G2,O,N,g3,H,h2⟩:=hF;have hc:c'.length=GT.sz α:=GT.len (GT.own_rep H);obtain ⟨rfl,rfl⟩:=List.append_inj W (by rw [hc,hl]);exact ⟨G1,G2,O,N,g3,H,h2⟩
end
section
variable {α:Type} [GT α]
def kY (b off len cap:Nat) (xs:List α) (i:Nat) (ecs:List Value):Ch where
 pr R h:=∃ C T,∃ fps:Nat->Nat->Prop,h b=some (.cells C T (0,0))/\R b/\xs.length=len/\len<=cap/\(cap<=maxLen/\len<=140737488355328)/\off+cap*GT.sz α<=C.size /\
  (∀ j c,fps j c->R c/\c≠b)/\(∀ j k c,j≠k->fps j c->¬ fps k c)/\(∀ (j:Nat) (x:α),j≠i->xs[j]?=some x->GT.own (fps j) h (seg C (off+j*GT.sz α) (GT.sz α)) x)/\i<xs.length/\seg C (off+i*GT.sz α) (GT.sz α)=ecs
 loc R h h2 hp hh:=by
  obtain ⟨C,T,fps,W,N,e3,e4,O,e6,M,e8,e9,K,H⟩:=hp
  exact ⟨C,T,fps,(hh b N).trans W,N,e3,e4,O,e6,M,e8,λj x hj hx=>GT.own_loc (e9 j x hj hx) λc hc=>hh c (M j c hc).1,K,H⟩
 mono R R' h hp hR:=by
  obtain ⟨C,T,fps,W,N,e3,e4,O,e6,M,e8,e9,K,H⟩:=hp
  exact ⟨C,T,fps,W,hR b N,e3,e4,O,e6,λj c hc=>⟨hR c (M j c hc).1,(M j c hc).2⟩,e8,e9,K,H⟩
variable {w0 w:World} {hz:kR} {L:List Ch} {b off len cap i:Nat} {xs:List α} {x:α} {ecs:List Value}
theorem Mem.openE (hm:Mem w0 hz w L) (k:Nat) (hk:L[k]?=some (ow [.slice (some ⟨b,off,none⟩) len cap] xs)) (hx:xs[i]?=some x) :
  ∃ ecs,kS (hp w) b (off+i*GT.sz α) ecs/\Mem w0 hz w (ow ecs x::L.set k (kY b off len cap xs i ecs)):=by
 obtain ⟨hi,_⟩:=lgE.1 hx;obtain ⟨F,hF,_⟩:=hm.get k hk;rcases ke.1 hF with ⟨M,_⟩ | ⟨b',a2,a4,a3,C,T,M,_,hb,_,_,_,hs,fps,_,_,_⟩
 ·cases M
 simp only [Value.slice.injEq,osI,Addr.mk.injEq] at M;obtain ⟨⟨rfl,rfl,_⟩,rfl,rfl⟩:=M;refine ⟨seg C (off+i*GT.sz α) (GT.sz α),qF hb,hm.split k hk λF' a9=>?_⟩;rcases ke.1 a9 with ⟨M,_⟩ | ⟨b',a2,a4,a3,_,_,M,a6,a0,O,W,a1,a8,H,K,a5,a7⟩
 ·cases M
 simp only [Value.slice.injEq,osI,Addr.mk.injEq] at M;obtain ⟨⟨rfl,rfl,_⟩,rfl,rfl⟩:=M;rw [hb] at a0;simp only [osI,Obj.cells.injEq] at a0;obtain ⟨rfl,rfl,_⟩:=a0;refine ⟨λc=>F' c/\¬ H i c,H i,λc hc=>hc.1,λc hc=>(K i c hc).1,λc hc=>hc.2,?_,a7 i x hx⟩;refine ⟨C,T,λj c=>j≠i/\H j c,hb,⟨a6,λhc=>(K i b hc).2 rfl⟩,O,W,a1,a8,?_,?_,?_,hi,rfl⟩
 ·rintro j c ⟨hj,hc⟩;exact ⟨⟨(K j c hc).1,λN=>a5 j i c hj hc N⟩,(K j c hc).2⟩
 ·rintro j q c aA ⟨_,hc⟩ ⟨_,N⟩;exact a5 j q c aA hc N
 ·intro j y hj hy;exact GT.own_mono (λc hc=>⟨hj,hc⟩) (a7 j y hy)
theorem Mem.holeE_at (K:Mem w0 hz w L) (k:Nat) (M:L[k]?=some (kY b off len cap xs i ecs)):kS (hp w) b (off+i*GT.sz α) ecs:=by
 obtain ⟨F,O,_⟩:=K.get k M;obtain ⟨C,T,fps,N,_,_,_,_,_,_,_,_,_,H⟩:=O;rw [<- H];exact qF N
theorem Mem.holeE_len (H:Mem w0 hz w L) (k:Nat) (K:L[k]?=some (kY b off len cap xs i ecs)):xs.length=len:=by
 obtain ⟨F,N,_⟩:=H.get k K;obtain ⟨C,T,fps,_,_,M,_⟩:=N;exact M
omit [GT α] in
theorem kq {xs:List α} {i:Nat} {x:α} (h:xs[i]?=some x):xs.set i x=xs:=by
 obtain ⟨hi,rfl⟩:=lgE.1 h;exact List.set_getElem_self hi
theorem Mem.shutE {y:α} (hm:Mem w0 hz w L) (k j:Nat) (a0:k≠j) (hk:L[k]?=some (kY b off len cap xs i ecs)) (hj:L[j]?=some (ow ecs y)) :
  Mem w0 hz w ((L.set k (ow [.slice (some ⟨b,off,none⟩) len cap] (xs.set i y))).set j ⟨λ_ _=>True,λ_ _ _ _ _=>trivial,λ_ _ _ _ _=>trivial⟩) :=
 hm.merge k j a0 hk hj λF G hF hG N=>by
  obtain ⟨C,T,fps,e1,e2,e3,e4,e5,e6,M,e8,e9,W,O⟩:=hF;refine ke.2 (.inr ⟨b,off,len,cap,C,T,rfl,.inl e2,e1,by simpa using e3,e4,e5,e6,λq c=>if q=i then G c else fps q c,?_,?_,?_⟩)
  ·intro q c hc
   try dsimp only at hc
   split at hc
   ·exact ⟨.inr hc,λe=>by subst e;exact N c e2 hc⟩
   ·exact ⟨.inl (M q c hc).1,(M q c hc).2⟩
  ·intro q r c K hc H
   try dsimp only at hc H
   split at hc<;>split at H
   ·rename_i a1 a2;exact K (by rw [a1,a2])
   ·exact N c (M r c H).1 hc
   ·exact N c (M q c hc).1 H
   ·exact e8 q r c K hc H
  ·intro q z hz;dsimp only;by_cases e:q=i
   ·subst e;rw [List.getElem?_set_self W] at hz;simp only [osI] at hz;subst hz;simp only [if_true];rw [O];exact hG
   ·rw [List.getElem?_set_ne (Ne.symm e)] at hz;simp only [e,if_false];exact e9 q z e hz
theorem mw {P:Program} {a:Act} {o:Oper} {n j:Nat} {l:Env} {v:Value} {p q:Operand} {vs:List Value} {ty:TypeId} (k:Nat) (hf:Fr n l a) (hm:Mem w0 hz w L) (hk:L[k]?=some (kY b off len cap xs i ecs)) (aH:ecs.length=GT.sz α)
  (ho:o.op=.store ty p q) (hs:∀ w,(sizeOf ty).run P w=.ok vs.length w) (aB:ev l p=some (.pointer (some ⟨b,off+i*GT.sz α+j,none⟩))) (hq:ev l q=some v) (hv:v.cells=vs.toArray) (h1:∀ u∈vs,u.oneCell'=true)
  (hj:Nat.ble (j+vs.length) (GT.sz α)=true) :
  Ef P a w o (λ_ w'=>Mem w0 hz w' (L.set k (kY b off len cap xs i (mM ecs j vs)))):=by
 have aI:=Nat.le_of_ble_eq_true hj;obtain ⟨F,hF,_⟩:=hm.get k hk;obtain ⟨C,T,fps,e1,_,_,_,_,_,_,_,_,_,_⟩:=hF
 have aE:off+i*GT.sz α+GT.sz α<=C.size:=by
  have:=mg (s:=GT.sz α) (show i<cap by omega);omega
 have H:off+i*GT.sz α+j+vs.length<=C.toList.length:=by simp;omega
 have a0:=run_storeCells_at P b (off+i*GT.sz α+j) T vs 0 C w e1 (by simp;omega) h1;have aF:=setRow_heap w b C (mM C.toList (off+i*GT.sz α+j) vs).toArray T (0,0) e1;refine sd (w':=w.setRow b (mM C.toList (off+i*GT.sz α+j) vs).toArray) ?_ ?_
 ·simp [execOp,ho,hf.eval aB,hf.eval hq,Instr.storeAt,Instr.sureAddr,storeVar,hv,hs,a0,mM]
 ·refine hm.upd k hk ⟨rfl, rfl, rfl, by simp⟩ fun F' N M => ⟨F', fun _ h => .inl h, fun c hc => by simpa using M c hc, ?_, fun c _ W => setRow_other w b c _ (fun e => W (by
   obtain ⟨C',T',K,O,a2,_⟩:=N
   subst e;exact a2))⟩
  obtain ⟨C',T',K,O,a2,a3,a4,a5,_,a7,a8,a9,aC,aD⟩:=N;rw [e1] at O;simp only [osI,Obj.cells.injEq] at O;obtain ⟨rfl,rfl,_⟩:=O;refine ⟨(mM C.toList (off+i*GT.sz α+j) vs).toArray,T,K,aF,a2,a3,a4,a5,by simp [n5 H];omega,a7,a8,?_,aC,?_⟩
  ·intro r z hr hz;rw [bn7 (C:=C) (by simp [n5 H])]
   ·exact GT.own_loc (a9 r z hr hz) λc hc=>setRow_other w b c _ (a7 r c hc).2
   ·intro t _ _;rw [List.getElem?_toArray,nY H,if_neg]
    ·simp
    ·rcases Nat.lt_or_gt_of_ne hr with M | aA
     ·have:=mg (s:=GT.sz α) M;omega
     ·have:=mg (s:=GT.sz α) aA;omega
  ·rw [<- aD];apply List.ext_getElem?;intro t;have aG:(seg C (off+i*GT.sz α) (GT.sz α)).length=GT.sz α:=xq aE;by_cases ht:t<GT.sz α
   ·rw [nP ht, List.getElem?_toArray, nY H, nY (by omega)];by_cases hc:j<=t/\t<j+vs.length
    ·rw [if_pos (by omega),if_pos hc];congr 1;omega
    ·rw [if_neg (by omega),if_neg hc,nP ht];simp
   ·rw [List.getElem?_eq_none (by simp [seg];omega),List.getElem?_eq_none (by rw [n5 (by omega)];omega)]
end
section
variable {n:Nat} {l:Env} {a:Act} {P:Program} {w:World} {o:Oper} {v:Value}
theorem da1 (H:Fr n l a) (K:Yl P l w o v):Ef P a w o (λu w'=>v=u/\w'=w) :=
 nR (K n a H) ⟨rfl,rfl⟩
end
theorem sl3 {p K:Option Addr} {n H c c':Nat} (h:Value.slice p n c=Value.slice K H c'):p=K/\n=H/\c=c':=by cases h;exact ⟨rfl,rfl,rfl⟩
abbrev pV (b:Nat):Value:=.pointer (some ⟨b,0,none⟩)
abbrev sV (b o n c:Nat):Value:=.slice (some ⟨b,o,none⟩) n c
abbrev J (n:Int):Value:=.int .i64 n
def Ord.sub (u:Ord):Ord->Ord
 | .fin=>u
 | .q i t=>.q i (Ord.sub u t)
 | .p i t=>.p i (Ord.sub u t)
 | .e i t m=>.e i (Ord.sub u t) (Ord.sub u m)
 | .nil=>.nil
section
variable {P:Program} {ops:Array Oper} {S:World->Prop} {ns:List Nat} {Q Q':Exit->Act->World->Prop}
end
def pl (o:Oper) (n:Nat):Option Nat:=match o.guard,o.dst with
 | none,some d=>bif Nat.blt d n then some d else none
 | _,_=>none
section
variable {P:Program} {ops:Array Oper} {Q:Exit->Act->World->Prop} {a:Act} {w:World} {o:Oper} {n:Nat} {l:Env} {d i:Nat} {v:Value} {R:Value->World->Prop} {rest:List Oper}
variable {S:World->Prop} {ns:List Nat} {t:Ord}
end
theorem Mem.pk {w0 w:World} {hz:kR} {L L':List Ch} (K:Mem w0 hz w L) (H:List Nat) (M:decide H.Nodup=true) (N:H.map (λj=>L[j]?)=L'.map some):Mem w0 hz w L':=K.pick H (of_decide_eq_true M) N
end Go.Wk
namespace Go.Wk
open Go Go.RowKit
def G {ρ:Type} (m:Option ρ) (r:ρ) (n:Nat) (l:Env) (φ:Act->World->Prop) (w:World):Prop :=
 m=some r->∀ a,Fr n l a->φ a w
abbrev uc (next:Act->World->Prop) (Q:Exit->Act->World->Prop) (e:Exit):Act->World->Prop:=match e with
 | .normal=>next
 | e=>Q e
abbrev ce3 (id:Nat) (Q:Exit->Act->World->Prop) (e:Exit):Act->World->Prop:=match e with
 | .exit i=>bif Nat.beq i id then Q .normal else Q (.exit i)
 | e=>Q e
abbrev St (n:Nat) (l:Env) (w0:World) (hz:kR) (L:List Ch) (a:Act) (w:World):Prop:=Fr n l a/\Mem w0 hz w L
def Jn {S:Type} (I:S->Act->World->Prop) (s:S) (a:Act) (w:World):Prop:=I s a w
def Js {S:Type} (n:Nat) (l':S->Env) (w0:World) (hz:kR) (L':S->List Ch) (s:S) (a:Act) (w:World):Prop:=St n (l' s) w0 hz (L' s) a w
abbrev k6 {ρ:Type} (P:Program) (f:FuncId) (args:List Value) (w:World) (m:Option ρ) (R:ρ->Value->World->Prop):Prop:=∀ r,m=some r->Con P f args w (R r)
def Jr {ρ:Type} (R:ρ->Value->World->Prop) (r:ρ):Value->World->Prop:=R r
theorem t2_ {A B:Type} {a K:A} {b H:B} (h:(a,b)=(K,H)):a=K/\b=H:=by cases h;exact ⟨rfl,rfl⟩
theorem t3 {A B C:Type} {a K:A} {b H:B} {c c':C} (h:(a,b,c)=(K,H,c')):a=K/\b=H/\c=c':=by cases h;exact ⟨rfl,rfl,rfl⟩
theorem t4 {A B C D:Type} {a K:A} {b H:B} {c c':C} {d M:D} (h:(a,b,c,d)=(K,H,c',M)):a=K/\b=H/\c=c'/\d=M:=by cases h;exact ⟨rfl,rfl,rfl,rfl⟩
theorem t5 {A B C D E:Type} {a K:A} {b H:B} {c c':C} {d N:D} {e M:E} (h:(a,b,c,d,e)=(K,H,c',N,M)):a=K/\b=H/\c=c'/\d=N/\e=M:=by cases h;exact ⟨rfl,rfl,rfl,rfl,rfl⟩
theorem t6 {A B C D E F:Type} {a M:A} {b K:B} {c c':C} {d N:D} {e H:E} {f f':F} (h:(a,b,c,d,e,f)=(M,K,c',N,H,f')):a=M/\b=K/\c=c'/\d=N/\e=H/\f=f':=by cases h;exact ⟨rfl,rfl,rfl,rfl,rfl,rfl⟩
def gd (ops:Array Oper) (l:Env):Option (Nat × Bool)->Bool
 | none=>true
 | some (j,b)=>match (ops[j]?).bind (·.dst) with
  | some H=>match lk l H with
   | some (.bool c)=>c == b
   | _=>false
  | none=>false
def gn (ops:Array Oper) (l:Env):Option (Nat × Bool)->Bool
 | none=>false
 | some (j,b)=>match (ops[j]?).bind (·.dst) with
  | some H=>match lk l H with
   | some (.bool c)=>!(c == b)
   | some (.tuple _)=>true
   | _=>false
  | none=>false
section
variable {P:Program} {ops:Array Oper} {n:Nat} {l:Env} {a:Act} {w:World} {o:Oper} {d:Nat} {v:Value}
theorem aq2 (M:Fr n l a) (h:gd ops l o.guard=true):Region.wanted o (yielded ops a.tmps)=true:=by
 cases K:o.guard with
 | none=>exact bg2 K
 | some W =>
  obtain ⟨j,b⟩:=W;rw [K] at h;unfold gd at h;split at h
  ·rename_i H;cases H
  rename_i j' b' H;cases H;split at h
  ·rename_i dj N;split at h
   ·rename_i c O;rw [ae4 M K N O];exact h
   ·cases h
  ·cases h
theorem bs2 (N:Fr n l a) (h:gn ops l o.guard=true):Region.wanted o (yielded ops a.tmps)=false:=by
 cases K:o.guard with
 | none=>rw [K] at h;cases h
 | some W =>
  obtain ⟨j,b⟩:=W;rw [K] at h;unfold gn at h;split at h
  ·rename_i H;cases H
  rename_i j' b' H;cases H;split at h
  ·rename_i dj O;split at h
   ·rename_i c M;rw [ae4 N K O M];simpa using h
   ·rename_i vs M;simp only [Region.wanted,K,yielded,O,obS,N.get dj _ M];rfl
   ·cases h
  ·cases h
def Yd (P:Program) (ops:Array Oper) (n:Nat) (l:Env) (w:World) (o:Oper) (d:Nat) (v:Value):Prop :=
 (gd ops l o.guard=true/\o.dst=some d/\Nat.blt d n=true)/\Yl P l w o v
theorem yG (h:(gd ops l o.guard,o.dst,Nat.blt d n)=(true,some d,true)) (H:Yl P l w o v):Yd P ops n l w o d v:=⟨t3 h,H⟩
variable {x y c:Operand} {vx vy:Value} {t t' e s T:TypeId} {k:IntKind} {i j:Int}
theorem yM (h:(gd ops l o.guard,o.dst,Nat.blt d n,o.op,ev l x)=(true,some d,true,.move x,some v)):Yd P ops n l w o d v :=
 let ⟨h1,h2,h3,h4,h5⟩:=t5 h
 ⟨⟨h1,h2,h3⟩,cv1 h4 h5⟩
theorem yA (h:(gd ops l o.guard,o.dst,Nat.blt d n,o.op,ev l x)=(true,some d,true,.assign x,some v)):Yd P ops n l w o d v :=
 let ⟨h1,h2,h3,h4,h5⟩:=t5 h
 ⟨⟨h1,h2,h3⟩,ch4 h4 h5⟩
theorem yKt (h:(gd ops l o.guard,o.dst,Nat.blt d n,o.op,ev l c,ev l x)=(true,some d,true,.pick c x y,some (.bool true),some v)):Yd P ops n l w o d v :=
 let ⟨h1,h2,h3,h4,h5,h6⟩:=t6 h
 ⟨⟨h1,h2,h3⟩,ck0 h4 h5 h6⟩
theorem yKf (h:(gd ops l o.guard,o.dst,Nat.blt d n,o.op,ev l c,ev l y)=(true,some d,true,.pick c x y,some (.bool false),some v)):Yd P ops n l w o d v :=
 let ⟨h1,h2,h3,h4,h5,h6⟩:=t6 h
 ⟨⟨h1,h2,h3⟩,ck5 h4 h5 h6⟩
theorem yN {b:Bool} (h:(gd ops l o.guard,o.dst,Nat.blt d n,o.op,ev l x)=(true,some d,true,.unOp .not t x,some (.bool b))):Yd P ops n l w o d (.bool (!b)) :=
 let ⟨h1,h2,h3,h4,h5⟩:=t5 h
 ⟨⟨h1,h2,h3⟩,db2 h4 h5⟩
theorem yX {i:Nat} {vs:Array Value} (h:(gd ops l o.guard,o.dst,Nat.blt d n,o.op,ev l x,vs[i]?)=(true,some d,true,.extract x i,some (.tuple vs),some v)):Yd P ops n l w o d v :=
 let ⟨h1,h2,h3,h4,h5,h6⟩:=t6 h
 ⟨⟨h1,h2,h3⟩,bv9 h4 h5 h6⟩
def bI (k:IntKind) (i j:Int):BinOp->Option Value
 | .lss=>some (.bool (decide (i<j)))
 | .leq=>some (.bool (decide (i<=j)))
 | .gtr=>some (.bool (decide (j<i)))
 | .geq=>some (.bool (decide (j<=i)))
 | .eql=>some (.bool (decide (i=j)))
 | .neq=>some (.bool (decide (i≠j)))
 | .add=>match k with
  | .i64=>some (.int .i64 (w64 (i+j)))
  | k=>some (.int k (k.wrap (i+j)))
 | .sub=>match k with
  | .i64=>some (.int .i64 (w64 (i - j)))
  | k=>some (.int k (k.wrap (i - j)))
 | .mul=>match k with
  | .i64=>some (.int .i64 (w64 (i*j)))
  | k=>some (.int k (k.wrap (i*j)))
 | .and=>match k with
  | .i64=>some (.int .i64 (cu0 i j))
  | k=>some (.int k (si k (· &&& ·) i j))
 | .or=>match k with
  | .i64=>some (.int .i64 (orI i j))
  | k=>some (.int k (si k (· ||| ·) i j))
 | .xor=>some (.int k (si k (· ^^^ ·) i j))
 | _=>none
theorem dc7 {f:BinOp} (M:o.op=.binOp f t x y t') (K:ev l x=some (.int k i)) (H:ev l y=some (.int k j)) (N:bI k i j f=some v):Yl P l w o v:=by
 cases f<;>simp only [bI] at N<;>try (cases N)
 ·split at N<;>cases N
  ·exact cu8 M K H
  ·exact ck3 M K H
 ·split at N<;>cases N
  ·exact cw3 M K H
  ·exact ci1 M K H
 ·split at N<;>cases N
  ·exact cs6 M K H
  ·exact cr9 M K H
 ·split at N<;>cases N
  ·exact dc1 M K H
  ·exact cy0 M K H
 ·split at N<;>cases N
  ·exact dc8 M K H
  ·exact db8 M K H
 ·exact cu5 M K H
 ·exact da9 M K H
 ·exact db4 M K H
 ·exact cz3 M K H
 ·exact dc2 M K H
 ·exact cz5 M K H
 ·exact cz1 M K H
theorem t7 {A B C D E F H:Type} {a K:A} {b N:B} {c c':C} {d M:D} {e O:E} {f f':F} {h h':H} (q:(a,b,c,d,e,f,h)=(K,N,c',M,O,f',h')):a=K/\b=N/\c=c'/\d=M/\e=O/\f=f'/\h=h':=by cases q;exact ⟨rfl,rfl,rfl,rfl,rfl,rfl,rfl⟩
theorem yB {f:BinOp} (h:(gd ops l o.guard,o.dst,Nat.blt d n,o.op,ev l x,ev l y,bI k i j f)=(true,some d,true,.binOp f t x y t',some (.int k i),some (.int k j),some v)):Yd P ops n l w o d v :=
 let ⟨h1,h2,h3,h4,h5,h6,h7⟩:=t7 h
 ⟨⟨h1,h2,h3⟩,dc7 h4 h5 h6 h7⟩
theorem yP (H:-9223372036854775808<=i+j) (K:i+j<9223372036854775808) (h:(gd ops l o.guard,o.dst,Nat.blt d n,o.op,ev l x,ev l y)=(true,some d,true,.binOp .add t x y t',some (.int .i64 i),some (.int .i64 j))):Yd P ops n l w o d (.int .i64 (i+j)) :=
 let ⟨g1,g2,g3,g4,g5,g6⟩:=t6 h
 ⟨⟨g1,g2,g3⟩,cn5 g4 g5 g6 H K⟩
theorem yS (H:-9223372036854775808<=i - j) (K:i - j<9223372036854775808) (h:(gd ops l o.guard,o.dst,Nat.blt d n,o.op,ev l x,ev l y)=(true,some d,true,.binOp .sub t x y t',some (.int .i64 i),some (.int .i64 j))):Yd P ops n l w o d (.int .i64 (i - j)) :=
 let ⟨g1,g2,g3,g4,g5,g6⟩:=t6 h
 ⟨⟨g1,g2,g3⟩,cm9 g4 g5 g6 H K⟩
theorem yF {q b i off:Nat} (H:kJ P t q off) (h:(gd ops l o.guard,o.dst,Nat.blt d n,o.op,ev l x)=(true,some d,true,.fieldAddr t x q,some (.pointer (some ⟨b,i,none⟩)))):Yd P ops n l w o d (.pointer (some ⟨b,i+off,none⟩)) :=
 let ⟨h1,h2,h3,h4,h5⟩:=t5 h
 ⟨⟨h1,h2,h3⟩,bg8 H h4 h5⟩
theorem yI {b off len cap:Nat} (H:mO P t e s) (h0:0<=j) (hi:j.toNat<len) (h:(gd ops l o.guard,o.dst,Nat.blt d n,o.op,ev l x,ev l y)=(true,some d,true,.indexAddr t x y,some (.slice (some ⟨b,off,none⟩) len cap),some (.int k j))):Yd P ops n l w o d (.pointer (some ⟨b,off+j.toNat*s,none⟩)) :=
 let ⟨g1,g2,g3,g4,g5,g6⟩:=t6 h
 ⟨⟨g1,g2,g3⟩,bh0 H g4 g5 g6 h0 hi⟩
theorem yV {p:Option Addr} {len cap:Nat} (H:mO P t e s) (h:(gd ops l o.guard,o.dst,Nat.blt d n,o.op,ev l x)=(true,some d,true,.call { callee:=.builtin .len,args:=#[x],argTypes:=#[t] },some (.slice p len cap))):Yd P ops n l w o d (.int .i64 (len:Int)) :=
 let ⟨h1,h2,h3,h4,h5⟩:=t5 h
 ⟨⟨h1,h2,h3⟩,bh4 H.und h4 h5⟩
theorem yU {fn:Fn} {H:Array Operand} {cs:List Value} (h:(gd ops l o.guard,o.dst,Nat.blt d n,o.op,evs l H.toList)=(true,some d,true,.makeFunc fn #[] H,some cs)):Yd P ops n l w o d (.func fn #[] cs.toArray) :=
 let ⟨h1,h2,h3,h4,h5⟩:=t5 h
 ⟨⟨h1,h2,h3⟩,bo5 h4 h5⟩
theorem yL {w0:World} {hz:kR} {L:List Ch} {b i:Nat} {cs:List Value} (H:Mem w0 hz w L) (q:Nat) (K:∀ w,(isAgg t).run P w=.ok false w) (h:(gd ops l o.guard,o.dst,Nat.blt d n,o.op,ev l x,L[q]?,cs[i]?)=(true,some d,true,.load t x,some (.pointer (some ⟨b,i,none⟩)),some (blk b cs T),some v)):Yd P ops n l w o d v :=
 let ⟨h1,h2,h3,h4,h5,h6,h7⟩:=t7 h
 ⟨⟨h1,h2,h3⟩,br1 K h4 h5 (H.blk_cell q h6 h7)⟩
theorem yl {b i:Nat} (H:∀ w,(isAgg t).run P w=.ok false w) (hc:w.cell? ⟨b,i,none⟩=some v) (h:(gd ops l o.guard,o.dst,Nat.blt d n,o.op,ev l x)=(true,some d,true,.load t x,some (.pointer (some ⟨b,i,none⟩)))):Yd P ops n l w o d v :=
 let ⟨h1,h2,h3,h4,h5⟩:=t5 h
 ⟨⟨h1,h2,h3⟩,br1 H h4 h5 hc⟩
theorem yn {b i:Nat} {cs:List Value} (hc:kS (hp w) b i cs) (H:∀ w,(isAgg t).run P w=.ok true w) (hs:∀ w,(sizeOf t).run P w=.ok cs.length w) (h:(gd ops l o.guard,o.dst,Nat.blt d n,o.op,ev l x)=(true,some d,true,.load t x,some (.pointer (some ⟨b,i,none⟩)))):Yd P ops n l w o d (.agg cs.toArray) :=
 let ⟨h1,h2,h3,h4,h5⟩:=t5 h
 ⟨⟨h1,h2,h3⟩,co3 H hs h4 h5 hc⟩
end
section
variable {ρ β:Type} {m:Option ρ} {r:ρ} {P:Program} {ops:Array Oper} {Q:Exit->Act->World->Prop} {n:Nat} {l:Env} {w w0:World} {hz:kR} {L:List Ch} {o:Oper} {rest:List Oper} {d:Nat} {v:Value} {R:Value->World->Prop} {φ:Act->World->Prop}
variable {x y c:Operand} {t t' e s T:TypeId} {k:IntKind} {i j:Int}
theorem gv {a:Act} (H:Fr n l a) (k:G m r n l φ w):m=some r->φ a w:=λh=>k h a H
theorem gY (h:Yd P ops n l w o d v) (k:G m r n ((d,v)::l) (wpList P ops Q rest) w):G m r n l (wpList P ops Q (o::rest)) w :=
 λK a H=>ad1 (aq2 H h.1.1) (ck2 H h.2 (by rw [h.1.2.1];exact k K _ (H.put h.1.2.2)))
theorem gO (h:(gn ops l o.guard,o.dst,Nat.blt d n)=(true,some d,true)) (k:G m r n ((d,undef)::l) (wpList P ops Q rest) w):G m r n l (wpList P ops Q (o::rest)) w:=λK a H=>by
 obtain ⟨N,M,O⟩:=t3 h;unfold wpList;rw [if_neg (by rw [bs2 H N];simp),M];exact k K _ (H.put O)
theorem gE (k:G m r n l (Q .normal) w):G m r n l (wpList P ops Q []) w:=k
theorem Y (h:(gd ops l o.guard,o.dst,Nat.blt d n,o.op,ev l x)=(true,some d,true,.move x,some v)) (k:G m r n ((d,v)::l) (wpList P ops Q rest) w):G m r n l (wpList P ops Q (o::rest)) w:=gY (yM h) k
theorem gA (h:(gd ops l o.guard,o.dst,Nat.blt d n,o.op,ev l x)=(true,some d,true,.assign x,some v)) (k:G m r n ((d,v)::l) (wpList P ops Q rest) w):G m r n l (wpList P ops Q (o::rest)) w:=gY (yA h) k
theorem gB {f:BinOp} (h:(gd ops l o.guard,o.dst,Nat.blt d n,o.op,ev l x,ev l y,bI k i j f)=(true,some d,true,.binOp f t x y t',some (.int k i),some (.int k j),some v)) (k:G m r n ((d,v)::l) (wpList P ops Q rest) w):G m r n l (wpList P ops Q (o::rest)) w:=gY (yB h) k
theorem gN {b:Bool} (h:(gd ops l o.guard,o.dst,Nat.blt d n,o.op,ev l x)=(true,some d,true,.unOp .not t x,some (.bool b))) (k:G m r n ((d,.bool (!b))::l) (wpList P ops Q rest) w):G m r n l (wpList P ops Q (o::rest)) w:=gY (yN h) k
theorem gX {i:Nat} {vs:Array Value} (h:(gd ops l o.guard,o.dst,Nat.blt d n,o.op,ev l x,vs[i]?)=(true,some d,true,.extract x i,some (.tuple vs),some v)) (k:G m r n ((d,v)::l) (wpList P ops Q rest) w):G m r n l (wpList P ops Q (o::rest)) w:=gY (yX h) k
theorem gF {q b i off:Nat} (H:kJ P t q off) (h:(gd ops l o.guard,o.dst,Nat.blt d n,o.op,ev l x)=(true,some d,true,.fieldAddr t x q,some (.pointer (some ⟨b,i,none⟩)))) (k:G m r n ((d,.pointer (some ⟨b,i+off,none⟩))::l) (wpList P ops Q rest) w):G m r n l (wpList P ops Q (o::rest)) w:=gY (yF H h) k
theorem gL {b i:Nat} {cs:List Value} (H:Mem w0 hz w L) (q:Nat) (K:∀ w,(isAgg t).run P w=.ok false w) (h:(gd ops l o.guard,o.dst,Nat.blt d n,o.op,ev l x,L[q]?,cs[i]?)=(true,some d,true,.load t x,some (.pointer (some ⟨b,i,none⟩)),some (blk b cs T),some v)) (k:G m r n ((d,v)::l) (wpList P ops Q rest) w):G m r n l (wpList P ops Q (o::rest)) w:=gY (yL H q K h) k
theorem gKt (h:(gd ops l o.guard,o.dst,Nat.blt d n,o.op,ev l c,ev l x)=(true,some d,true,.pick c x y,some (.bool true),some v)) (k:G m r n ((d,v)::l) (wpList P ops Q rest) w):G m r n l (wpList P ops Q (o::rest)) w:=gY (yKt h) k
theorem gKf (h:(gd ops l o.guard,o.dst,Nat.blt d n,o.op,ev l c,ev l y)=(true,some d,true,.pick c x y,some (.bool false),some v)) (k:G m r n ((d,v)::l) (wpList P ops Q rest) w):G m r n l (wpList P ops Q (o::rest)) w:=gY (yKf h) k
theorem gI {b off len cap:Nat} (K:mO P t e s) (h0:0<=j) (hi:j.toNat<len) (h:(gd ops l o.guard,o.dst,Nat.blt d n,o.op,ev l x,ev l y)=(true,some d,true,.indexAddr t x y,some (.slice (some ⟨b,off,none⟩) len cap),some (.int k j))) (H:G m r n ((d,.pointer (some ⟨b,off+j.toNat*s,none⟩))::l) (wpList P ops Q rest) w):G m r n l (wpList P ops Q (o::rest)) w:=gY (yI K h0 hi h) H
theorem gP (H:-9223372036854775808<=i+j) (K:i+j<9223372036854775808) (h:(gd ops l o.guard,o.dst,Nat.blt d n,o.op,ev l x,ev l y)=(true,some d,true,.binOp .add t x y t',some (.int .i64 i),some (.int .i64 j))) (k:G m r n ((d,.int .i64 (i+j))::l) (wpList P ops Q rest) w):G m r n l (wpList P ops Q (o::rest)) w:=gY (yP H K h) k
theorem gf (h:(gd ops l o.guard,o.dst,Nat.blt d n)=(true,some d,true)) (M:∀ a,Fr n l a->Ef P a w o R) (k:∀ v w',R v w'->G m r n ((d,v)::l) (wpList P ops Q rest) w'):G m r n l (wpList P ops Q (o::rest)) w:=λK a H=>by
 obtain ⟨W,N,h3⟩:=t3 h;exact ad1 (aq2 H W) (M a H _ _ λv w' O=>k v w' O K _ (by rw [N];exact H.put h3))
theorem gf0 (h:(gd ops l o.guard,o.dst)=(true,none)) (M:∀ a,Fr n l a->Ef P a w o R) (k:∀ v w',R v w'->G m r n l (wpList P ops Q rest) w'):G m r n l (wpList P ops Q (o::rest)) w:=λK a H=>by
 obtain ⟨W,N⟩:=t2_ h;exact ad1 (aq2 H W) (M a H _ _ λv w' O=>k v w' O K _ (by rw [N];exact H.put_none))
theorem gBx {cs:List Value} (K:Mem w0 hz w L) (h:(gd ops l o.guard,o.dst,Nat.blt d n,o.op,ev l x,v.cells)=(true,some d,true,.box t x,some v,cs.toArray)) (k:∀ b w',Mem w0 hz w' (blk b cs t::L)->G m r n ((d,.pointer (some ⟨b,0,none⟩))::l) (wpList P ops Q rest) w'):G m r n l (wpList P ops Q (o::rest)) w:=by
 obtain ⟨h1,W,h3,h4,h5,N⟩:=t6 h;exact gf (d:=d) (by rw [h1,W,h3]) (λa M=>br4 M K h4 h5 N) λv w' ⟨b,O,H⟩=>by subst O;exact k b w' H
theorem gAl {z:Value} {cs:List Value} (M:Mem w0 hz w L) (K:∀ w,(zeroValue t).run P w=.ok z w) (h:(gd ops l o.guard,o.dst,Nat.blt d n,o.op,z.cells)=(true,some d,true,.alloc t,cs.toArray)) (k:∀ b w',Mem w0 hz w' (blk b cs t::L)->G m r n ((d,.pointer (some ⟨b,0,none⟩))::l) (wpList P ops Q rest) w'):G m r n l (wpList P ops Q (o::rest)) w:=by
 obtain ⟨h1,O,h3,W,h5⟩:=t5 h;exact gf (d:=d) (by rw [h1,O,h3]) (λa _=>mQ M K W h5) λv w' ⟨b,N,H⟩=>by subst N;exact k b w' H
theorem gS1 {b i:Nat} {cs:List Value} (O:Mem w0 hz w L) (q:Nat) (hs:∀ w,(sizeOf t).run P w=.ok 1 w) (h1:v.oneCell'=true) (h:(gd ops l o.guard,o.dst,o.op,ev l x,ev l y,L[q]?,Nat.blt i cs.length)=(true,none,.store t x y,some (.pointer (some ⟨b,i,none⟩)),some v,some (blk b cs T),true)) (k:∀ w',Mem w0 hz w' (L.set q (blk b (cs.set i v) T))->G m r n l (wpList P ops Q rest) w'):G m r n l (wpList P ops Q (o::rest)) w:=by
 obtain ⟨W,g2,g3,K,g5,N,g7⟩:=t7 h;exact gf0 (by rw [W,g2]) (λa M=>qm q M O N hs g3 K g5 h1 g7) λ_ w' H=>k w' H
theorem t8 {A B C D E F H I:Type} {a K:A} {b O:B} {c c':C} {d M:D} {e W:E} {f f':F} {h h':H} {i N:I} (q:(a,b,c,d,e,f,h,i)=(K,O,c',M,W,f',h',N)):a=K/\b=O/\c=c'/\d=M/\e=W/\f=f'/\h=h'/\i=N:=by cases q;exact ⟨rfl,rfl,rfl,rfl,rfl,rfl,rfl,rfl⟩
theorem gSN {b i:Nat} {cs vs cs':List Value} (O:Mem w0 hz w L) (q:Nat) (hs:∀ w,(sizeOf t).run P w=.ok vs.length w) (h1:∀ v∈vs,v.oneCell'=true) (h:(gd ops l o.guard,o.dst,o.op,ev l x,ev l y,L[q]?,Nat.ble (i+vs.length) cs.length,mM cs i vs)=(true,none,.store t x y,some (.pointer (some ⟨b,i,none⟩)),some (.agg vs.toArray),some (blk b cs T),true,cs')) (k:∀ w',Mem w0 hz w' (L.set q (blk b cs' T))->G m r n l (wpList P ops Q rest) w'):G m r n l (wpList P ops Q (o::rest)) w:=by
 obtain ⟨W,g2,g3,K,g5,N,g7,g8⟩:=t8 h;exact gf0 (by rw [W,g2]) (λa M=>rf q M O N hs g3 K g5 h1 g7 g8) λ_ w' H=>k w' H
theorem gC {f:FuncId} {N:List Operand} {vs:List Value} {K:Array TypeId} {M:Option β} {kk:β->Option ρ} {V:β->Value} (W:Mem w0 hz w L)
  (h:(gd ops l o.guard,o.dst,Nat.blt d n,o.op,evs l N)=(true,some d,true,.call { callee:=.value (.func f),args:=N.toArray,argTypes:=K },some vs)) (hc:∀ args w,(callFunc f args).run P w=.ok (.enter f args) w)
  (hC:k6 P f vs w M (λx v w'=>v=V x/\Below w.heap.size w w'))
  (k:∀ x,M=some x->∀ w',Mem w0 hz w' L->G (kk x) r n ((d,V x)::l) (wpList P ops Q rest) w'):G (Option.bind M kk) r n l (wpList P ops Q (o::rest)) w:=λH=>by
 obtain ⟨h1,h2,h3,h4,h5⟩:=t5 h;obtain ⟨x,O,H⟩:=bnd H;exact gf (m:=kk x) (d:=d) (by rw [h1,h2,h3]) (λa hf=>ki hf h4 hc h5 (hC x O)) (λv w' ⟨hv,hB⟩=>by subst hv;exact k x O w' (W.below' hB)) H
theorem gCg {f:FuncId} {N:List Operand} {vs:List Value} {K:Array TypeId} {M:Option β} {kk:β->Option ρ} {R:β->Value->World->Prop}
  (h:(gd ops l o.guard,o.dst,Nat.blt d n,o.op,evs l N)=(true,some d,true,.call { callee:=.value (.func f),args:=N.toArray,argTypes:=K },some vs)) (hc:∀ args w,(callFunc f args).run P w=.ok (.enter f args) w)
  (hC:k6 P f vs w M R)
  (k:∀ x,M=some x->∀ v w',R x v w'->G (kk x) r n ((d,v)::l) (wpList P ops Q rest) w'):G (Option.bind M kk) r n l (wpList P ops Q (o::rest)) w:=λH=>by
 obtain ⟨h1,h2,h3,h4,h5⟩:=t5 h;obtain ⟨x,O,H⟩:=bnd H;exact gf (m:=kk x) (d:=d) (by rw [h1,h2,h3]) (λa W=>ki W h4 hc h5 (hC x O)) (λv w' hR=>k x O v w' hR) H
end
section
variable {ρ β:Type} {m A B:Option ρ} {r:ρ} {n:Nat} {l:Env} {w:World} {φ:Act->World->Prop}
theorem gb {K:Option β} {kk:β->Option ρ} (k:∀ x,K=some x->G (kk x) r n l φ w):G (Option.bind K kk) r n l φ w:=λH a M=>by
 obtain ⟨x,N,H⟩:=bnd H;exact k x N H a M
theorem gg {α:Type} {xs:List α} {i:Int} {kk:α->Option ρ} (k:∀ x,0<=i->xs[i.toNat]?=some x->G (kk x) r n l φ w):G (Option.bind (jr xs i) kk) r n l φ w:=gb λx H=>k x (jz.1 H).1 (jz.1 H).2
theorem go (b:Bool) (q:Nat) (h:lk l q=some (.bool b)) {c:Bool} (hc:b=c) (k:G m r n ((q,.bool c)::l) φ w):G m r n l φ w:=λM a K=>by
 subst hc;refine k M a ⟨K.size,K.defers,λt v H=>?_⟩;simp only [lk] at H;by_cases e:Nat.beq q t=true
 ·rw [e] at H;simp only [cond_true,osI] at H;obtain rfl:=Nat.eq_of_beq_eq_true e;rw [<- H];exact K.get _ _ h
 ·rw [Bool.not_eq_true] at e;rw [e] at H;exact K.get t v H
theorem gs {b:Bool} (q:Nat) (h:lk l q=some (.bool b)) (t:b=true->G A r n ((q,.bool true)::l) φ w) (f:b=false->G B r n ((q,.bool false)::l) φ w):G (if b=true then A else B) r n l φ w:=by
 cases b with
 | true=>rw [if_pos rfl];exact go _ q h rfl (t rfl)
 | false=>rw [if_neg (by simp)];exact go _ q h rfl (f rfl)
theorem gsd {p:Prop} [Decidable p] (q:Nat) (h:lk l q=some (.bool (decide p))) (t:p->G A r n ((q,.bool true)::l) φ w) (f:¬ p->G B r n ((q,.bool false)::l) φ w):G (if decide p=true then A else B) r n l φ w :=
 Decidable.byCases (λhp:p=>by rw [if_pos (decide_eq_true hp)];exact go _ q h (decide_eq_true hp) (t hp)) (λhp=>by rw [if_neg (by simp [hp])];exact go _ q h (decide_eq_false hp) (f hp))
theorem gsn {b:Bool} (q:Nat) (h:lk l q=some (.bool (!b))) (t:b=false->G A r n ((q,.bool true)::l) φ w) (f:b=true->G B r n ((q,.bool false)::l) φ w):G (if (!b)=true then A else B) r n l φ w:=by
 cases b with
 | true=>rw [if_neg (by simp)];exact go _ q h rfl (f rfl)
 | false=>rw [if_pos (by simp)];exact go _ q h rfl (t rfl)
theorem gno:G (none:Option ρ) r n l φ w:=λh=>nomatch h
theorem gl {α:Type} {f:α->Option ρ} {g:β->Option ρ} {x:α} (k:G (f x) r n l φ w):G (Sum.elim f g (.inl x)) r n l φ w:=k
theorem gr {α:Type} {f:α->Option ρ} {g:β->Option ρ} {x:β} (k:G (g x) r n l φ w):G (Sum.elim f g (.inr x)) r n l φ w:=k
theorem gon {f:β->Option ρ} (k:G m r n l φ w):G (Option.elim none m f) r n l φ w:=k
theorem gos {f:β->Option ρ} {x:β} (k:G (f x) r n l φ w):G (Option.elim (some x) m f) r n l φ w:=k
theorem gEr {α γ:Type} {A:α->Option ρ} {B:γ->Option ρ} {c:α ⊕ γ} {p:γ} (H:Sum.elim A B c=some r) (k:G (B p) r n l φ w):G (some (.inr p)) c n l φ w:=λh=>by
 obtain rfl:=Option.some.inj h;exact k H
theorem gLr {α γ S:Type} {A:α->Option ρ} {B:γ->Option ρ} {x:α ⊕ γ} {c:S ⊕ γ} {p:γ} (H:∀ y,c=.inr y->x=.inr y) (K:Sum.elim A B x=some r) (k:G (B p) r n l φ w):G (some (.inr p)) c n l φ w:=λh=>by
 obtain rfl:=H _ (Option.some.inj h).symm;exact k K
theorem gLp {γ S:Type} {B:γ->Option ρ} {x:γ} {c:S ⊕ γ} {p:γ} (H:∀ y,c=.inr y->y=x) (K:B x=some r) (k:G (B p) r n l φ w):G (some (.inr p)) c n l φ w:=λh=>by
 obtain rfl:=H _ (Option.some.inj h).symm;exact k K
end
section
variable {ρ S E X:Type} {m:Option ρ} {r:ρ} {P:Program} {ops:Array Oper} {Q:Exit->Act->World->Prop} {n:Nat} {l:Env} {w w0:World} {hz:kR} {L:List Ch} {x y c:Code} {o:Operand} {id:Nat} {φ:Act->World->Prop}
theorem uu {K:Act->World->Prop}:∀ e a w,uc K Q e a w->Exit.then K Q e a w:=λe a w h=>by cases e<;>exact h
theorem gS (k:G m r n l (x.wk P (uc (y.wk P Q) Q)) w):G m r n l ((Code.seq x y).wk P Q) w:=λH a K=>ct2 (Code.wk_mono uu (k H a K))
theorem gR {os:List Oper} (k:G m r n l (wpList P os.toArray Q os) w):G m r n l ((Code.region id os.toArray false).wk P Q) w:=λH a K=>au3 (k H a K)
theorem gSk (k:G m r n l (Q .normal) w):G m r n l (Code.skip.wk P Q) w:=λH a K=>cp0 (k H a K)
theorem gXt (k:G m r n l (Q (.exit id)) w):G m r n l ((Code.exit id).wk P Q) w:=λH a K=>cn4 (k H a K)
theorem gRt (k:G m r n l (Q .ret) w):G m r n l (Code.ret.wk P Q) w:=λH a K=>cu3 (k H a K)
theorem gBk (k:G m r n l (c.wk P (ce3 id Q)) w):G m r n l ((Code.block id c).wk P Q) w:=λK a M=>ch3 (Code.wk_mono (λe a w h=>by
 cases e with
 | exit i =>
  simp only [ce3,Exit.inBlock] at h ⊢;cases H:Nat.beq i id with
  | true=>rw [H] at h;rw [if_pos (Nat.eq_of_beq_eq_true H)];exact h
  | false=>rw [H] at h;rw [if_neg (λe=>by subst e;simp at H)];exact h
 | _=>exact h) (k K a M))
theorem gHh {i:Nat} {ψ:Act->World->Prop} (k:G m r n l φ w):G m r n l (bif Nat.beq i i then φ else ψ) w:=by rw [show Nat.beq i i=true by simp];exact k
theorem gHm {i j:Nat} {ψ:Act->World->Prop} (h:Nat.beq i j=false) (k:G m r n l ψ w):G m r n l (bif Nat.beq i j then φ else ψ) w:=by rw [h];exact k
theorem gct (h:ev l o=some (.bool true)) (k:G m r n l (x.wk P Q) w):G m r n l ((Code.cond o x y).wk P Q) w:=λK a H=>ct8 H h rfl (k K a H)
theorem gcf (h:ev l o=some (.bool false)) (k:G m r n l (y.wk P Q) w):G m r n l ((Code.cond o x y).wk P Q) w:=λK a H=>cy3 H h rfl (k K a H)
theorem gJg {X:Option S} {kk:S->Option ρ} (I:S->Act->World->Prop) (O:∀ s,G X s n l (c.wk P (uc (Jn I s) Q)) w) (N:∀ s a w,I s a w->kk s=some r->Q .normal a w):G (Option.bind X kk) r n l (c.wk P Q) w:=λH a K=>by
 obtain ⟨s,hs,H⟩:=bnd H;exact bh5 (Jn I s) (Code.wk_mono uu (O s hs a K)) λa w M=>N s a w M H
theorem cq4 {X:Option (S ⊕ E)} {kk:S->Option ρ} {K:E->Option ρ} (I:S->Act->World->Prop) (W:∀ s,Sum.elim kk K s=some r->G X s n l (c.wk P (uc (λa w=>∃ z,s=.inl z/\Jn I z a w) Q)) w) (O:∀ s a w,I s a w->kk s=some r->Q .normal a w):G (Option.bind X (Sum.elim kk K)) r n l (c.wk P Q) w:=λH a M=>by
 obtain ⟨s,hs,H⟩:=bnd H;exact bh5 (λa w=>∃ z,s=.inl z/\Jn I z a w) (Code.wk_mono uu (W s H hs a M)) λa w ⟨z,hz,N⟩=>by subst hz;exact O z a w N H
theorem gJ {X:Option S} {kk:S->Option ρ} (O:Mem w0 hz w L) (l':S->Env) (L':S->List Ch) (N:∀ s,G X s n l (c.wk P (uc (Js n l' w0 hz L' s) Q)) w) (M:∀ s w,Mem w0 hz w (L' s)->G (kk s) r n (l' s) (Q .normal) w):G (Option.bind X kk) r n l (c.wk P Q) w :=
 gJg (λs=>St n (l' s) w0 hz (L' s)) N λs a w H K=>M s w H.2 K a H.1
theorem gJe {X:Option (S ⊕ E)} {kk:S->Option ρ} {H:E->Option ρ} (W:Mem w0 hz w L) (l':S->Env) (L':S->List Ch) (O:∀ s,Sum.elim kk H s=some r->G X s n l (c.wk P (uc (λa w=>∃ z,s=.inl z/\Js n l' w0 hz L' z a w) Q)) w) (N:∀ s w,Mem w0 hz w (L' s)->G (kk s) r n (l' s) (Q .normal) w):G (Option.bind X (Sum.elim kk H)) r n l (c.wk P Q) w :=
 cq4 (λs=>St n (l' s) w0 hz (L' s)) O λs a w K M=>N s w K.2 M a K.1
theorem gZ {I:S->Act->World->Prop} {y s:S} (h:∀ a,Fr n l a->I y a w):G (some y) s n l (Jn I s) w:=λH a K=>by
 obtain rfl:=Option.some.inj H;exact h a K
theorem gZe {I:S->Act->World->Prop} {y:S} {s:S ⊕ E} (h:∀ a,Fr n l a->I y a w):G (some (.inl y)) s n l (λa w=>∃ z,s=.inl z/\Jn I z a w) w:=λH a K=>by
 obtain rfl:=Option.some.inj H;exact ⟨_,rfl,h a K⟩
theorem Fr.sb {a:Act} {l':Env} (h:Fr n l a) (e:l'.map (λp=>lk l p.1)=l'.map (λp=>some p.2)):Fr n l' a:=by
 refine ⟨h.size,h.defers,λt v H=>h.get t v ?_⟩
 induction l' with
 | nil=>cases H
 | cons p q M =>
  simp only [List.map_cons,List.cons.injEq] at e;simp only [lk] at H;by_cases K:Nat.beq p.1 t=true
  ·rw [K] at H;simp only [cond_true,osI] at H;rw [<- Nat.eq_of_beq_eq_true K,<- H];exact e.1
  ·rw [Bool.not_eq_true] at K;rw [K] at H;exact M e.2 H
theorem gz {y s:S} {l':S->Env} {L':S->List Ch} (K:Mem w0 hz w L) (H:List Nat) (h:(decide H.Nodup,H.map (λj=>L[j]?),(l' y).map (λp=>lk l p.1))=(true,(L' y).map some,(l' y).map (λp=>some p.2))):G (some y) s n l (Js n l' w0 hz L' s) w :=
 gZ (I:=λs=>St n (l' s) w0 hz (L' s)) λa M=>⟨M.sb (t3 h).2.2,K.pk H (t3 h).1 (t3 h).2.1⟩
theorem gze {y:S} {s:S ⊕ E} {l':S->Env} {L':S->List Ch} (K:Mem w0 hz w L) (H:List Nat) (h:(decide H.Nodup,H.map (λj=>L[j]?),(l' y).map (λp=>lk l p.1))=(true,(L' y).map some,(l' y).map (λp=>some p.2))):G (some (.inl y)) s n l (λa w=>∃ z,s=.inl z/\Js n l' w0 hz L' z a w) w :=
 gZe (I:=λs=>St n (l' s) w0 hz (L' s)) λa M=>⟨M.sb (t3 h).2.2,K.pk H (t3 h).1 (t3 h).2.1⟩
theorem gNg {kk:S->Option ρ} {hd:X->Option ρ} {body:Int->S->Option (S ⊕ X)} {K H:Int} {s0:S} (I:Int->S->Act->World->Prop) (h0:∀ a,Fr n l a->I K s0 a w)
  (hr:∀ x,Sum.elim kk hd x=some r->∀ i s a w,I i s a w->K<=i->i<H->∀ q,(∀ y,q=.inr y->x=.inr y)->body i s=some q->c.wk P (uc (λa' w'=>∃ z,q=.inl z/\Jn (I (i+1)) z a' w') Q) a w)
  (he:∀ i s a w,I i s a w->K<=i->H<=i->kk s=some r->c.wk P (uc (λ_ _=>False) Q) a w):G (Option.bind (kO body (H - K).toNat K s0) (Sum.elim kk hd)) r n l ((Code.loop c).wk P Q) w:=λM a hf=>by
 obtain ⟨x,hx,M⟩:=bnd M;refine ai4 body I K H hx (h0 a hf) (λi s a w N W O q hb ho=>Code.wk_mono uu (hr x M i s a w N W O q ho hb)) (λi s a w N W O a0=>?_);subst a0;exact Code.wk_mono uu (he i s a w N W O M)
theorem gNf {kk:S->Option ρ} {hd:X->Option ρ} {body:Int->S->Option (S ⊕ X)} {H K:Int} {s0:S} (hm:Mem w0 hz w L) (l':Int->S->Env) (L':Int->S->List Ch) (O:List Nat) (h0:(decide O.Nodup,O.map (λj=>L[j]?),(l' H s0).map (λp=>lk l p.1))=(true,(L' H s0).map some,(l' H s0).map (λp=>some p.2)))
  (hr:∀ x,Sum.elim kk hd x=some r->∀ i s w,Mem w0 hz w (L' i s)->H<=i->i<K->∀ q,(∀ y,q=.inr y->x=.inr y)->G (body i s) q n (l' i s) (c.wk P (uc (λa w=>∃ z,q=.inl z/\Js n (l' (i+1)) w0 hz (L' (i+1)) z a w) Q)) w)
  (he:∀ i s w,Mem w0 hz w (L' i s)->H<=i->K<=i->G (kk s) r n (l' i s) (c.wk P (uc (λ_ _=>False) Q)) w):G (Option.bind (kO body (K - H).toNat H s0) (Sum.elim kk hd)) r n l ((Code.loop c).wk P Q) w :=
 gNg (λi s=>St n (l' i s) w0 hz (L' i s)) (λa hf=>⟨hf.sb (t3 h0).2.2,hm.pk O (t3 h0).1 (t3 h0).2.1⟩) (λx hq i s a w M W N q ho hb=>hr x hq i s w M.2 W N q ho hb a M.1) (λi s a w M W N hk=>he i s w M.2 W N hk a M.1)
theorem gMg {K:X->Option ρ} {body:S->Option (S ⊕ X)} {s0:S} (I:S->Act->World->Prop) (h0:∀ a,Fr n l a->I s0 a w)
  (hr:∀ x,K x=some r->∀ s a w,I s a w->∀ q,(∀ y,q=.inr y->y=x)->body s=some q->c.wk P (uc (λW w'=>∃ z,q=.inl z/\Jn I z W w') Q) a w):G (Option.bind (kx body s0) K) r n l ((Code.loop c).wk P Q) w:=λH a M=>by
 obtain ⟨x,hx,H⟩:=bnd H;exact cb2 body I hx (h0 a M) (λs a w q O hb N=>Code.wk_mono uu (hr x H s a w O q N hb))
theorem gMf {K:X->Option ρ} {body:S->Option (S ⊕ X)} {s0:S} (N:Mem w0 hz w L) (l':S->Env) (L':S->List Ch) (H:List Nat) (h0:(decide H.Nodup,H.map (λj=>L[j]?),(l' s0).map (λp=>lk l p.1))=(true,(L' s0).map some,(l' s0).map (λp=>some p.2)))
  (hr:∀ x,K x=some r->∀ s w,Mem w0 hz w (L' s)->∀ q,(∀ y,q=.inr y->y=x)->G (body s) q n (l' s) (c.wk P (uc (λa w=>∃ z,q=.inl z/\Js n l' w0 hz L' z a w) Q)) w):G (Option.bind (kx body s0) K) r n l ((Code.loop c).wk P Q) w :=
 gMg (λs=>St n (l' s) w0 hz (L' s)) (λa O=>⟨O.sb (t3 h0).2.2,N.pk H (t3 h0).1 (t3 h0).2.1⟩) (λx hq s a w M q W hb=>hr x hq s w M.2 q W hb a M.1)
end
def OpT (P:Program) (ops:Array Oper) (S:World->Prop) (ns:List Nat) (Q:Exit->Act->World->Prop) (i:Nat) (t:Ord) (a:Act) (w:World):Prop:=wpOp P ops Q i (λH w'=>(ns.contains i=true->S w')/\wpT P ops S ns Q t H w') a w
def AfT (P:Program) (ops:Array Oper) (S:World->Prop) (ns:List Nat) (Q:Exit->Act->World->Prop) (i:Nat) (t:Ord) (a:Act) (w:World):Prop:=(ns.contains i=true->S w)/\wpT P ops S ns Q t a w
section
variable {ρ Z E:Type} {m:Option ρ} {r:ρ} {P:Program} {ops:Array Oper} {S:World->Prop} {ns:List Nat} {Q:Exit->Act->World->Prop} {n:Nat} {l:Env} {w w0:World} {hz:kR} {L Ls:List Ch} {o:Oper} {d i:Nat} {v:Value} {R:Value->World->Prop} {X:List PanicEntry->World->Prop} {t more:Ord}
theorem tE (k:G m r n l (Q .normal) w):G m r n l (wpT P ops S ns Q .fin) w:=k
theorem tO (k:G m r n l (OpT P ops S ns Q i t) w):G m r n l (wpT P ops S ns Q (.e i t .nil)) w:=λH a K=>⟨k H a K,trivial⟩
theorem tMo (k:G m r n l (OpT P ops S ns Q i t) w) (M:G m r n l (wpT P ops S ns Q more) w):G m r n l (wpT P ops S ns Q (.e i t more)) w:=λH a K=>⟨k H a K,M H a K⟩
theorem tP (M:ops[i]?=some o) (h:∀ w,Yd P ops n l w o d v) (k:G m r n ((d,v)::l) (wpT P ops S ns Q t) w):G m r n l (wpT P ops S ns Q (.p i t)) w:=λK a H =>
 ⟨o,v,M,.inl ⟨aq2 H (h w).1.1,λw _=>(h w).2 n a H⟩,by rw [(h w).1.2.1];exact k K _ (H.put (h w).1.2.2)⟩
theorem tQ (N:ops[i]?=some o) (H:S w) (h:∀ w,S w->Yd P ops n l w o d v) (k:G m r n ((d,v)::l) (wpT P ops S ns Q t) w):G m r n l (wpT P ops S ns Q (.q i t)) w:=λO a K =>
 ⟨o,v,N,.inl ⟨aq2 K (h w H).1.1,λw M=>(h w M).2 n a K⟩,H,by rw [(h w H).1.2.1];exact k O _ (K.put (h w H).1.2.2)⟩
theorem tPo (M:ops[i]?=some o) (h:(gn ops l o.guard,o.dst,Nat.blt d n)=(true,some d,true)) (k:G m r n ((d,undef)::l) (wpT P ops S ns Q t) w):G m r n l (wpT P ops S ns Q (.p i t)) w:=λK a H =>
 ⟨o,undef,M,.inr ⟨bs2 H (t3 h).1,rfl⟩,by rw [(t3 h).2.1];exact k K _ (H.put (t3 h).2.2)⟩
theorem tQo (N:ops[i]?=some o) (M:S w) (h:(gn ops l o.guard,o.dst,Nat.blt d n)=(true,some d,true)) (k:G m r n ((d,undef)::l) (wpT P ops S ns Q t) w):G m r n l (wpT P ops S ns Q (.q i t)) w:=λK a H =>
 ⟨o,undef,N,.inr ⟨bs2 H (t3 h).1,rfl⟩,M,by rw [(t3 h).2.1];exact k K _ (H.put (t3 h).2.2)⟩
theorem tf (M:ops[i]?=some o) (h:(gd ops l o.guard,o.dst,Nat.blt d n)=(true,some d,true)) (N:∀ a,Fr n l a->Ef P a w o R) (k:∀ v w',R v w'->G m r n ((d,v)::l) (AfT P ops S ns Q i t) w'):G m r n l (OpT P ops S ns Q i t) w:=λK a H=>by
 obtain ⟨h1,O,h3⟩:=t3 h;exact bt1 M (aq2 H h1) (N a H _ _ λv w' W=>k v w' W K _ (by rw [O];exact H.put h3))
theorem tf0 (M:ops[i]?=some o) (h:(gd ops l o.guard,o.dst)=(true,none)) (N:∀ a,Fr n l a->Ef P a w o R) (k:∀ v w',R v w'->G m r n l (AfT P ops S ns Q i t) w'):G m r n l (OpT P ops S ns Q i t) w:=λK a H=>by
 obtain ⟨h1,O⟩:=t2_ h;exact bt1 M (aq2 H h1) (N a H _ _ λv w' W=>k v w' W K _ (by rw [O];exact H.put_none))
theorem tY (N:ops[i]?=some o) (h:Yd P ops n l w o d v) (k:G m r n ((d,v)::l) (AfT P ops S ns Q i t) w):G m r n l (OpT P ops S ns Q i t) w :=
 tf (d:=d) N (by rw [h.1.1,h.1.2.1,h.1.2.2]) (λa K=>da1 K h.2) λu w' ⟨M,H⟩=>by subst M;subst H;exact k
theorem tEo (K:ops[i]?=some o) (h:(gn ops l o.guard,o.dst,Nat.blt d n)=(true,some d,true)) (k:G m r n ((d,undef)::l) (AfT P ops S ns Q i t) w):G m r n l (OpT P ops S ns Q i t) w:=λM a H=>by
 obtain ⟨O,N,W⟩:=t3 h;unfold OpT wpOp;rw [K];show if Region.wanted o (yielded ops a.tmps)=true then _ else _
 rw [if_neg (by rw [bs2 H O];simp),N];exact k M _ (H.put W)
theorem tAn (h:ns.contains i=false) (k:G m r n l (wpT P ops S ns Q t) w):G m r n l (AfT P ops S ns Q i t) w:=λH a K=>⟨λh'=>(by rw [h] at h';cases h'),k H a K⟩
theorem tAs (M:S w) (k:G m r n l (wpT P ops S ns Q t) w):G m r n l (AfT P ops S ns Q i t) w:=λH a K=>⟨λ_=>M,k H a K⟩
theorem tAk (K:Mem w0 hz w L) (H:List Nat) (h:(decide H.Nodup,H.map (λj=>L[j]?))=(true,Ls.map some)) (k:Mem w0 hz w Ls->G m r n l (wpT P ops (λw=>Mem w0 hz w Ls) ns Q t) w):G m r n l (AfT P ops (λw=>Mem w0 hz w Ls) ns Q i t) w :=
 tAs (S:=λw=>Mem w0 hz w Ls) (K.pk H (t2_ h).1 (t2_ h).2) (k (K.pk H (t2_ h).1 (t2_ h).2))
theorem gW {id:Nat} (t:Ord) (ns ps:List Nat) (K:Mem w0 hz w L) (H:List Nat) (Ls:List Ch) (h:(decide H.Nodup,H.map (λj=>L[j]?))=(true,Ls.map some)) (hx:P.follows .mixedOrders=true) (O:bq0 ops ns ps t=true) (W:∀ c a w,¬ Q (.panic c) a w)
  (k:∀ w,Mem w0 hz w L->Mem w0 hz w Ls->G m r n l (wpT P ops (λw=>Mem w0 hz w Ls) ns Q t) w):G m r n l ((Code.region id ops true).wk P Q) w:=λN a M =>
 cm7 t ns ps (λw=>Mem w0 hz w Ls) hx O W (k _ K.drew (K.drew.pk H (t2_ h).1 (t2_ h).2) N a M)
theorem tSh {H:Ord} (T:Ord) (K:Act->World->Prop) (N:∀ a w,K a w->m=some r->wpT P ops S ns Q T a w) (M:(∀ a w,K a w->m=some r->wpT P ops S ns Q T a w)->G m r n l (wpT P ops S ns Q H) w):G m r n l (wpT P ops S ns Q H) w:=M N
theorem mG {T:Ord} {K:Act->World->Prop} (N:∀ a w,K a w->m=some r->wpT P ops S ns Q T a w) (h:∀ a,Fr n l a->K a w):G m r n l (wpT P ops S ns Q T) w:=λH a M=>N a w (h a M) H
theorem tSv {T:Ord} {a:Act} (N:Fr n l a) (M:Mem w0 hz w L) (H:List Nat) (h:(decide H.Nodup,H.map (λj=>L[j]?))=(true,Ls.map some)) (k:Mem w0 hz w Ls->G m r n l (wpT P ops (λw=>Mem w0 hz w Ls) ns Q T) w):m=some r->wpT P ops (λw=>Mem w0 hz w Ls) ns Q T a w:=λK=>k (M.pk H (t2_ h).1 (t2_ h).2) K a N
end
section
variable {w0 w:World} {hz:kR} {L:List Ch}
theorem Mem.er (N:Mem w0 hz w L) (k:Nat):Mem w0 hz w (L.eraseIdx k):=by
 obtain ⟨hs,H,O,K,M,W⟩:=N;refine ⟨hs,H,λi=>O (if i<k then i else i+1),λi c hi=>?_,λi j b _=>M _ _ b (by split<;>split<;>omega),λi b=>W _ b⟩;rw [List.getElem?_eraseIdx] at hi;split at hi
 ·rename_i h;simp only [h,if_true];exact K _ _ hi
 ·rename_i h;simp only [h,if_false];exact K _ _ hi
theorem Mem.mk1 {M c':Ch} (N:Mem w0 hz w L) (K:Nat) (h:L[K]?=some M) (H:∀ F h,M.pr F h->c'.pr F h):Mem w0 hz w (L.set K c'):=N.imp K h λF=>H F _
theorem Mem.mk3 {c1 c2 c3 c':Ch} (hm:Mem w0 hz w L) (W M j3:Nat) (h:(decide [W,M,j3].Nodup,L[W]?,L[M]?,L[j3]?)=(true,some c1,some c2,some c3))
  (H:∀ F1 N O h,c1.pr F1 h->c2.pr N h->c3.pr O h->(∀ b,F1 b->¬ N b)->(∀ b,F1 b->¬ O b)->(∀ b,N b->¬ O b)->c'.pr (λb=>F1 b\/N b\/O b) h):Mem w0 hz w ((((L.set M (Go.Wk.both c2 c3)).set j3 bg6).set W c').set M bg6):=by
 obtain ⟨h0,h1,h2,h3⟩:=t4 h;have h0:=of_decide_eq_true h0;simp only [List.nodup_cons,List.mem_cons,List.mem_singleton,List.not_mem_nil,not_false_eq_true,List.nodup_nil,and_true,not_or,or_false] at h0;obtain ⟨⟨a1,a2⟩,a3⟩:=h0;have a0:M<L.length:=(lgE.1 h2).1;have K:=hm.both M j3 a3 h2 h3
 refine Mem.merge (c':=c') K W M a1 (c:=c1) (d:=Go.Wk.both c2 c3) ?_ ?_ λF G p1 ⟨N,O,g1,g2,g3,p2,p3⟩ hd=>c'.mono _ _ _ (H F N O _ p1 p2 p3 (λb K h=>hd b K (g1 b h)) (λb K h=>hd b K (g2 b h)) g3) λb K=>by
  rcases K with K | K | K
  ·exact .inl K
  ·exact .inr (g1 b K)
  ·exact .inr (g2 b K)
 ·rw [List.getElem?_set_ne (Ne.symm a2),List.getElem?_set_ne (Ne.symm a1)];exact h1
 ·rw [List.getElem?_set_ne (Ne.symm a3),List.getElem?_set_self a0]
end
def ix:Nat->List Value->Env
 | _,[]=>[]
 | i,v::r=>(i,v)::ix (i+1) r
theorem cg7:∀ {k:Nat} {args:List Value} {t:Nat} {v:Value},lk (ix k args) t=some v->∃ j,t=k+j/\args[j]?=some v
 | k,[],t,v,h=>by cases h
 | k,u::r,t,v,h=>by
  simp only [ix,lk] at h;by_cases e:Nat.beq k t=true
  ·rw [e] at h;simp only [cond_true,osI] at h;exact ⟨0,(Nat.eq_of_beq_eq_true e).symm,by simpa using h⟩
  ·rw [Bool.not_eq_true] at e;rw [e] at h;obtain ⟨j,_,H⟩:=cg7 (k:=k+1) (args:=r) h;exact ⟨j+1,by omega,by simpa using H⟩
section
variable {ρ:Type} {m:Option ρ} {r pay:ρ} {P:Program} {n:Nat} {l:Env} {w w0:World} {hz:kR} {L:List Ch} {c:Code} {fn:Func} {f:FuncId} {args:List Value} {v v1 v2 v3 v4:Value} {t u1 u2 u3 u4:Nat}
variable {R:ρ->Value->World->Prop} {X:ρ->List PanicEntry->World->Prop}
theorem bg7 (H:P.funcs[f]?=some fn) (h:(fn.body,fn.ntmps,Nat.ble args.length n)=(some c,n,true)) (K:m=some r) (k:G m r n (ix 0 args) (c.wk P (bodyPost P fn (Rt (Jr R r)))) w):Con P f args w (R r) :=
 ca8 H (t3 h).1 (t3 h).2.1 (λt v W=>by obtain ⟨j,O,N⟩:=cg7 W;rw [O,Nat.zero_add];exact N) (t3 h).2.2 λa M=>k K a M
theorem k7 (H:P.funcs[f]?=some fn) (h:(fn.body,fn.ntmps,Nat.ble args.length n)=(some c,n,true)) (k:∀ r,G m r n (ix 0 args) (c.wk P (bodyPost P fn (Rt (Jr R r)))) w):k6 P f args w m R:=λr K=>bg7 (R:=R) H h K (k r)
theorem gre (M:fn.results=#[]) (h:R pay (.tuple #[]) w):G (some pay) r n l (bodyPost P fn (Rt (Jr R r)) .normal) w:=λH a K=>by
 obtain rfl:=Option.some.inj H;exact co1 K M h
theorem gr1 (N:fn.results=#[.tmp t]) (M:lk l t=some v) (h:R pay v w):G (some pay) r n l (bodyPost P fn (Rt (Jr R r)) .ret) w:=λH a K=>by
 obtain rfl:=Option.some.inj H;exact cp7 K N M h
theorem gr2 (N:fn.results=#[.tmp u1,.tmp u2]) (H:(lk l u1,lk l u2)=(some v1,some v2)) (h:R pay (.tuple #[v1,v2]) w):G (some pay) r n l (bodyPost P fn (Rt (Jr R r)) .ret) w:=λK a M=>by
 obtain rfl:=Option.some.inj K;exact cf8 M N (t2_ H).1 (t2_ H).2 h
theorem grc {b T ty:Nat} {cs:List Value} (k:Nat) (O:fn.results=#[.cell t ty]) (K:Mem w0 hz w L) (H:(L[k]?,lk l t)=(some (blk b cs T),some (.pointer (some ⟨b,0,none⟩)))) (W:∀ w,(isAgg ty).run P w=.ok true w) (hs:∀ w,(sizeOf ty).run P w=.ok cs.length w) (h:R pay (.agg cs.toArray) w):G (some pay) r n l (bodyPost P fn (Rt (Jr R r)) .ret) w:=λN a M=>by
 obtain rfl:=Option.some.inj N;exact cd7 k M O K (t2_ H).1 (t2_ H).2 W hs h
theorem au6 {b T ty:Nat} {cs:List Value} (k:Nat) (O:fn.results=#[.cell t ty,.tmp u2]) (K:Mem w0 hz w L) (H:(L[k]?,lk l t,lk l u2)=(some (blk b cs T),some (.pointer (some ⟨b,0,none⟩)),some v2)) (W:∀ w,(isAgg ty).run P w=.ok true w) (hs:∀ w,(sizeOf ty).run P w=.ok cs.length w) (h:R pay (.tuple #[.agg cs.toArray,v2]) w):G (some pay) r n l (bodyPost P fn (Rt (Jr R r)) .ret) w:=λN a M=>by
 obtain rfl:=Option.some.inj N;exact bb8 k M O K (t3 H).1 (t3 H).2.1 W hs (t3 H).2.2 h
theorem gcg {m':Option ρ} {φ:Act->World->Prop} (h:m=m') (k:G m' r n l φ w):G m r n l φ w:=by rw [h];exact k
end
end Go.Wk
namespace Go.Wk
open Go
section
variable {α S X:Type}
def oA (g:Int->α->S->Option (S ⊕ X)):List α->Int->S->Option (S ⊕ X)
 | [],_,s=>some (.inl s)
 | x::r,i,s=>match g i x s with
  | none=>none
  | some (.inl s')=>oA g r (i+1) s'
  | some (.inr y)=>some (.inr y)
theorem ae7 {body:Int->S->Option (S ⊕ X)} (g:Int->α->S->Option (S ⊕ X)) {xs:List α}:∀ (r l:List α) (s:S),xs=l++r ->
  (∀ (l:List α) x r s,xs=l++x::r->body (l.length:Int) s=g (l.length:Int) x s)->kO body r.length (l.length:Int) s=oA g r (l.length:Int) s
 | [],l,s,_,_=>rfl
 | x::r,l,s,h,hb=>by
  have K:=hb l x r s h;simp only [List.length_cons,kO,oA,K];cases M:g (l.length:Int) x s with
  | none=>rfl
  | some q =>
   cases q with
   | inr y=>rfl
   | inl H =>
    have:=ae7 g r (l++[x]) H (by rw [h];simp) hb;simpa using this
theorem pG {body:Int->S->Option (S ⊕ X)} (g:Int->α->S->Option (S ⊕ X)) {xs:List α} {s:S}
  (H:∀ (l:List α) x r s,xs=l++x::r->body (l.length:Int) s=g (l.length:Int) x s):kO body ((xs.length:Int) - 0).toNat 0 s=oA g xs 0 s:=by
 have:=ae7 (body:=body) g xs [] s rfl H;rw [show ((xs.length:Int) - 0).toNat=xs.length by omega];exact this
theorem x7 {xs:List α} {s:S} (g:Int->α->S->Option (S ⊕ X)):kO (λi s=>Option.bind (jr xs i) λx=>g i x s) ((xs.length:Int) - 0).toNat 0 s=oA g xs 0 s :=
 pG g λl x r s h=>by rw [h,kK];rfl
def py (p:Int->α->Bool):List α->Int->Bool
 | [],_=>true
 | x::r,i=>p i x&&py p r (i+1)
theorem yq {p:α->Bool}:∀ (xs:List α) (i:Int),py (λ_ x=>p x) xs i=xs.all p
 | [],_=>rfl
 | x::r,i=>by simp [py,yq r]
theorem zD {p:Int->α->Bool}:∀ {xs:List α} {i:Int},py p xs i=true->∀ (j:Nat) (x:α),xs[j]?=some x->p (i+j) x=true
 | [],_,_,j,x,h=>by simp at h
 | y::r,i,h,j,x,hj=>by
  simp only [py,Bool.and_eq_true] at h;cases j with
  | zero=>simp at hj;subst hj;simpa using h.1
  | succ j =>
   have:=zD h.2 j x (by simpa using hj)
   rwa [show i+1+(j:Int)=i+((j+1:Nat):Int) by omega] at this
theorem aa6 (p : Int -> α -> Bool) (e : X) {g : Int -> α -> Unit -> Option (Unit ⊕ X)} {xs : List α} : ∀ {i : Int}, (∀ (j : Nat) (x : α), xs[j]? = some x -> g (i + j) x () = if p (i + j) x then some (.inl ()) else some (.inr e)) ->
  oA g xs i ()=if py p xs i then some (.inl ()) else some (.inr e):=by
 induction xs with
 | nil=>intro i _;rfl
 | cons x r K =>
  intro i h;have h0:=h 0 x rfl;simp only [Int.ofNat_zero,Int.add_zero] at h0;have H:g i x ()=if p i x then some (.inl ()) else some (.inr e):=by simpa using h0
  simp only [oA,H,py];by_cases hp:p i x=true
  rotate_left
  ·rw [Bool.not_eq_true] at hp;simp [hp]
  ·simp only [hp,if_true,Bool.true_and];refine K λj y M=>?_
   have:=h (j+1) y (by simpa using M)
   rwa [show i+((j+1:Nat):Int)=i+1+(j:Int) by omega] at this
end
def inB (n lo hi:Int):Bool:=decide (lo<=n)&&decide (n<=hi)
theorem lO {n lo hi:Int}:inB n lo hi=true↔lo<=n/\n<=hi:=by simp [inB]
section
variable {α:Type}
theorem cs3 (f : α -> Int -> Option Int) (n : α -> Nat) {xs : List α} : ∀ {i s : Int}, (∀ x ∈ xs, ∀ l : Int, 0 <= l -> l <= 1048576 -> f x l = some (if (n x : Int) <= l then l - n x else -1)) -> 0 <= s -> s <= 1048576 ->
  oA (λ(_:Int) x (s:Int)=>Option.bind (f x s) λr=>if decide (r<0) then some (.inr (-1)) else some (.inl r)) xs i s=if (lD n xs:Int)<=s then some (.inl (s - lD n xs)) else some (.inr (-1:Int)):=by
 induction xs with
 | nil=>intro i s _ h0 _;simp [oA,lD,h0]
 | cons x r M =>
  intro i s h h0 O;have W:=h x (by simp) s h0 O;have H:lD n (x::r)=n x+lD n r:=rfl;simp only [oA,W,obS];by_cases q:(n x:Int)<=s
  ·simp only [q,if_true];have:¬ (s - (n x:Int)<0):=by omega
   simp only [this,decide_false,Bool.false_eq_true,if_false];rw [M (λy N=>h y (by simp [N])) (by omega) (by omega)];by_cases K:(lD n r:Int)<=s - n x
   ·rw [if_pos K, if_pos (by omega)]
    congr 2
    omega
   ·rw [if_neg K,if_neg (by omega)]
  ·simp only [q,if_false];rw [if_pos (by decide)];rw [if_neg (by omega)]
theorem az6 (f : α -> Int -> Option Int) (n : α -> Nat) {xs : List α} {left : Int} {body : Int -> Int -> Option (Int ⊕ Int)} (O : xs.length <= 140737488355328) (M : ∀ x ∈ xs, ∀ l : Int, 0 <= l -> l <= 1048576 -> f x l = some (if (n x : Int) <= l then l - n x else -1)) (h0 : 0 <= left) (W : left <= 1048576)
  (N:∀ (l:List α) x r s,xs=l++x::r->body (l.length:Int) s=Option.bind (f x s) λr=>if decide (r<0) then some (.inr (-1)) else some (.inl r)) :
  (if decide (w64 (left - (xs.length:Int))<0) then some (-1) else Option.bind (kO body ((xs.length:Int) - 0).toNat 0 (w64 (left - (xs.length:Int)))) (Sum.elim (λx=>some x) (λK=>some K)))=some (if ((xs.length+lD n xs:Nat):Int)<=left then left - ((xs.length+lD n xs:Nat):Int) else -1):=by
 rw [kv (by omega) (by omega)];by_cases q:left - (xs.length:Int)<0
 ·simp only [q,decide_true,if_true];rw [if_neg (by omega)]
 ·simp only [q,decide_false,Bool.false_eq_true,if_false];rw [pG (λ(_:Int) x (s:Int)=>Option.bind (f x s) λr=>if decide (r<0) then some (.inr (-1)) else some (.inl r)) N,cs3 f n M (by omega) (by omega)];by_cases H:(lD n xs:Int)<=left - xs.length
  ·rw [if_pos H, if_pos (by omega)];simp only [obS,Sum.elim_inl]
   congr 1
   omega
  ·rw [if_neg H,if_neg (by omega)];rfl
theorem toList (f:α->Option α) {z:α} {xs:List α} {body:Int->List α->Option (List α ⊕ Empty)} (O:xs.length<=2147483648) (K:∀ x∈xs,f x=some x)
  (N:∀ (l:List α) x r s,xs=l++x::r->body (l.length:Int) s=Option.bind (f x) λM=>Option.bind (jr s (l.length:Int)) λ_=>some (.inl (s.set ((l.length:Int)).toNat M))) :
  Option.bind (oJ z (xs.length:Int)) (λys=>Option.bind (kO body ((xs.length:Int) - 0).toNat 0 ys) (Sum.elim (λx=>some x) (λ(H:Empty)=>nomatch H)))=some xs:=by
 rw [nW (by omega) (by omega),obS,Int.toNat_natCast]
 have:=cj9 (xs:=xs) (X:=Empty) (z:=z) (body:=body) id (λl x r ys h _=>by
  rw [N l x r ys h,K x (by rw [h];simp),obS,az7 (by omega) (by omega)]
  rfl)
 rw [this];simp
theorem ao1 [DecidableEq α] (f:α->α->Option Bool) {xs ys:List α} {body:Int->Unit->Option (Unit ⊕ Bool)} (O:∀ x∈xs,∀ y∈ys,f x y=some (decide (x=y)))
  (hb:∀ (l:List α) x r l' y M s,xs=l++x::r->ys=l'++y::M->l.length=l'.length->body (l.length:Int) s=Option.bind (f x y) λW=>if !W then some (.inr false) else some (.inl ())) :
  (if decide ((xs.length:Int)≠(ys.length:Int)) then some false else Option.bind (kO body ((xs.length:Int) - 0).toNat 0 ()) (Sum.elim (λ_=>some true) (λN=>some N)))=some (decide (xs=ys)):=by
 by_cases q:xs.length=ys.length
 ·have : ¬ (xs.length : Int) ≠ (ys.length : Int) := by omega
  simp only [this,decide_false,Bool.false_eq_true,if_false]
  rw [cb3 (ys:=ys) false q (λl x r l' y M K H h3=>by
   rw [hb l x r l' y M () K H h3,O x (by rw [K];simp) y (by rw [H];simp)]
   by_cases e:x=y<;>simp [e])]
  by_cases e:xs=ys<;>simp [e]
 ·have K : (xs.length : Int) ≠ (ys.length : Int) := by omega
  have H:¬ xs=ys:=λh=>q (by rw [h])
  simp [K,H]
end
end Go.Wk
