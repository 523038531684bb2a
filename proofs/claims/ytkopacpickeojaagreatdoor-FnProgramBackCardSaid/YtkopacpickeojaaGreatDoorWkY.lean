/- A part of a proof: general laws of walks, no statement of the seat. -/
import Derived.Test.YtkopacpickeojaaGreatDoorWkS
import Derived.Defers
import Derived.Recover
import Derived.Test.YtkopacpickeojaaGreatDoorWkN
namespace Go.Wk
open Go Go.RowKit
theorem bm9.mono {P:Program} {f:FuncId} {args:List Value} {w:World} {R R':Value→World→Prop} {X X':List PanicEntry→World→Prop} (h:bm9 P f args w R X) (hR:∀ v w',R v w'→R' v w') (hX:∀ c w',X c w'→X' c w'):bm9 P f args w R' X' :=
 Calls.mono h λe w' he=>by
  cases e with
  | returned u=>exact hR u w' he
  | panicked c=>exact hX c w' he
  | outgrown=>exact he.elim
def cd3 {M:Type} (r:M ⊕ (Int × M)):Int × M:=Sum.elim (λq=>(0,q)) id r
end Go.Wk
namespace Go.Wk
open Go Go.RowKit
section
variable {w0 w:World} {hz:kX} {L:List Ch}
theorem Mem.split {c c1 c2:Ch} (hm:Mem w0 hz w L) (k:Nat) (hk:L[k]?=some c)
  (H:∀ F,c.pr F (hp w)→∃ R G:Nat→Prop,(∀ b,R b→F b)∧(∀ b,G b→F b)∧(∀ b,R b→¬ G b)∧c1.pr R (hp w)∧c2.pr G (hp w)):Mem w0 hz w (c2::L.set k c1):=by
 obtain ⟨hs,hlez,Fs,f1,f2,f3⟩:=hm
 obtain ⟨R,G,r1,r2,r3,r4,r5⟩:=H _ (f1 k _ hk)
 refine ⟨hs,hlez,λi b=>match i with | 0=>G b | i+1=>if i=k then R b else Fs i b,?_,?_,?_⟩
 ·intro i d hi
  cases i with
  | zero=>simp at hi;subst hi;exact r5
  | succ i =>
   simp only [List.getElem?_cons_succ] at hi
   by_cases e:i=k
   ·subst e
    have hl:i<L.length:=(lgE.1 hk).1
    rw [List.getElem?_set_self hl] at hi
    simp only [osI] at hi
    subst hi
    simp only [if_true]
    exact r4
   ·rw [List.getElem?_set_ne (Ne.symm e)] at hi
    simp only [e,if_false]
    exact f1 i d hi
 ·intro i j b hij hi hj
  cases i with
  | zero =>
   cases j with
   | zero=>exact hij rfl
   | succ j =>
    simp only at hi hj
    split at hj
    ·exact r3 b hj hi
    ·rename_i e;exact f2 k j b (Ne.symm e) (r2 b hi) hj
  | succ i =>
   cases j with
   | zero =>
    simp only at hi hj
    split at hi
    ·exact r3 b hi hj
    ·rename_i e;exact f2 k i b (Ne.symm e) (r2 b hj) hi
   | succ j =>
    simp only at hi hj
    split at hi<;>split at hj
    ·rename_i e1 e2;exact hij (by rw [e1,e2])
    ·rename_i e1 e2;exact f2 k j b (Ne.symm e2) (r1 b hi) hj
    ·rename_i e1 e2;exact f2 k i b (Ne.symm e1) (r1 b hj) hi
    ·exact f2 i j b (by omega) hi hj
 ·intro i b hi
  cases i with
  | zero=>exact f3 k b (r2 b hi)
  | succ i =>
   simp only at hi
   split at hi
   ·exact f3 k b (r1 b hi)
   ·exact f3 i b hi
end
section
variable {α:Type} [GT α]
def cg5 (b off len cap:Nat) (xs:List α) (i:Nat) (ecs:List Value):Ch where
 pr R h:=∃ C T,∃ fps:Nat→Nat→Prop,h b=some (.cells C T (0,0))∧R b∧xs.length=len∧len≤cap∧(cap≤maxLen∧len≤140737488355328)∧off+cap*GT.sz α≤C.size ∧
  (∀ j c,fps j c→R c∧c≠b)∧(∀ j k c,j≠k→fps j c→¬ fps k c)∧(∀ (j:Nat) (x:α),j≠i→xs[j]?=some x→GT.own (fps j) h (seg C (off+j*GT.sz α) (GT.sz α)) x)∧i<xs.length∧seg C (off+i*GT.sz α) (GT.sz α)=ecs
 loc R h h2 hp hh:=by
  obtain ⟨C,T,fps,e1,e2,e3,e4,e5,e6,e7,e8,e9,e10,e11⟩:=hp
  exact ⟨C,T,fps,(hh b e2).trans e1,e2,e3,e4,e5,e6,e7,e8,λj x hj hx=>GT.own_loc (e9 j x hj hx) λc hc=>hh c (e7 j c hc).1,e10,e11⟩
 mono R R' h hp hR:=by
  obtain ⟨C,T,fps,e1,e2,e3,e4,e5,e6,e7,e8,e9,e10,e11⟩:=hp
  exact ⟨C,T,fps,e1,hR b e2,e3,e4,e5,e6,λj c hc=>⟨hR c (e7 j c hc).1,(e7 j c hc).2⟩,e8,e9,e10,e11⟩
variable {w0 w:World} {hz:kX} {L:List Ch} {b off len cap i:Nat} {xs:List α} {x:α} {ecs:List Value}
end
section
variable {n:Nat} {l:Env} {a:Act} {P:Program} {w:World} {o:Oper} {v:Value}
theorem ca5 (hf:Fr n l a) (hy:Yl P l w o v):Ef P a w o (λu w'=>v=u∧w'=w) :=
 pw (hy n a hf) ⟨rfl,rfl⟩
end
theorem sl3 {p p':Option Addr} {n n' c c':Nat} (h:Value.slice p n c=Value.slice p' n' c'):p=p'∧n=n'∧c=c':=by cases h;exact ⟨rfl,rfl,rfl⟩
abbrev pV (b:Nat):Value:=.pointer (some ⟨b,0,none⟩)
abbrev sV (b o n c:Nat):Value:=.slice (some ⟨b,o,none⟩) n c
abbrev nV (n:Int):Value:=.int .i64 n
abbrev q16 (e:List Int) (r:List Value):List Value:=.int .i64 (e.getD 0 0)::.int .i64 (e.getD 1 0)::.int .i64 (e.getD 2 0)::.int .i64 (e.getD 3 0)::.int .i64 (e.getD 4 0)::.int .i64 (e.getD 5 0)::.int .i64 (e.getD 6 0)::.int .i64 (e.getD 7 0)::.int .i64 (e.getD 8 0)::.int .i64 (e.getD 9 0)::.int .i64 (e.getD 10 0)::.int .i64 (e.getD 11 0)::.int .i64 (e.getD 12 0)::.int .i64 (e.getD 13 0)::.int .i64 (e.getD 14 0)::.int .i64 (e.getD 15 0)::r
def Ord.sub (u:Ord):Ord→Ord
 | .fin=>u
 | .q i t=>.q i (Ord.sub u t)
 | .p i t=>.p i (Ord.sub u t)
 | .e i t m=>.e i (Ord.sub u t) (Ord.sub u m)
 | .nil=>.nil
section
variable {P:Program} {ops:Array Oper} {S:World→Prop} {ns:List Nat} {Q Q':Exit→Act→World→Prop}
end
def pl (o:Oper) (n:Nat):Option Nat:=match o.guard,o.dst with
 | none,some d=>bif Nat.blt d n then some d else none
 | _,_=>none
def pt (ops:Array Oper) (n i:Nat):Option (Oper × Nat):=match ops[i]? with
 | some o=>match pl o n with
  | some d=>some (o,d)
  | none=>none
 | none=>none
section
variable {P:Program} {ops:Array Oper} {Q:Exit→Act→World→Prop} {a:Act} {w:World} {o:Oper} {n:Nat} {l:Env} {d i:Nat} {v:Value} {R:Value→World→Prop} {rest:List Oper}
variable {S:World→Prop} {ns:List Nat} {t:Ord}
end
theorem Mem.pk {w0 w:World} {hz:kX} {L L':List Ch} (hm:Mem w0 hz w L) (js:List Nat) (hn:decide js.Nodup=true) (hL:js.map (λj=>L[j]?)=L'.map some):Mem w0 hz w L':=hm.pick js (of_decide_eq_true hn) hL
end Go.Wk
namespace Go.Wk
open Go Go.RowKit
def G {ρ:Type} (m:Option ρ) (r:ρ) (n:Nat) (l:Env) (φ:Act→World→Prop) (w:World):Prop :=
 m=some r→∀ a,Fr n l a→φ a w
abbrev xB (next:Act→World→Prop) (Q:Exit→Act→World→Prop) (e:Exit):Act→World→Prop:=match e with
 | .normal=>next
 | e=>Q e
abbrev bs8 (id:Nat) (Q:Exit→Act→World→Prop) (e:Exit):Act→World→Prop:=match e with
 | .exit i=>bif Nat.beq i id then Q .normal else Q (.exit i)
 | e=>Q e
abbrev St (n:Nat) (l:Env) (w0:World) (hz:kX) (L:List Ch) (a:Act) (w:World):Prop:=Fr n l a∧Mem w0 hz w L
def Jn {S:Type} (I:S→Act→World→Prop) (s:S) (a:Act) (w:World):Prop:=I s a w
def Js {S:Type} (n:Nat) (l':S→Env) (w0:World) (hz:kX) (L':S→List Ch) (s:S) (a:Act) (w:World):Prop:=St n (l' s) w0 hz (L' s) a w
abbrev mE {ρ:Type} (P:Program) (f:FuncId) (args:List Value) (w:World) (m:Option ρ) (R:ρ→Value→World→Prop):Prop:=∀ r,m=some r→Con P f args w (R r)
abbrev cf6 {ρ:Type} (P:Program) (f:FuncId) (args:List Value) (w:World) (m:Option ρ) (R:ρ→Value→World→Prop) (X:ρ→List PanicEntry→World→Prop):Prop:=∀ r,m=some r→bm9 P f args w (R r) (X r)
def Jr {ρ:Type} (R:ρ→Value→World→Prop) (r:ρ):Value→World→Prop:=R r
def Jx {ρ:Type} (X:ρ→List PanicEntry→World→Prop) (r:ρ):List PanicEntry→World→Prop:=X r
theorem t2_ {A B:Type} {a a':A} {b b':B} (h:(a,b)=(a',b')):a=a'∧b=b':=by cases h;exact ⟨rfl,rfl⟩
theorem t3 {A B C:Type} {a a':A} {b b':B} {c c':C} (h:(a,b,c)=(a',b',c')):a=a'∧b=b'∧c=c':=by cases h;exact ⟨rfl,rfl,rfl⟩
theorem t4 {A B C D:Type} {a a':A} {b b':B} {c c':C} {d d':D} (h:(a,b,c,d)=(a',b',c',d')):a=a'∧b=b'∧c=c'∧d=d':=by cases h;exact ⟨rfl,rfl,rfl,rfl⟩
theorem t5 {A B C D E:Type} {a a':A} {b b':B} {c c':C} {d d':D} {e e':E} (h:(a,b,c,d,e)=(a',b',c',d',e')):a=a'∧b=b'∧c=c'∧d=d'∧e=e':=by cases h;exact ⟨rfl,rfl,rfl,rfl,rfl⟩
theorem t6 {A B C D E F:Type} {a a':A} {b b':B} {c c':C} {d d':D} {e e':E} {f f':F} (h:(a,b,c,d,e,f)=(a',b',c',d',e',f')):a=a'∧b=b'∧c=c'∧d=d'∧e=e'∧f=f':=by cases h;exact ⟨rfl,rfl,rfl,rfl,rfl,rfl⟩
def gd (ops:Array Oper) (l:Env):Option (Nat × Bool)→Bool
 | none=>true
 | some (j,b)=>match (ops[j]?).bind (·.dst) with
  | some dj=>match lk l dj with
   | some (.bool c)=>c == b
   | _=>false
  | none=>false
def gn (ops:Array Oper) (l:Env):Option (Nat × Bool)→Bool
 | none=>false
 | some (j,b)=>match (ops[j]?).bind (·.dst) with
  | some dj=>match lk l dj with
   | some (.bool c)=>!(c == b)
   | some (.tuple _)=>true
   | _=>false
  | none=>false
section
variable {P:Program} {ops:Array Oper} {n:Nat} {l:Env} {a:Act} {w:World} {o:Oper} {d:Nat} {v:Value}
theorem zy (hf:Fr n l a) (h:gd ops l o.guard=true):Region.wanted o (yielded ops a.tmps)=true:=by
 cases hg:o.guard with
 | none=>exact am7 hg
 | some jb =>
  obtain ⟨j,b⟩:=jb
  rw [hg] at h
  unfold gd at h
  split at h
  ·rename_i heq;cases heq
  rename_i j' b' heq
  cases heq
  split at h
  ·rename_i dj hj
   split at h
   ·rename_i c hl
    rw [yW hf hg hj hl];exact h
   ·cases h
  ·cases h
theorem ar0 (hf:Fr n l a) (h:gn ops l o.guard=true):Region.wanted o (yielded ops a.tmps)=false:=by
 cases hg:o.guard with
 | none=>rw [hg] at h;cases h
 | some jb =>
  obtain ⟨j,b⟩:=jb
  rw [hg] at h
  unfold gn at h
  split at h
  ·rename_i heq;cases heq
  rename_i j' b' heq
  cases heq
  split at h
  ·rename_i dj hj
   split at h
   ·rename_i c hl
    rw [yW hf hg hj hl];simpa using h
   ·rename_i vs hl
    simp only [Region.wanted,hg,yielded,hj,obS,hf.get dj _ hl]
    rfl
   ·cases h
  ·cases h
def Yd (P:Program) (ops:Array Oper) (n:Nat) (l:Env) (w:World) (o:Oper) (d:Nat) (v:Value):Prop :=
 (gd ops l o.guard=true∧o.dst=some d∧Nat.blt d n=true)∧Yl P l w o v
theorem yG (h:(gd ops l o.guard,o.dst,Nat.blt d n)=(true,some d,true)) (hy:Yl P l w o v):Yd P ops n l w o d v:=⟨t3 h,hy⟩
variable {x y c:Operand} {vx vy:Value} {t t' e s T:TypeId} {k:IntKind} {i j:Int}
theorem yM (h:(gd ops l o.guard,o.dst,Nat.blt d n,o.op,ev l x)=(true,some d,true,.move x,some v)):Yd P ops n l w o d v :=
 let ⟨h1,h2,h3,h4,h5⟩:=t5 h
 ⟨⟨h1,h2,h3⟩,bt8 h4 h5⟩
theorem yA (h:(gd ops l o.guard,o.dst,Nat.blt d n,o.op,ev l x)=(true,some d,true,.assign x,some v)):Yd P ops n l w o d v :=
 let ⟨h1,h2,h3,h4,h5⟩:=t5 h
 ⟨⟨h1,h2,h3⟩,bk2 h4 h5⟩
theorem yKt (h:(gd ops l o.guard,o.dst,Nat.blt d n,o.op,ev l c,ev l x)=(true,some d,true,.pick c x y,some (.bool true),some v)):Yd P ops n l w o d v :=
 let ⟨h1,h2,h3,h4,h5,h6⟩:=t6 h
 ⟨⟨h1,h2,h3⟩,be8 h4 h5 h6⟩
theorem yKf (h:(gd ops l o.guard,o.dst,Nat.blt d n,o.op,ev l c,ev l y)=(true,some d,true,.pick c x y,some (.bool false),some v)):Yd P ops n l w o d v :=
 let ⟨h1,h2,h3,h4,h5,h6⟩:=t6 h
 ⟨⟨h1,h2,h3⟩,ba5 h4 h5 h6⟩
theorem yN {b:Bool} (h:(gd ops l o.guard,o.dst,Nat.blt d n,o.op,ev l x)=(true,some d,true,.unOp .not t x,some (.bool b))):Yd P ops n l w o d (.bool (!b)) :=
 let ⟨h1,h2,h3,h4,h5⟩:=t5 h
 ⟨⟨h1,h2,h3⟩,bz6 h4 h5⟩
theorem yX {i:Nat} {vs:Array Value} (h:(gd ops l o.guard,o.dst,Nat.blt d n,o.op,ev l x,vs[i]?)=(true,some d,true,.extract x i,some (.tuple vs),some v)):Yd P ops n l w o d v :=
 let ⟨h1,h2,h3,h4,h5,h6⟩:=t6 h
 ⟨⟨h1,h2,h3⟩,az5 h4 h5 h6⟩
def bI (k:IntKind) (i j:Int):BinOp→Option Value
 | .lss=>some (.bool (decide (i<j)))
 | .leq=>some (.bool (decide (i≤j)))
 | .gtr=>some (.bool (decide (j<i)))
 | .geq=>some (.bool (decide (j≤i)))
 | .eql=>some (.bool (decide (i=j)))
 | .neq=>some (.bool (decide (i≠j)))
 | .add=>match k with
  | .i64=>some (.int .i64 (w64 (i+j)))
  | k=>some (.int k (k.wrap (i+j)))
 | .sub=>match k with
  | .i64=>some (.int .i64 (w64 (i - j)))
  | k=>some (.int k (k.wrap (i - j)))
 | .mul=>match k with
  | .i64=>some (.int .i64 (w64 (i*j)))
  | k=>some (.int k (k.wrap (i*j)))
 | .and=>match k with
  | .i64=>some (.int .i64 (bw4 i j))
  | k=>some (.int k (tI k (· &&& ·) i j))
 | .or=>match k with
  | .i64=>some (.int .i64 (orI i j))
  | k=>some (.int k (tI k (· ||| ·) i j))
 | .xor=>some (.int k (tI k (· ^^^ ·) i j))
 | _=>none
theorem ce2 {f:BinOp} (ho:o.op=.binOp f t x y t') (hx:ev l x=some (.int k i)) (hy:ev l y=some (.int k j)) (hb:bI k i j f=some v):Yl P l w o v:=by
 cases f<;>simp only [bI] at hb<;>try (cases hb)
 ·split at hb<;>cases hb
  ·exact bv0 ho hx hy
  ·exact bi2 ho hx hy
 ·split at hb<;>cases hb
  ·exact bx4 ho hx hy
  ·exact ar2 ho hx hy
 ·split at hb<;>cases hb
  ·exact bw5 ho hx hy
  ·exact bs6 ho hx hy
 ·split at hb<;>cases hb
  ·exact bz5 ho hx hy
  ·exact by2 ho hx hy
 ·split at hb<;>cases hb
  ·exact ce1 ho hx hy
  ·exact cc4 ho hx hy
 ·exact bv7 ho hx hy
 ·exact br8 ho hx hy
 ·exact bz1 ho hx hy
 ·exact bs0 ho hx hy
 ·exact bt0 ho hx hy
 ·exact bs2 ho hx hy
 ·exact bt4 ho hx hy
theorem t7 {A B C D E F H:Type} {a a':A} {b b':B} {c c':C} {d d':D} {e e':E} {f f':F} {h h':H} (q:(a,b,c,d,e,f,h)=(a',b',c',d',e',f',h')):a=a'∧b=b'∧c=c'∧d=d'∧e=e'∧f=f'∧h=h':=by cases q;exact ⟨rfl,rfl,rfl,rfl,rfl,rfl,rfl⟩
theorem yB {f:BinOp} (h:(gd ops l o.guard,o.dst,Nat.blt d n,o.op,ev l x,ev l y,bI k i j f)=(true,some d,true,.binOp f t x y t',some (.int k i),some (.int k j),some v)):Yd P ops n l w o d v :=
 let ⟨h1,h2,h3,h4,h5,h6,h7⟩:=t7 h
 ⟨⟨h1,h2,h3⟩,ce2 h4 h5 h6 h7⟩
theorem yP (h1:-9223372036854775808≤i+j) (h2:i+j<9223372036854775808) (h:(gd ops l o.guard,o.dst,Nat.blt d n,o.op,ev l x,ev l y)=(true,some d,true,.binOp .add t x y t',some (.int .i64 i),some (.int .i64 j))):Yd P ops n l w o d (.int .i64 (i+j)) :=
 let ⟨g1,g2,g3,g4,g5,g6⟩:=t6 h
 ⟨⟨g1,g2,g3⟩,bo8 g4 g5 g6 h1 h2⟩
theorem yS (h1:-9223372036854775808≤i - j) (h2:i - j<9223372036854775808) (h:(gd ops l o.guard,o.dst,Nat.blt d n,o.op,ev l x,ev l y)=(true,some d,true,.binOp .sub t x y t',some (.int .i64 i),some (.int .i64 j))):Yd P ops n l w o d (.int .i64 (i - j)) :=
 let ⟨g1,g2,g3,g4,g5,g6⟩:=t6 h
 ⟨⟨g1,g2,g3⟩,bl1 g4 g5 g6 h1 h2⟩
theorem yF {q b i off:Nat} (hF:lE P t q off) (h:(gd ops l o.guard,o.dst,Nat.blt d n,o.op,ev l x)=(true,some d,true,.fieldAddr t x q,some (.pointer (some ⟨b,i,none⟩)))):Yd P ops n l w o d (.pointer (some ⟨b,i+off,none⟩)) :=
 let ⟨h1,h2,h3,h4,h5⟩:=t5 h
 ⟨⟨h1,h2,h3⟩,al0 hF h4 h5⟩
theorem yI {b off len cap:Nat} (hT:qK P t e s) (h0:0≤j) (hi:j.toNat<len) (h:(gd ops l o.guard,o.dst,Nat.blt d n,o.op,ev l x,ev l y)=(true,some d,true,.indexAddr t x y,some (.slice (some ⟨b,off,none⟩) len cap),some (.int k j))):Yd P ops n l w o d (.pointer (some ⟨b,off+j.toNat*s,none⟩)) :=
 let ⟨g1,g2,g3,g4,g5,g6⟩:=t6 h
 ⟨⟨g1,g2,g3⟩,ak5 hT g4 g5 g6 h0 hi⟩
theorem yV {p:Option Addr} {len cap:Nat} (hT:qK P t e s) (h:(gd ops l o.guard,o.dst,Nat.blt d n,o.op,ev l x)=(true,some d,true,.call { callee:=.builtin .len,args:=#[x],argTypes:=#[t] },some (.slice p len cap))):Yd P ops n l w o d (.int .i64 (len:Int)) :=
 let ⟨h1,h2,h3,h4,h5⟩:=t5 h
 ⟨⟨h1,h2,h3⟩,am1 hT.und h4 h5⟩
theorem yU {fn:Fn} {captured:Array Operand} {cs:List Value} (h:(gd ops l o.guard,o.dst,Nat.blt d n,o.op,evs l captured.toList)=(true,some d,true,.makeFunc fn #[] captured,some cs)):Yd P ops n l w o d (.func fn #[] cs.toArray) :=
 let ⟨h1,h2,h3,h4,h5⟩:=t5 h
 ⟨⟨h1,h2,h3⟩,ao0 h4 h5⟩
theorem yL {w0:World} {hz:kX} {L:List Ch} {b i:Nat} {cs:List Value} (hm:Mem w0 hz w L) (q:Nat) (ht:∀ w,(isAgg t).run P w=.ok false w) (h:(gd ops l o.guard,o.dst,Nat.blt d n,o.op,ev l x,L[q]?,cs[i]?)=(true,some d,true,.load t x,some (.pointer (some ⟨b,i,none⟩)),some (blk b cs T),some v)):Yd P ops n l w o d v :=
 let ⟨h1,h2,h3,h4,h5,h6,h7⟩:=t7 h
 ⟨⟨h1,h2,h3⟩,as9 ht h4 h5 (hm.blk_cell q h6 h7)⟩
theorem yl {b i:Nat} (ht:∀ w,(isAgg t).run P w=.ok false w) (hc:w.cell? ⟨b,i,none⟩=some v) (h:(gd ops l o.guard,o.dst,Nat.blt d n,o.op,ev l x)=(true,some d,true,.load t x,some (.pointer (some ⟨b,i,none⟩)))):Yd P ops n l w o d v :=
 let ⟨h1,h2,h3,h4,h5⟩:=t5 h
 ⟨⟨h1,h2,h3⟩,as9 ht h4 h5 hc⟩
theorem yn {b i:Nat} {cs:List Value} (hc:lq (hp w) b i cs) (ht:∀ w,(isAgg t).run P w=.ok true w) (hs:∀ w,(sizeOf t).run P w=.ok cs.length w) (h:(gd ops l o.guard,o.dst,Nat.blt d n,o.op,ev l x)=(true,some d,true,.load t x,some (.pointer (some ⟨b,i,none⟩)))):Yd P ops n l w o d (.agg cs.toArray) :=
 let ⟨h1,h2,h3,h4,h5⟩:=t5 h
 ⟨⟨h1,h2,h3⟩,bp8 ht hs h4 h5 hc⟩
end
section
variable {ρ β:Type} {m:Option ρ} {r:ρ} {P:Program} {ops:Array Oper} {Q:Exit→Act→World→Prop} {n:Nat} {l:Env} {w w0:World} {hz:kX} {L:List Ch} {o:Oper} {rest:List Oper} {d:Nat} {v:Value} {R:Value→World→Prop} {φ:Act→World→Prop}
variable {x y c:Operand} {t t' e s T:TypeId} {k:IntKind} {i j:Int}
theorem gv {a:Act} (hf:Fr n l a) (k:G m r n l φ w):m=some r→φ a w:=λh=>k h a hf
theorem gY (h:Yd P ops n l w o d v) (k:G m r n ((d,v)::l) (wpList P ops Q rest) w):G m r n l (wpList P ops Q (o::rest)) w :=
 λhm a hf=>xh (zy hf h.1.1) (bg9 hf h.2 (by rw [h.1.2.1];exact k hm _ (hf.put h.1.2.2)))
theorem gO (h:(gn ops l o.guard,o.dst,Nat.blt d n)=(true,some d,true)) (k:G m r n ((d,undef)::l) (wpList P ops Q rest) w):G m r n l (wpList P ops Q (o::rest)) w:=λhm a hf=>by
 obtain ⟨h1,h2,h3⟩:=t3 h
 unfold wpList
 rw [if_neg (by rw [ar0 hf h1];simp),h2]
 exact k hm _ (hf.put h3)
theorem gE (k:G m r n l (Q .normal) w):G m r n l (wpList P ops Q []) w:=k
theorem gM (h:(gd ops l o.guard,o.dst,Nat.blt d n,o.op,ev l x)=(true,some d,true,.move x,some v)) (k:G m r n ((d,v)::l) (wpList P ops Q rest) w):G m r n l (wpList P ops Q (o::rest)) w:=gY (yM h) k
theorem gA (h:(gd ops l o.guard,o.dst,Nat.blt d n,o.op,ev l x)=(true,some d,true,.assign x,some v)) (k:G m r n ((d,v)::l) (wpList P ops Q rest) w):G m r n l (wpList P ops Q (o::rest)) w:=gY (yA h) k
theorem gB {f:BinOp} (h:(gd ops l o.guard,o.dst,Nat.blt d n,o.op,ev l x,ev l y,bI k i j f)=(true,some d,true,.binOp f t x y t',some (.int k i),some (.int k j),some v)) (k:G m r n ((d,v)::l) (wpList P ops Q rest) w):G m r n l (wpList P ops Q (o::rest)) w:=gY (yB h) k
theorem gN {b:Bool} (h:(gd ops l o.guard,o.dst,Nat.blt d n,o.op,ev l x)=(true,some d,true,.unOp .not t x,some (.bool b))) (k:G m r n ((d,.bool (!b))::l) (wpList P ops Q rest) w):G m r n l (wpList P ops Q (o::rest)) w:=gY (yN h) k
theorem gX {i:Nat} {vs:Array Value} (h:(gd ops l o.guard,o.dst,Nat.blt d n,o.op,ev l x,vs[i]?)=(true,some d,true,.extract x i,some (.tuple vs),some v)) (k:G m r n ((d,v)::l) (wpList P ops Q rest) w):G m r n l (wpList P ops Q (o::rest)) w:=gY (yX h) k
theorem gF {q b i off:Nat} (hF:lE P t q off) (h:(gd ops l o.guard,o.dst,Nat.blt d n,o.op,ev l x)=(true,some d,true,.fieldAddr t x q,some (.pointer (some ⟨b,i,none⟩)))) (k:G m r n ((d,.pointer (some ⟨b,i+off,none⟩))::l) (wpList P ops Q rest) w):G m r n l (wpList P ops Q (o::rest)) w:=gY (yF hF h) k
theorem gL {b i:Nat} {cs:List Value} (hm:Mem w0 hz w L) (q:Nat) (ht:∀ w,(isAgg t).run P w=.ok false w) (h:(gd ops l o.guard,o.dst,Nat.blt d n,o.op,ev l x,L[q]?,cs[i]?)=(true,some d,true,.load t x,some (.pointer (some ⟨b,i,none⟩)),some (blk b cs T),some v)) (k:G m r n ((d,v)::l) (wpList P ops Q rest) w):G m r n l (wpList P ops Q (o::rest)) w:=gY (yL hm q ht h) k
theorem gKt (h:(gd ops l o.guard,o.dst,Nat.blt d n,o.op,ev l c,ev l x)=(true,some d,true,.pick c x y,some (.bool true),some v)) (k:G m r n ((d,v)::l) (wpList P ops Q rest) w):G m r n l (wpList P ops Q (o::rest)) w:=gY (yKt h) k
theorem gKf (h:(gd ops l o.guard,o.dst,Nat.blt d n,o.op,ev l c,ev l y)=(true,some d,true,.pick c x y,some (.bool false),some v)) (k:G m r n ((d,v)::l) (wpList P ops Q rest) w):G m r n l (wpList P ops Q (o::rest)) w:=gY (yKf h) k
theorem gI {b off len cap:Nat} (hT:qK P t e s) (h0:0≤j) (hi:j.toNat<len) (h:(gd ops l o.guard,o.dst,Nat.blt d n,o.op,ev l x,ev l y)=(true,some d,true,.indexAddr t x y,some (.slice (some ⟨b,off,none⟩) len cap),some (.int k j))) (k':G m r n ((d,.pointer (some ⟨b,off+j.toNat*s,none⟩))::l) (wpList P ops Q rest) w):G m r n l (wpList P ops Q (o::rest)) w:=gY (yI hT h0 hi h) k'
theorem gP (h1:-9223372036854775808≤i+j) (h2:i+j<9223372036854775808) (h:(gd ops l o.guard,o.dst,Nat.blt d n,o.op,ev l x,ev l y)=(true,some d,true,.binOp .add t x y t',some (.int .i64 i),some (.int .i64 j))) (k:G m r n ((d,.int .i64 (i+j))::l) (wpList P ops Q rest) w):G m r n l (wpList P ops Q (o::rest)) w:=gY (yP h1 h2 h) k
theorem gf (h:(gd ops l o.guard,o.dst,Nat.blt d n)=(true,some d,true)) (he:∀ a,Fr n l a→Ef P a w o R) (k:∀ v w',R v w'→G m r n ((d,v)::l) (wpList P ops Q rest) w'):G m r n l (wpList P ops Q (o::rest)) w:=λhm a hf=>by
 obtain ⟨h1,h2,h3⟩:=t3 h
 exact xh (zy hf h1) (he a hf _ _ λv w' hR=>k v w' hR hm _ (by rw [h2];exact hf.put h3))
theorem gf0 (h:(gd ops l o.guard,o.dst)=(true,none)) (he:∀ a,Fr n l a→Ef P a w o R) (k:∀ v w',R v w'→G m r n l (wpList P ops Q rest) w'):G m r n l (wpList P ops Q (o::rest)) w:=λhm a hf=>by
 obtain ⟨h1,h2⟩:=t2_ h
 exact xh (zy hf h1) (he a hf _ _ λv w' hR=>k v w' hR hm _ (by rw [h2];exact hf.put_none))
theorem gBx {cs:List Value} (hm:Mem w0 hz w L) (h:(gd ops l o.guard,o.dst,Nat.blt d n,o.op,ev l x,v.cells)=(true,some d,true,.box t x,some v,cs.toArray)) (k:∀ b w',Mem w0 hz w' (blk b cs t::L)→G m r n ((d,.pointer (some ⟨b,0,none⟩))::l) (wpList P ops Q rest) w'):G m r n l (wpList P ops Q (o::rest)) w:=by
 obtain ⟨h1,h2,h3,h4,h5,h6⟩:=t6 h
 exact gf (d:=d) (by rw [h1,h2,h3]) (λa hf=>cc5 hf hm h4 h5 h6) λv w' ⟨b,hv,hm'⟩=>by subst hv;exact k b w' hm'
theorem gAl {z:Value} {cs:List Value} (hm:Mem w0 hz w L) (hz':∀ w,(zeroValue t).run P w=.ok z w) (h:(gd ops l o.guard,o.dst,Nat.blt d n,o.op,z.cells)=(true,some d,true,.alloc t,cs.toArray)) (k:∀ b w',Mem w0 hz w' (blk b cs t::L)→G m r n ((d,.pointer (some ⟨b,0,none⟩))::l) (wpList P ops Q rest) w'):G m r n l (wpList P ops Q (o::rest)) w:=by
 obtain ⟨h1,h2,h3,h4,h5⟩:=t5 h
 exact gf (d:=d) (by rw [h1,h2,h3]) (λa hf=>mb hm hz' h4 h5) λv w' ⟨b,hv,hm'⟩=>by subst hv;exact k b w' hm'
theorem gS1 {b i:Nat} {cs:List Value} (hm:Mem w0 hz w L) (q:Nat) (hs:∀ w,(sizeOf t).run P w=.ok 1 w) (h1:v.oneCell'=true) (h:(gd ops l o.guard,o.dst,o.op,ev l x,ev l y,L[q]?,Nat.blt i cs.length)=(true,none,.store t x y,some (.pointer (some ⟨b,i,none⟩)),some v,some (blk b cs T),true)) (k:∀ w',Mem w0 hz w' (L.set q (blk b (cs.set i v) T))→G m r n l (wpList P ops Q rest) w'):G m r n l (wpList P ops Q (o::rest)) w:=by
 obtain ⟨g1,g2,g3,g4,g5,g6,g7⟩:=t7 h
 exact gf0 (by rw [g1,g2]) (λa hf=>nP q hf hm g6 hs g3 g4 g5 h1 g7) λ_ w' hm'=>k w' hm'
theorem t8 {A B C D E F H I:Type} {a a':A} {b b':B} {c c':C} {d d':D} {e e':E} {f f':F} {h h':H} {i i':I} (q:(a,b,c,d,e,f,h,i)=(a',b',c',d',e',f',h',i')):a=a'∧b=b'∧c=c'∧d=d'∧e=e'∧f=f'∧h=h'∧i=i':=by cases q;exact ⟨rfl,rfl,rfl,rfl,rfl,rfl,rfl,rfl⟩
theorem gSN {b i:Nat} {cs vs cs':List Value} (hm:Mem w0 hz w L) (q:Nat) (hs:∀ w,(sizeOf t).run P w=.ok vs.length w) (h1:∀ v∈vs,v.oneCell'=true) (h:(gd ops l o.guard,o.dst,o.op,ev l x,ev l y,L[q]?,Nat.ble (i+vs.length) cs.length,oy cs i vs)=(true,none,.store t x y,some (.pointer (some ⟨b,i,none⟩)),some (.agg vs.toArray),some (blk b cs T),true,cs')) (k:∀ w',Mem w0 hz w' (L.set q (blk b cs' T))→G m r n l (wpList P ops Q rest) w'):G m r n l (wpList P ops Q (o::rest)) w:=by
 obtain ⟨g1,g2,g3,g4,g5,g6,g7,g8⟩:=t8 h
 exact gf0 (by rw [g1,g2]) (λa hf=>nH q hf hm g6 hs g3 g4 g5 h1 g7 g8) λ_ w' hm'=>k w' hm'
theorem gC {f:FuncId} {as:List Operand} {vs:List Value} {tys:Array TypeId} {mx:Option β} {kk:β→Option ρ} {V:β→Value} (hm:Mem w0 hz w L)
  (h:(gd ops l o.guard,o.dst,Nat.blt d n,o.op,evs l as)=(true,some d,true,.call { callee:=.value (.func f),args:=as.toArray,argTypes:=tys },some vs)) (hc:∀ args w,(callFunc f args).run P w=.ok (.enter f args) w)
  (hC:mE P f vs w mx (λx v w'=>v=V x∧Below w.heap.size w w'))
  (k:∀ x,mx=some x→∀ w',Mem w0 hz w' L→G (kk x) r n ((d,V x)::l) (wpList P ops Q rest) w'):G (Option.bind mx kk) r n l (wpList P ops Q (o::rest)) w:=λhe=>by
 obtain ⟨h1,h2,h3,h4,h5⟩:=t5 h
 obtain ⟨x,hx,he⟩:=bnd he
 exact gf (m:=kk x) (d:=d) (by rw [h1,h2,h3]) (λa hf=>lK hf h4 hc h5 (hC x hx)) (λv w' ⟨hv,hB⟩=>by subst hv;exact k x hx w' (hm.below' hB)) he
theorem gCg {f:FuncId} {as:List Operand} {vs:List Value} {tys:Array TypeId} {mx:Option β} {kk:β→Option ρ} {R:β→Value→World→Prop}
  (h:(gd ops l o.guard,o.dst,Nat.blt d n,o.op,evs l as)=(true,some d,true,.call { callee:=.value (.func f),args:=as.toArray,argTypes:=tys },some vs)) (hc:∀ args w,(callFunc f args).run P w=.ok (.enter f args) w)
  (hC:mE P f vs w mx R)
  (k:∀ x,mx=some x→∀ v w',R x v w'→G (kk x) r n ((d,v)::l) (wpList P ops Q rest) w'):G (Option.bind mx kk) r n l (wpList P ops Q (o::rest)) w:=λhe=>by
 obtain ⟨h1,h2,h3,h4,h5⟩:=t5 h
 obtain ⟨x,hx,he⟩:=bnd he
 exact gf (m:=kk x) (d:=d) (by rw [h1,h2,h3]) (λa hf=>lK hf h4 hc h5 (hC x hx)) (λv w' hR=>k x hx v w' hR) he
end
section
variable {ρ β:Type} {m A B:Option ρ} {r:ρ} {n:Nat} {l:Env} {w:World} {φ:Act→World→Prop}
theorem gb {mx:Option β} {kk:β→Option ρ} (k:∀ x,mx=some x→G (kk x) r n l φ w):G (Option.bind mx kk) r n l φ w:=λhe a hf=>by
 obtain ⟨x,hx,he⟩:=bnd he
 exact k x hx he a hf
theorem gg {α:Type} {xs:List α} {i:Int} {kk:α→Option ρ} (k:∀ x,0≤i→xs[i.toNat]?=some x→G (kk x) r n l φ w):G (Option.bind (kn xs i) kk) r n l φ w:=gb λx hx=>k x (rB.1 hx).1 (rB.1 hx).2
theorem go (b:Bool) (q:Nat) (h:lk l q=some (.bool b)) {c:Bool} (hc:b=c) (k:G m r n ((q,.bool c)::l) φ w):G m r n l φ w:=λhe a hf=>by
 subst hc
 refine k he a ⟨hf.size,hf.defers,λt v ht=>?_⟩
 simp only [lk] at ht
 by_cases e:Nat.beq q t=true
 ·rw [e] at ht
  simp only [cond_true,osI] at ht
  obtain rfl:=Nat.eq_of_beq_eq_true e
  rw [← ht];exact hf.get _ _ h
 ·rw [Bool.not_eq_true] at e;rw [e] at ht
  exact hf.get t v ht
theorem gs {b:Bool} (q:Nat) (h:lk l q=some (.bool b)) (t:b=true→G A r n ((q,.bool true)::l) φ w) (f:b=false→G B r n ((q,.bool false)::l) φ w):G (if b=true then A else B) r n l φ w:=by
 cases b with
 | true=>rw [if_pos rfl];exact go _ q h rfl (t rfl)
 | false=>rw [if_neg (by simp)];exact go _ q h rfl (f rfl)
theorem gsd {p:Prop} [Decidable p] (q:Nat) (h:lk l q=some (.bool (decide p))) (t:p→G A r n ((q,.bool true)::l) φ w) (f:¬ p→G B r n ((q,.bool false)::l) φ w):G (if decide p=true then A else B) r n l φ w :=
 Decidable.byCases (λhp:p=>by rw [if_pos (decide_eq_true hp)];exact go _ q h (decide_eq_true hp) (t hp)) (λhp=>by rw [if_neg (by simp [hp])];exact go _ q h (decide_eq_false hp) (f hp))
theorem gsn {b:Bool} (q:Nat) (h:lk l q=some (.bool (!b))) (t:b=false→G A r n ((q,.bool true)::l) φ w) (f:b=true→G B r n ((q,.bool false)::l) φ w):G (if (!b)=true then A else B) r n l φ w:=by
 cases b with
 | true=>rw [if_neg (by simp)];exact go _ q h rfl (f rfl)
 | false=>rw [if_pos (by simp)];exact go _ q h rfl (t rfl)
theorem gl {α:Type} {f:α→Option ρ} {g:β→Option ρ} {x:α} (k:G (f x) r n l φ w):G (Sum.elim f g (.inl x)) r n l φ w:=k
theorem gr {α:Type} {f:α→Option ρ} {g:β→Option ρ} {x:β} (k:G (g x) r n l φ w):G (Sum.elim f g (.inr x)) r n l φ w:=k
theorem gEr {α γ:Type} {A:α→Option ρ} {B:γ→Option ρ} {c:α ⊕ γ} {p:γ} (hq:Sum.elim A B c=some r) (k:G (B p) r n l φ w):G (some (.inr p)) c n l φ w:=λh=>by
 obtain rfl:=Option.some.inj h
 exact k hq
theorem gLr {α γ S:Type} {A:α→Option ρ} {B:γ→Option ρ} {x:α ⊕ γ} {c:S ⊕ γ} {p:γ} (ho:∀ y,c=.inr y→x=.inr y) (hq:Sum.elim A B x=some r) (k:G (B p) r n l φ w):G (some (.inr p)) c n l φ w:=λh=>by
 obtain rfl:=ho _ (Option.some.inj h).symm
 exact k hq
theorem gLp {γ S:Type} {B:γ→Option ρ} {x:γ} {c:S ⊕ γ} {p:γ} (ho:∀ y,c=.inr y→y=x) (hq:B x=some r) (k:G (B p) r n l φ w):G (some (.inr p)) c n l φ w:=λh=>by
 obtain rfl:=ho _ (Option.some.inj h).symm
 exact k hq
end
section
variable {ρ S E X:Type} {m:Option ρ} {r:ρ} {P:Program} {ops:Array Oper} {Q:Exit→Act→World→Prop} {n:Nat} {l:Env} {w w0:World} {hz:kX} {L:List Ch} {x y c:Code} {o:Operand} {id:Nat} {φ:Act→World→Prop}
theorem sy {K:Act→World→Prop}:∀ e a w,xB K Q e a w→Exit.then K Q e a w:=λe a w h=>by cases e<;>exact h
theorem gS (k:G m r n l (x.wk P (xB (y.wk P Q) Q)) w):G m r n l ((Code.seq x y).wk P Q) w:=λhe a hf=>bv2 (Code.wk_mono sy (k he a hf))
theorem gR {os:List Oper} (k:G m r n l (wpList P os.toArray Q os) w):G m r n l ((Code.region id os.toArray false).wk P Q) w:=λhe a hf=>ab9 (k he a hf)
theorem gSk (k:G m r n l (Q .normal) w):G m r n l (Code.skip.wk P Q) w:=λhe a hf=>bl3 (k he a hf)
theorem gXt (k:G m r n l (Q (.exit id)) w):G m r n l ((Code.exit id).wk P Q) w:=λhe a hf=>bl4 (k he a hf)
theorem gRt (k:G m r n l (Q .ret) w):G m r n l (Code.ret.wk P Q) w:=λhe a hf=>bu1 (k he a hf)
theorem gBk (k:G m r n l (c.wk P (bs8 id Q)) w):G m r n l ((Code.block id c).wk P Q) w:=λhe a hf=>bj5 (Code.wk_mono (λe a w h=>by
 cases e with
 | exit i =>
  simp only [bs8,Exit.inBlock] at h ⊢
  cases hb:Nat.beq i id with
  | true=>rw [hb] at h;rw [if_pos (Nat.eq_of_beq_eq_true hb)];exact h
  | false=>rw [hb] at h;rw [if_neg (λe=>by subst e;simp at hb)];exact h
 | _=>exact h) (k he a hf))
theorem gHh {i:Nat} {ψ:Act→World→Prop} (k:G m r n l φ w):G m r n l (bif Nat.beq i i then φ else ψ) w:=by rw [show Nat.beq i i=true by simp];exact k
theorem gct (h:ev l o=some (.bool true)) (k:G m r n l (x.wk P Q) w):G m r n l ((Code.cond o x y).wk P Q) w:=λhe a hf=>bu7 hf h rfl (k he a hf)
theorem gcf (h:ev l o=some (.bool false)) (k:G m r n l (y.wk P Q) w):G m r n l ((Code.cond o x y).wk P Q) w:=λhe a hf=>bw7 hf h rfl (k he a hf)
theorem gJg {X:Option S} {kk:S→Option ρ} (I:S→Act→World→Prop) (h1:∀ s,G X s n l (c.wk P (xB (Jn I s) Q)) w) (h2:∀ s a w,I s a w→kk s=some r→Q .normal a w):G (Option.bind X kk) r n l (c.wk P Q) w:=λhe a hf=>by
 obtain ⟨s,hs,he⟩:=bnd he
 exact al1 (Jn I s) (Code.wk_mono sy (h1 s hs a hf)) λa w hI=>h2 s a w hI he
theorem tX {X:Option (S ⊕ E)} {kk:S→Option ρ} {hd:E→Option ρ} (I:S→Act→World→Prop) (h1:∀ s,Sum.elim kk hd s=some r→G X s n l (c.wk P (xB (λa w=>∃ z,s=.inl z∧Jn I z a w) Q)) w) (h2:∀ s a w,I s a w→kk s=some r→Q .normal a w):G (Option.bind X (Sum.elim kk hd)) r n l (c.wk P Q) w:=λhe a hf=>by
 obtain ⟨s,hs,he⟩:=bnd he
 exact al1 (λa w=>∃ z,s=.inl z∧Jn I z a w) (Code.wk_mono sy (h1 s he hs a hf)) λa w ⟨z,hz,hI⟩=>by subst hz;exact h2 z a w hI he
theorem gJ {X:Option S} {kk:S→Option ρ} (hm:Mem w0 hz w L) (l':S→Env) (L':S→List Ch) (h1:∀ s,G X s n l (c.wk P (xB (Js n l' w0 hz L' s) Q)) w) (h2:∀ s w,Mem w0 hz w (L' s)→G (kk s) r n (l' s) (Q .normal) w):G (Option.bind X kk) r n l (c.wk P Q) w :=
 gJg (λs=>St n (l' s) w0 hz (L' s)) h1 λs a w hI he=>h2 s w hI.2 he a hI.1
theorem gJe {X:Option (S ⊕ E)} {kk:S→Option ρ} {hd:E→Option ρ} (hm:Mem w0 hz w L) (l':S→Env) (L':S→List Ch) (h1:∀ s,Sum.elim kk hd s=some r→G X s n l (c.wk P (xB (λa w=>∃ z,s=.inl z∧Js n l' w0 hz L' z a w) Q)) w) (h2:∀ s w,Mem w0 hz w (L' s)→G (kk s) r n (l' s) (Q .normal) w):G (Option.bind X (Sum.elim kk hd)) r n l (c.wk P Q) w :=
 tX (λs=>St n (l' s) w0 hz (L' s)) h1 λs a w hI he=>h2 s w hI.2 he a hI.1
theorem gZ {I:S→Act→World→Prop} {y s:S} (h:∀ a,Fr n l a→I y a w):G (some y) s n l (Jn I s) w:=λhe a hf=>by
 obtain rfl:=Option.some.inj he
 exact h a hf
theorem gZe {I:S→Act→World→Prop} {y:S} {s:S ⊕ E} (h:∀ a,Fr n l a→I y a w):G (some (.inl y)) s n l (λa w=>∃ z,s=.inl z∧Jn I z a w) w:=λhe a hf=>by
 obtain rfl:=Option.some.inj he
 exact ⟨_,rfl,h a hf⟩
theorem Fr.sb {a:Act} {l':Env} (h:Fr n l a) (e:l'.map (λp=>lk l p.1)=l'.map (λp=>some p.2)):Fr n l' a:=by
 refine ⟨h.size,h.defers,λt v ht=>h.get t v ?_⟩
 induction l' with
 | nil=>cases ht
 | cons p q ih =>
  simp only [List.map_cons,List.cons.injEq] at e
  simp only [lk] at ht
  by_cases hb:Nat.beq p.1 t=true
  ·rw [hb] at ht
   simp only [cond_true,osI] at ht
   rw [← Nat.eq_of_beq_eq_true hb,← ht];exact e.1
  ·rw [Bool.not_eq_true] at hb;rw [hb] at ht
   exact ih e.2 ht
theorem gz {y s:S} {l':S→Env} {L':S→List Ch} (hm:Mem w0 hz w L) (js:List Nat) (h:(decide js.Nodup,js.map (λj=>L[j]?),(l' y).map (λp=>lk l p.1))=(true,(L' y).map some,(l' y).map (λp=>some p.2))):G (some y) s n l (Js n l' w0 hz L' s) w :=
 gZ (I:=λs=>St n (l' s) w0 hz (L' s)) λa hf=>⟨hf.sb (t3 h).2.2,hm.pk js (t3 h).1 (t3 h).2.1⟩
theorem gze {y:S} {s:S ⊕ E} {l':S→Env} {L':S→List Ch} (hm:Mem w0 hz w L) (js:List Nat) (h:(decide js.Nodup,js.map (λj=>L[j]?),(l' y).map (λp=>lk l p.1))=(true,(L' y).map some,(l' y).map (λp=>some p.2))):G (some (.inl y)) s n l (λa w=>∃ z,s=.inl z∧Js n l' w0 hz L' z a w) w :=
 gZe (I:=λs=>St n (l' s) w0 hz (L' s)) λa hf=>⟨hf.sb (t3 h).2.2,hm.pk js (t3 h).1 (t3 h).2.1⟩
theorem gNg {kk:S→Option ρ} {hd:X→Option ρ} {body:Int→S→Option (S ⊕ X)} {i0 lim:Int} {s0:S} (I:Int→S→Act→World→Prop) (h0:∀ a,Fr n l a→I i0 s0 a w)
  (hr:∀ x,Sum.elim kk hd x=some r→∀ i s a w,I i s a w→i0≤i→i<lim→∀ q,(∀ y,q=.inr y→x=.inr y)→body i s=some q→c.wk P (xB (λa' w'=>∃ z,q=.inl z∧Jn (I (i+1)) z a' w') Q) a w)
  (he:∀ i s a w,I i s a w→i0≤i→lim≤i→kk s=some r→c.wk P (xB (λ_ _=>False) Q) a w):G (Option.bind (forN body (lim - i0).toNat i0 s0) (Sum.elim kk hd)) r n l ((Code.loop c).wk P Q) w:=λhq a hf=>by
 obtain ⟨x,hx,hq⟩:=bnd hq
 refine zB body I i0 lim hx (h0 a hf) (λi s a w hI h1 h2 q hb ho=>Code.wk_mono sy (hr x hq i s a w hI h1 h2 q ho hb)) (λi s a w hI h1 h2 hxs=>?_)
 subst hxs
 exact Code.wk_mono sy (he i s a w hI h1 h2 hq)
theorem gNf {kk:S→Option ρ} {hd:X→Option ρ} {body:Int→S→Option (S ⊕ X)} {i0 lim:Int} {s0:S} (hm:Mem w0 hz w L) (l':Int→S→Env) (L':Int→S→List Ch) (js:List Nat) (h0:(decide js.Nodup,js.map (λj=>L[j]?),(l' i0 s0).map (λp=>lk l p.1))=(true,(L' i0 s0).map some,(l' i0 s0).map (λp=>some p.2)))
  (hr:∀ x,Sum.elim kk hd x=some r→∀ i s w,Mem w0 hz w (L' i s)→i0≤i→i<lim→∀ q,(∀ y,q=.inr y→x=.inr y)→G (body i s) q n (l' i s) (c.wk P (xB (λa w=>∃ z,q=.inl z∧Js n (l' (i+1)) w0 hz (L' (i+1)) z a w) Q)) w)
  (he:∀ i s w,Mem w0 hz w (L' i s)→i0≤i→lim≤i→G (kk s) r n (l' i s) (c.wk P (xB (λ_ _=>False) Q)) w):G (Option.bind (forN body (lim - i0).toNat i0 s0) (Sum.elim kk hd)) r n l ((Code.loop c).wk P Q) w :=
 gNg (λi s=>St n (l' i s) w0 hz (L' i s)) (λa hf=>⟨hf.sb (t3 h0).2.2,hm.pk js (t3 h0).1 (t3 h0).2.1⟩) (λx hq i s a w hI h1 h2 q ho hb=>hr x hq i s w hI.2 h1 h2 q ho hb a hI.1) (λi s a w hI h1 h2 hk=>he i s w hI.2 h1 h2 hk a hI.1)
theorem gMg {hd:X→Option ρ} {body:S→Option (S ⊕ X)} {s0:S} (I:S→Act→World→Prop) (h0:∀ a,Fr n l a→I s0 a w)
  (hr:∀ x,hd x=some r→∀ s a w,I s a w→∀ q,(∀ y,q=.inr y→y=x)→body s=some q→c.wk P (xB (λa' w'=>∃ z,q=.inl z∧Jn I z a' w') Q) a w):G (Option.bind (lH body s0) hd) r n l ((Code.loop c).wk P Q) w:=λhq a hf=>by
 obtain ⟨x,hx,hq⟩:=bnd hq
 exact bb3 body I hx (h0 a hf) (λs a w q hI hb ho=>Code.wk_mono sy (hr x hq s a w hI q ho hb))
theorem gMf {hd:X→Option ρ} {body:S→Option (S ⊕ X)} {s0:S} (hm:Mem w0 hz w L) (l':S→Env) (L':S→List Ch) (js:List Nat) (h0:(decide js.Nodup,js.map (λj=>L[j]?),(l' s0).map (λp=>lk l p.1))=(true,(L' s0).map some,(l' s0).map (λp=>some p.2)))
  (hr:∀ x,hd x=some r→∀ s w,Mem w0 hz w (L' s)→∀ q,(∀ y,q=.inr y→y=x)→G (body s) q n (l' s) (c.wk P (xB (λa w=>∃ z,q=.inl z∧Js n l' w0 hz L' z a w) Q)) w):G (Option.bind (lH body s0) hd) r n l ((Code.loop c).wk P Q) w :=
 gMg (λs=>St n (l' s) w0 hz (L' s)) (λa hf=>⟨hf.sb (t3 h0).2.2,hm.pk js (t3 h0).1 (t3 h0).2.1⟩) (λx hq s a w hI q ho hb=>hr x hq s w hI.2 q ho hb a hI.1)
end
def OpT (P:Program) (ops:Array Oper) (S:World→Prop) (ns:List Nat) (Q:Exit→Act→World→Prop) (i:Nat) (t:Ord) (a:Act) (w:World):Prop:=wpOp P ops Q i (λa' w'=>(ns.contains i=true→S w')∧wpT P ops S ns Q t a' w') a w
def AfT (P:Program) (ops:Array Oper) (S:World→Prop) (ns:List Nat) (Q:Exit→Act→World→Prop) (i:Nat) (t:Ord) (a:Act) (w:World):Prop:=(ns.contains i=true→S w)∧wpT P ops S ns Q t a w
section
variable {ρ Z E:Type} {m:Option ρ} {r:ρ} {P:Program} {ops:Array Oper} {S:World→Prop} {ns:List Nat} {Q:Exit→Act→World→Prop} {n:Nat} {l:Env} {w w0:World} {hz:kX} {L Ls:List Ch} {o:Oper} {d i:Nat} {v:Value} {R:Value→World→Prop} {X:List PanicEntry→World→Prop} {t more:Ord}
theorem tE (k:G m r n l (Q .normal) w):G m r n l (wpT P ops S ns Q .fin) w:=k
theorem tO (k:G m r n l (OpT P ops S ns Q i t) w):G m r n l (wpT P ops S ns Q (.e i t .nil)) w:=λhe a hf=>⟨k he a hf,trivial⟩
theorem tMo (k:G m r n l (OpT P ops S ns Q i t) w) (k2:G m r n l (wpT P ops S ns Q more) w):G m r n l (wpT P ops S ns Q (.e i t more)) w:=λhe a hf=>⟨k he a hf,k2 he a hf⟩
theorem tP (ho:ops[i]?=some o) (h:∀ w,Yd P ops n l w o d v) (k:G m r n ((d,v)::l) (wpT P ops S ns Q t) w):G m r n l (wpT P ops S ns Q (.p i t)) w:=λhe a hf =>
 ⟨o,v,ho,.inl ⟨zy hf (h w).1.1,λw _=>(h w).2 n a hf⟩,by rw [(h w).1.2.1];exact k he _ (hf.put (h w).1.2.2)⟩
theorem tQ (ho:ops[i]?=some o) (hS:S w) (h:∀ w,S w→Yd P ops n l w o d v) (k:G m r n ((d,v)::l) (wpT P ops S ns Q t) w):G m r n l (wpT P ops S ns Q (.q i t)) w:=λhe a hf =>
 ⟨o,v,ho,.inl ⟨zy hf (h w hS).1.1,λw hw=>(h w hw).2 n a hf⟩,hS,by rw [(h w hS).1.2.1];exact k he _ (hf.put (h w hS).1.2.2)⟩
theorem tPo (ho:ops[i]?=some o) (h:(gn ops l o.guard,o.dst,Nat.blt d n)=(true,some d,true)) (k:G m r n ((d,undef)::l) (wpT P ops S ns Q t) w):G m r n l (wpT P ops S ns Q (.p i t)) w:=λhe a hf =>
 ⟨o,undef,ho,.inr ⟨ar0 hf (t3 h).1,rfl⟩,by rw [(t3 h).2.1];exact k he _ (hf.put (t3 h).2.2)⟩
theorem tQo (ho:ops[i]?=some o) (hS:S w) (h:(gn ops l o.guard,o.dst,Nat.blt d n)=(true,some d,true)) (k:G m r n ((d,undef)::l) (wpT P ops S ns Q t) w):G m r n l (wpT P ops S ns Q (.q i t)) w:=λhe a hf =>
 ⟨o,undef,ho,.inr ⟨ar0 hf (t3 h).1,rfl⟩,hS,by rw [(t3 h).2.1];exact k he _ (hf.put (t3 h).2.2)⟩
theorem tf (ho:ops[i]?=some o) (h:(gd ops l o.guard,o.dst,Nat.blt d n)=(true,some d,true)) (he:∀ a,Fr n l a→Ef P a w o R) (k:∀ v w',R v w'→G m r n ((d,v)::l) (AfT P ops S ns Q i t) w'):G m r n l (OpT P ops S ns Q i t) w:=λhm a hf=>by
 obtain ⟨h1,h2,h3⟩:=t3 h
 exact aq7 ho (zy hf h1) (he a hf _ _ λv w' hR=>k v w' hR hm _ (by rw [h2];exact hf.put h3))
theorem tf0 (ho:ops[i]?=some o) (h:(gd ops l o.guard,o.dst)=(true,none)) (he:∀ a,Fr n l a→Ef P a w o R) (k:∀ v w',R v w'→G m r n l (AfT P ops S ns Q i t) w'):G m r n l (OpT P ops S ns Q i t) w:=λhm a hf=>by
 obtain ⟨h1,h2⟩:=t2_ h
 exact aq7 ho (zy hf h1) (he a hf _ _ λv w' hR=>k v w' hR hm _ (by rw [h2];exact hf.put_none))
theorem tY (ho:ops[i]?=some o) (h:Yd P ops n l w o d v) (k:G m r n ((d,v)::l) (AfT P ops S ns Q i t) w):G m r n l (OpT P ops S ns Q i t) w :=
 tf (d:=d) ho (by rw [h.1.1,h.1.2.1,h.1.2.2]) (λa hf=>ca5 hf h.2) λu w' ⟨h1,h2⟩=>by subst h1;subst h2;exact k
theorem tEo (ho:ops[i]?=some o) (h:(gn ops l o.guard,o.dst,Nat.blt d n)=(true,some d,true)) (k:G m r n ((d,undef)::l) (AfT P ops S ns Q i t) w):G m r n l (OpT P ops S ns Q i t) w:=λhe a hf=>by
 obtain ⟨h1,h2,h3⟩:=t3 h
 unfold OpT wpOp
 rw [ho]
 show if Region.wanted o (yielded ops a.tmps)=true then _ else _
 rw [if_neg (by rw [ar0 hf h1];simp),h2]
 exact k he _ (hf.put h3)
theorem tAn (h:ns.contains i=false) (k:G m r n l (wpT P ops S ns Q t) w):G m r n l (AfT P ops S ns Q i t) w:=λhe a hf=>⟨λh'=>(by rw [h] at h';cases h'),k he a hf⟩
theorem tAs (hS:S w) (k:G m r n l (wpT P ops S ns Q t) w):G m r n l (AfT P ops S ns Q i t) w:=λhe a hf=>⟨λ_=>hS,k he a hf⟩
theorem tAk (hm:Mem w0 hz w L) (js:List Nat) (h:(decide js.Nodup,js.map (λj=>L[j]?))=(true,Ls.map some)) (k:Mem w0 hz w Ls→G m r n l (wpT P ops (λw=>Mem w0 hz w Ls) ns Q t) w):G m r n l (AfT P ops (λw=>Mem w0 hz w Ls) ns Q i t) w :=
 tAs (S:=λw=>Mem w0 hz w Ls) (hm.pk js (t2_ h).1 (t2_ h).2) (k (hm.pk js (t2_ h).1 (t2_ h).2))
theorem gW {id:Nat} (t:Ord) (ns ps:List Nat) (hm:Mem w0 hz w L) (js:List Nat) (Ls:List Ch) (h:(decide js.Nodup,js.map (λj=>L[j]?))=(true,Ls.map some)) (hx:P.follows .mixedOrders=true) (ht:an4 ops ns ps t=true) (hQ:∀ c a w,¬ Q (.panic c) a w)
  (k:∀ w,Mem w0 hz w L→Mem w0 hz w Ls→G m r n l (wpT P ops (λw=>Mem w0 hz w Ls) ns Q t) w):G m r n l ((Code.region id ops true).wk P Q) w:=λhe a hf =>
 bn4 t ns ps (λw=>Mem w0 hz w Ls) hx ht hQ (k _ hm.drew (hm.drew.pk js (t2_ h).1 (t2_ h).2) he a hf)
theorem tSh {full:Ord} (T:Ord) (K:Act→World→Prop) (h2:∀ a w,K a w→m=some r→wpT P ops S ns Q T a w) (h1:(∀ a w,K a w→m=some r→wpT P ops S ns Q T a w)→G m r n l (wpT P ops S ns Q full) w):G m r n l (wpT P ops S ns Q full) w:=h1 h2
theorem oF {T:Ord} {K:Act→World→Prop} (hT:∀ a w,K a w→m=some r→wpT P ops S ns Q T a w) (h:∀ a,Fr n l a→K a w):G m r n l (wpT P ops S ns Q T) w:=λhe a hf=>hT a w (h a hf) he
end
section
variable {w0 w:World} {hz:kX} {L:List Ch}
theorem Mem.mk1 {c1 c':Ch} (hm:Mem w0 hz w L) (j1:Nat) (h:L[j1]?=some c1) (H:∀ F h,c1.pr F h→c'.pr F h):Mem w0 hz w (L.set j1 c'):=hm.imp j1 h λF=>H F _
theorem Mem.mk2 {c1 c2 c':Ch} (hm:Mem w0 hz w L) (j1 j2:Nat) (h:(decide [j1,j2].Nodup,L[j1]?,L[j2]?)=(true,some c1,some c2)) (H:∀ F1 F2 h,c1.pr F1 h→c2.pr F2 h→(∀ b,F1 b→¬ F2 b)→c'.pr (λb=>F1 b∨F2 b) h):Mem w0 hz w ((L.set j1 c').set j2 xg):=by
 obtain ⟨h0,h1,h2⟩:=t3 h
 have h0:=of_decide_eq_true h0
 simp only [List.nodup_cons,List.mem_singleton,List.not_mem_nil,not_false_eq_true,List.nodup_nil,and_true] at h0
 exact hm.merge j1 j2 h0 h1 h2 λF G=>H F G _
theorem Mem.mk3 {c1 c2 c3 c':Ch} (hm:Mem w0 hz w L) (j1 j2 j3:Nat) (h:(decide [j1,j2,j3].Nodup,L[j1]?,L[j2]?,L[j3]?)=(true,some c1,some c2,some c3))
  (H:∀ F1 F2 F3 h,c1.pr F1 h→c2.pr F2 h→c3.pr F3 h→(∀ b,F1 b→¬ F2 b)→(∀ b,F1 b→¬ F3 b)→(∀ b,F2 b→¬ F3 b)→c'.pr (λb=>F1 b∨F2 b∨F3 b) h):Mem w0 hz w ((((L.set j2 (Go.Wk.both c2 c3)).set j3 xg).set j1 c').set j2 xg):=by
 obtain ⟨h0,h1,h2,h3⟩:=t4 h
 have h0:=of_decide_eq_true h0
 simp only [List.nodup_cons,List.mem_cons,List.mem_singleton,List.not_mem_nil,not_false_eq_true,List.nodup_nil,and_true,not_or,or_false] at h0
 obtain ⟨⟨a1,a2⟩,a3⟩:=h0
 have hl2:j2<L.length:=(lgE.1 h2).1
 have hb:=hm.both j2 j3 a3 h2 h3
 refine Mem.merge (c':=c') hb j1 j2 a1 (c:=c1) (d:=Go.Wk.both c2 c3) ?_ ?_ λF G p1 ⟨F2,F3,g1,g2,g3,p2,p3⟩ hd=>c'.mono _ _ _ (H F F2 F3 _ p1 p2 p3 (λb hb h=>hd b hb (g1 b h)) (λb hb h=>hd b hb (g2 b h)) g3) λb hb=>by
  rcases hb with hb | hb | hb
  ·exact .inl hb
  ·exact .inr (g1 b hb)
  ·exact .inr (g2 b hb)
 ·rw [List.getElem?_set_ne (Ne.symm a2),List.getElem?_set_ne (Ne.symm a1)];exact h1
 ·rw [List.getElem?_set_ne (Ne.symm a3),List.getElem?_set_self hl2]
end
def ix:Nat→List Value→Env
 | _,[]=>[]
 | i,v::r=>(i,v)::ix (i+1) r
theorem bc3:∀ {k:Nat} {args:List Value} {t:Nat} {v:Value},lk (ix k args) t=some v→∃ j,t=k+j∧args[j]?=some v
 | k,[],t,v,h=>by cases h
 | k,u::r,t,v,h=>by
  simp only [ix,lk] at h
  by_cases e:Nat.beq k t=true
  ·rw [e] at h
   simp only [cond_true,osI] at h
   exact ⟨0,(Nat.eq_of_beq_eq_true e).symm,by simpa using h⟩
  ·rw [Bool.not_eq_true] at e;rw [e] at h
   obtain ⟨j,h1,h2⟩:=bc3 (k:=k+1) (args:=r) h
   exact ⟨j+1,by omega,by simpa using h2⟩
section
variable {ρ:Type} {m:Option ρ} {r pay:ρ} {P:Program} {n:Nat} {l:Env} {w w0:World} {hz:kX} {L:List Ch} {c:Code} {fn:Func} {f:FuncId} {args:List Value} {v v1 v2 v3 v4:Value} {t u1 u2 u3 u4:Nat}
variable {R:ρ→Value→World→Prop} {X:ρ→List PanicEntry→World→Prop}
theorem pO (hf:P.funcs[f]?=some fn) (h:(fn.body,fn.ntmps,Nat.ble args.length n)=(some c,n,true)) (hq:m=some r) (k:G m r n (ix 0 args) (c.wk P (bodyPost P fn (Rt (Jr R r)))) w):Con P f args w (R r) :=
 az8 hf (t3 h).1 (t3 h).2.1 (λt v ht=>by obtain ⟨j,h1,h2⟩:=bc3 ht;rw [h1,Nat.zero_add];exact h2) (t3 h).2.2 λa ha=>k hq a ha
theorem mR (hf:P.funcs[f]?=some fn) (h:(fn.body,fn.ntmps,Nat.ble args.length n)=(some c,n,true)) (k:∀ r,G m r n (ix 0 args) (c.wk P (bodyPost P fn (Rt (Jr R r)))) w):mE P f args w m R:=λr hq=>pO (R:=R) hf h hq (k r)
theorem gre (hr:fn.results=#[]) (h:R pay (.tuple #[]) w):G (some pay) r n l (bodyPost P fn (Rt (Jr R r)) .normal) w:=λhe a hf=>by
 obtain rfl:=Option.some.inj he
 exact br4 hf hr h
theorem gr1 (hr:fn.results=#[.tmp t]) (ht:lk l t=some v) (h:R pay v w):G (some pay) r n l (bodyPost P fn (Rt (Jr R r)) .ret) w:=λhe a hf=>by
 obtain rfl:=Option.some.inj he
 exact bq0 hf hr ht h
theorem gr2 (hr:fn.results=#[.tmp u1,.tmp u2]) (ht:(lk l u1,lk l u2)=(some v1,some v2)) (h:R pay (.tuple #[v1,v2]) w):G (some pay) r n l (bodyPost P fn (Rt (Jr R r)) .ret) w:=λhe a hf=>by
 obtain rfl:=Option.some.inj he
 exact bi4 hf hr (t2_ ht).1 (t2_ ht).2 h
theorem gr3 (hr:fn.results=#[.tmp u1,.tmp u2,.tmp u3]) (ht:(lk l u1,lk l u2,lk l u3)=(some v1,some v2,some v3)) (h:R pay (.tuple #[v1,v2,v3]) w):G (some pay) r n l (bodyPost P fn (Rt (Jr R r)) .ret) w:=λhe a hf=>by
 obtain rfl:=Option.some.inj he
 exact bc2 hf hr (t3 ht).1 (t3 ht).2.1 (t3 ht).2.2 h
theorem gr4 (hr:fn.results=#[.tmp u1,.tmp u2,.tmp u3,.tmp u4]) (ht:(lk l u1,lk l u2,lk l u3,lk l u4)=(some v1,some v2,some v3,some v4)) (h:R pay (.tuple #[v1,v2,v3,v4]) w):G (some pay) r n l (bodyPost P fn (Rt (Jr R r)) .ret) w:=λhe a hf=>by
 obtain rfl:=Option.some.inj he
 exact bc7 hf hr (t4 ht).1 (t4 ht).2.1 (t4 ht).2.2.1 (t4 ht).2.2.2 h
theorem grc {b T ty:Nat} {cs:List Value} (k:Nat) (hr:fn.results=#[.cell t ty]) (hm:Mem w0 hz w L) (hk:(L[k]?,lk l t)=(some (blk b cs T),some (.pointer (some ⟨b,0,none⟩)))) (hg:∀ w,(isAgg ty).run P w=.ok true w) (hs:∀ w,(sizeOf ty).run P w=.ok cs.length w) (h:R pay (.agg cs.toArray) w):G (some pay) r n l (bodyPost P fn (Rt (Jr R r)) .ret) w:=λhe a hf=>by
 obtain rfl:=Option.some.inj he
 exact bb5 k hf hr hm (t2_ hk).1 (t2_ hk).2 hg hs h
theorem cb6 {b T ty:Nat} {cs:List Value} (k:Nat) (hr:fn.results=#[.cell t ty,.tmp u2]) (hm:Mem w0 hz w L) (hk:(L[k]?,lk l t,lk l u2)=(some (blk b cs T),some (.pointer (some ⟨b,0,none⟩)),some v2)) (hg:∀ w,(isAgg ty).run P w=.ok true w) (hs:∀ w,(sizeOf ty).run P w=.ok cs.length w) (h:R pay (.tuple #[.agg cs.toArray,v2]) w):G (some pay) r n l (bodyPost P fn (Rt (Jr R r)) .ret) w:=λhe a hf=>by
 obtain rfl:=Option.some.inj he
 exact af9 k hf hr hm (t3 hk).1 (t3 hk).2.1 hg hs (t3 hk).2.2 h
end
end Go.Wk
namespace Go.Wk
open Go
section
variable {α S X:Type}
def cc8 (g:Int→α→S→Option (S ⊕ X)):List α→Int→S→Option (S ⊕ X)
 | [],_,s=>some (.inl s)
 | x::r,i,s=>match g i x s with
  | none=>none
  | some (.inl s')=>cc8 g r (i+1) s'
  | some (.inr y)=>some (.inr y)
def cf1 (p:Int→α→Bool):List α→Int→Bool
 | [],_=>true
 | x::r,i=>p i x&&cf1 p r (i+1)
end
def inB (n lo hi:Int):Bool:=decide (lo≤n)&&decide (n≤hi)
theorem oJ {n lo hi:Int}:inB n lo hi=true↔lo≤n∧n≤hi:=by simp [inB]
section
variable {α:Type}
theorem toList (f:α→Option α) {z:α} {xs:List α} {body:Int→List α→Option (List α ⊕ Empty)} (hl:xs.length≤2147483648) (hf:∀ x∈xs,f x=some x)
  (hb:∀ (l:List α) x r s,xs=l++x::r→body (l.length:Int) s=Option.bind (f x) λr1=>Option.bind (kn s (l.length:Int)) λ_=>some (.inl (s.set ((l.length:Int)).toNat r1))) :
  Option.bind (aj7 z (xs.length:Int)) (λys=>Option.bind (forN body ((xs.length:Int) - 0).toNat 0 ys) (Sum.elim (λx=>some x) (λ(e0:Empty)=>nomatch e0)))=some xs:=by
 rw [ai0 (by omega) (by omega),obS,Int.toNat_natCast]
 have:=am3 (xs:=xs) (X:=Empty) (z:=z) (body:=body) id (λl x r ys h hlt=>by
  rw [hb l x r ys h,hf x (by rw [h];simp),obS,ar5 (by omega) (by omega)]
  rfl)
 rw [this]
 simp
end
end Go.Wk
