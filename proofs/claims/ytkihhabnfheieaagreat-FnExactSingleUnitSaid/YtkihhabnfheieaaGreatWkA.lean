/- A part of a proof: general laws of walks, no statement of the seat. -/
import Derived.WalkKit
import Derived.OrdersIn
import Derived.TacticsIn
import Derived.Scope
import Derived.OrdersHeld
import Derived.WalkSpells
namespace Go.Wk
open Go Go.RowKit
def zA (o:Oper):Bool:=match o.op with
 | .defer _=>false
 | _=>true
def xP:Code->Bool
 | .region _ ops _=>ops.toList.all zA
 | .seq x y=>xP x&&xP y
 | .cond _ x y=>xP x&&xP y
 | .block _ x=>xP x
 | .loop x=>xP x
 | .skip=>true
 | .exit _=>true
 | .label _=>true
 | _=>false
abbrev wr (l:Nat):Fence:=Fence.wide.inRound l
end Go.Wk
namespace Go
open Go Go.RowKit Go.Wk
def Act.up (ds:List Deferred) (a:Act):Act:={ a with defers:=a.defers++ds }
def Qup (ds:List Deferred) (Q:Exit->Act->World->Prop) (e:Exit) (M:Act) (w:World):Prop:=∃ a,M=a.up ds/\Q e a w
def Code.wk (P:Program) (c:Code) (Q:Exit->Act->World->Prop) (a:Act) (w:World):Prop :=
 ∀ ds,c.wp P (Qup ds Q) (a.up ds) w/\(xP c=true->¬ LetsOut Q->∀ l n,c.wpIn (wr l) n P (Qup ds Q) (a.up ds) w)
end Go
namespace Go.Wk
open Go Go.RowKit
variable {P:Program} {Q Q':Exit->Act->World->Prop} {a:Act} {w:World} {c x y:Code} {ds:List Deferred}
theorem cc6 (a:Act):a.up []=a:=by simp [Act.up]
theorem yk (a:Act) (d:Option Tmp) (v:Value):(a.up ds).put d v=(a.put d v).up ds:=by cases d<;>rfl
theorem ah6 (a:Act):(a.up ds).eval=a.eval:=funext λx=>by cases x<;>rfl
theorem av0 {K:Act->World->Prop}:LetsOut (Exit.then K Q)->LetsOut Q:=λ⟨a,w,h⟩=>⟨a,w,h⟩
theorem ba2 (h:LetsOut Q):LetsOut (Qup ds Q):=let ⟨a,w,h⟩:=h;⟨a.up ds,w,a,rfl,h⟩
theorem ae8:LetsOut (Qup ds Q)->LetsOut Q:=λ⟨_,w,a,_,h⟩=>⟨a,w,h⟩
theorem db6 (h:c.wk P Q a w):c.wp P Q a w:=by
 have:=(h []).1;rw [cc6] at this;exact Code.wp_mono (λe _ w' ⟨_,h1,h2⟩=>by rw [cc6] at h1;subst h1;exact h2) this
theorem _root_.Go.Code.wk_mono (N:∀ e a w,Q e a w->Q' e a w) (h:c.wk P Q a w):c.wk P Q' a w:=λds =>
 ⟨Code.wp_mono (λe _ w ⟨M,h1,h2⟩=>⟨M,h1,N e M w h2⟩) (h ds).1,
  λhn W l n=>Code.wpIn_mono (λe _ w ⟨M,h1,h2⟩=>⟨M,h1,N e M w h2⟩) ((h ds).2 hn (λ⟨a,w,O⟩=>W ⟨a,w,N _ _ _ O⟩) l n)⟩
theorem ct2 (h:x.wk P (Exit.then (y.wk P Q) Q) a w):(Code.seq x y).wk P Q a w:=by
 intro ds;constructor
 ·refine wp_seq (Code.wp_mono ?_ (h ds).1);rintro e W w ⟨M,h1,h⟩;cases e<;>first | (subst h1;exact (h ds).1) | exact ⟨M,h1,h⟩
 ·intro N O l n;simp only [xP,Bool.and_eq_true] at N;refine wpIn_seq (Code.wpIn_mono ?_ ((h ds).2 N.1 (λh=>O (av0 h)) l n));rintro e W w ⟨M,h1,h⟩;cases e<;>first | (subst h1;exact (h ds).2 N.2 O l n) | exact ⟨M,h1,h⟩
theorem bs0 {o:Operand} {t:Bool} (hc:a.eval o=.bool t) (h:(if t then x else y).wk P Q a w):(Code.cond o x y).wk P Q a w:=by
 intro ds;refine ⟨wp_cond (by rw [ah6];exact hc) (h ds).1,?_⟩;intro M N l n;simp only [xP,Bool.and_eq_true] at M;refine wpIn_cond (by rw [ah6];exact hc) ((h ds).2 ?_ N l n);cases t
 ·exact M.2
 ·exact M.1
theorem bh2 {id:Nat} {e:Exit} {a:Act} {w:World} (h:Qup ds (Exit.inBlock id Q) e a w):Exit.inBlock id (Qup ds Q) e a w:=by
 obtain ⟨M,h1,h2⟩:=h;cases e with
 | exit i =>
  unfold Exit.inBlock at h2 ⊢;by_cases hi:i=id
  ·simp only [hi,if_true] at h2 ⊢;exact ⟨M,h1,h2⟩
  ·simp only [hi,if_false] at h2 ⊢;exact ⟨M,h1,h2⟩
 | _=>exact ⟨M,h1,h2⟩
theorem ch3 {id:Nat} (h:c.wk P (Exit.inBlock id Q) a w):(Code.block id c).wk P Q a w:=λds =>
 ⟨wp_block (Code.wp_mono (λ_ _ _ h=>bh2 h) (h ds).1),λN M l n=>wpIn_block (Code.wpIn_mono (λ_ _ _ h=>bh2 h) ((h ds).2 N (λ⟨a,w,h⟩=>M ⟨a,w,h⟩) l n))⟩
theorem cp0 (h:Q .normal a w):Code.skip.wk P Q a w:=λ_=>⟨wp_skip ⟨a,rfl,h⟩,λ_ _ _ _=>wpIn_skip ⟨a,rfl,h⟩⟩
theorem cn4 {id:Nat} (h:Q (.exit id) a w):(Code.exit id).wk P Q a w:=λ_=>⟨wp_exit ⟨a,rfl,h⟩,λ_ _ _ _=>wpIn_exit ⟨a,rfl,h⟩⟩
theorem cu3 (h:Q .ret a w):Code.ret.wk P Q a w:=λ_=>⟨wp_ret ⟨a,rfl,h⟩,λM=>by cases M⟩
theorem cr1 (I:Act->World->Prop) (μ:Act->World->Nat) (h₀:I a w)
  (N:∀ a w,I a w->c.wk P (Exit.then (λM w'=>I M w'/\μ M w'<μ a w) Q) a w):(Code.loop c).wk P Q a w:=by
 refine λds=>?_
 let dn:Act->Act:=λa=>{ a with defers:=a.defers.take (a.defers.length - ds.length) }
 have W:∀ a:Act,dn (a.up ds)=a:=λa=>by simp [dn,Act.up]
 refine ⟨wp_loop (λM w=>∃ a,M=a.up ds/\I a w) (λM w=>μ (dn M) w) ⟨a,rfl,h₀⟩ ?_,λhn hl l n=>wpIn_loop (λM w=>∃ a,M=a.up ds/\I a w) (λM w=>μ (dn M) w) ⟨a,rfl,h₀⟩ ?_⟩
 ·rintro _ w ⟨a,rfl,hi⟩;refine Code.wp_mono (λe M w' ⟨O,h1,h2⟩=>?_) (N a w hi ds).1;cases e<;>first | (subst h1;exact ⟨⟨O,rfl,h2.1⟩,by simp only [W];exact h2.2⟩) | exact ⟨O,h1,h2⟩
 ·rintro _ w ⟨a,rfl,hi⟩;refine Code.wpIn_mono (λe M w' ⟨O,h1,h2⟩=>?_) ((N a w hi ds).2 hn (λh=>hl (av0 h)) l n);cases e<;>first | (subst h1;exact ⟨⟨O,rfl,h2.1⟩,by simp only [W];exact h2.2⟩) | exact ⟨O,h1,h2⟩
theorem be3 (J:Nat->Act->World->Prop) {m:Nat} (h0:J m a w)
  (O:∀ m a w,J m a w->c.wk P (Exit.then (λa' w'=>∃ m',m'<m/\J m' a' w') Q) a w):(Code.loop c).wk P Q a w:=by
 have N:∀ a w,(∃ m,J m a w)->∃ m,J m a w/\∀ k,J k a w->m<=k:=by
  rintro a w ⟨m,hm⟩
  induction m using Nat.strongRecOn with
  | _ m ih =>
   by_cases h:∃ k,k<m/\J k a w
   ·obtain ⟨k,hk,W⟩:=h;exact ih k hk W
   ·exact ⟨m,hm,λk hk=>Nat.le_of_not_lt λM=>h ⟨k,M,hk⟩⟩
 refine cr1 (λa w=>∃ m,J m a w) (λa w=>open Classical in if h:∃ m,J m a w then (N a w h).choose else 0) ⟨m,h0⟩ ?_;intro a w hI;have h1:=(N a w hI).choose_spec;refine Code.wk_mono (λe a' w' h=>?_) (O _ a w h1.1);cases e with
 | normal =>
  obtain ⟨m',M,W⟩:=h;refine ⟨⟨m',W⟩,?_⟩;rw [dif_pos ⟨m',W⟩,dif_pos hI];exact Nat.lt_of_le_of_lt ((N a' w' ⟨m',W⟩).choose_spec.2 m' W) M
 | _=>exact h
theorem bs9 {o:Oper} {K:Act->World->Prop} (hh:o.wp P a w K Q):o.wp P (a.up ds) w (λN w=>∃ M,N=M.up ds/\K M w) (Qup ds Q):=by
 unfold Oper.wp at *;rw [ah6]
 revert hh
 generalize (execOp a.eval o).run P w=r
 intro hh;cases r with
 | ok v w' =>
  cases v with
  | value v=>exact ⟨_,yk _ _ _,hh⟩
  | skip=>exact ⟨_,yk _ _ _,hh⟩
  | defer d=>exact ⟨_,by rw [<- yk];rfl,hh⟩
  | enter f args =>
   refine Calls.mono hh (λe w h=>?_);cases e with
   | returned v=>exact ⟨_,yk _ _ _,h⟩
   | panicked O=>exact ⟨a,rfl,h⟩
   | outgrown=>exact ba2 h
  | row r args=>exact Rows.mono hh (λv w h=>⟨_,yk _ _ _,h⟩)
  | _=>exact hh.elim
 | halt s w' =>
  cases s<;>first | exact ⟨a,rfl,hh⟩ | exact hh.elim
theorem bt6 {o:Oper} (h:o.asks P a w):o.asks P (a.up ds) w:=by
 unfold Oper.asks at *;rw [ah6];exact h
theorem bq4 {o:Oper} {K:Act->World->Prop} (M:zA o=true) (hh:o.wp P a w K Q) (l n:Nat):o.wpIn (wr l) n P a w K Q:=by
 refine ⟨λ_ _=>trivial,?_⟩;have e:o.semAt (some l) a.eval=execOp a.eval o:=Oper.semAt_eq _ _ _ (λc hc=>by simp [zA,hc] at M);show o.uponIn (wr l) n P a K Q ((o.semAt (some l) a.eval).run P w);rw [e];unfold Oper.wp at hh
 revert hh
 generalize (execOp a.eval o).run P w=r
 intro hh;cases r with
 | ok v w' =>
  cases v with
  | value v=>exact hh
  | skip=>exact hh
  | defer d=>exact hh
  | enter f args=>exact ⟨λh=>by simp [wr,Fence.wide] at h,(callsIn_wide (n:=n - 1)).2 hh⟩
  | row r args =>
   refine ⟨λh=>by simp [wr,Fence.wide] at h,λc cs _=>?_⟩;obtain ⟨v,w',N,hs⟩:=hh c cs;exact ⟨v,w',N,stepsIn_wide.2 hs⟩
  | _=>exact hh.elim
 | halt s w' =>
  cases s<;>first | exact hh | exact hh.elim
theorem ab0 {ops:Array Oper} (N:¬ LetsOut Q) (l n:Nat):∀ (os:List Oper),os.all zA=true->∀ a w,wpList P ops Q os a w->wpListIn (wr l) n P ops Q os a w
 | [],_,_,_,h=>h
 | o::os,hn,a,w,h=>by
  simp only [List.all_cons,Bool.and_eq_true] at hn;unfold wpList at h;unfold wpListIn;split
  ·rename_i M;rw [if_pos M] at h;rcases h with h | h
   ·exact bq4 hn.1 (Oper.wp_mono (λa w h=>ab0 N l n os hn.2 a w h) h) l n
   ·exact absurd h.2 N
  ·rename_i M;rw [if_neg M] at h;exact ⟨λ_ _=>trivial,ab0 N l n os hn.2 _ _ h⟩
theorem yD {ops:Array Oper}:∀ (os:List Oper) a w,wpList P ops Q os a w->wpList P ops (Qup ds Q) os (a.up ds) w
 | [],a,_,h=>⟨a,rfl,h⟩
 | o::os,a,w,h=>by
  unfold wpList at h ⊢;show if Region.wanted o (yielded ops a.tmps)=true then _ else _
  split
  ·rename_i M;rw [if_pos M] at h;exact h.imp (λh=>Oper.wp_mono (λ_ w ⟨N,h1,h2⟩=>by subst h1;exact yD os N w h2) (bs9 h)) (λh=>⟨bt6 h.1,ba2 h.2⟩)
  ·rename_i M;rw [if_neg M] at h;rw [yk];exact yD os _ w h
theorem au3 {id:Nat} {os:List Oper} (h:wpList P os.toArray Q os a w):(Code.region id os.toArray false).wk P Q a w:=λds =>
 ⟨wp_region_lit (yD os a w h),λN M l n=>wpIn_region_lit (ab0 (λh=>M (ae8 h)) l n os (by simpa [xP] using N) _ w (yD os a w h))⟩
theorem cn7 {ops:Array Oper} (hl:¬ LetsOut Q) (l n:Nat) (hn:ops.toList.all zA=true) {i:Nat} {K K':Act->World->Prop} (W:∀ a w,K a w->K' a w) (h:wpOp P ops Q i K a w):wpOpIn (wr l) n P ops Q i K' a w:=by
 unfold wpOp at h;unfold wpOpIn;cases M:ops[i]? with
 | none=>rw [M] at h;exact W _ _ h
 | some o =>
  rw [M] at h;simp only at h ⊢
  have O:zA o=true:=by
   rw [<- Array.getElem?_toList] at M;exact List.all_eq_true.1 hn o (List.mem_of_getElem? M)
  split
  ·rename_i N;rw [if_pos N] at h;rcases h with h | h
   ·exact bq4 O (Oper.wp_mono W h) l n
   ·exact absurd h.2 hl
  ·rename_i N;rw [if_neg N] at h;exact ⟨λ_ _=>trivial,W _ _ h⟩
theorem be5 {md:Region.Mode} {ops:Array Oper} (M:¬ LetsOut Q) (l n:Nat) (N:ops.toList.all zA=true):∀ (k:Nat) (s:Array Bool) a w,wpAny P md ops Q k s a w->wpAnyIn (wr l) n P md ops Q k s a w
 | 0,_,_,_,h=>h
 | k+1,s,_,_,h=>⟨h.1,λi hi=>cn7 M l n N (λa w h=>be5 M l n N k _ a w h) (h.2 i hi)⟩
theorem cq3 {ops:Array Oper} {i:Nat} {K K':Act->World->Prop} (N:∀ a w,K a w->K' (a.up ds) w) (h:wpOp P ops Q i K a w):wpOp P ops (Qup ds Q) i K' (a.up ds) w:=by
 unfold wpOp at h ⊢;cases O:ops[i]? with
 | none=>rw [O] at h;exact N _ _ h
 | some o =>
  rw [O] at h;simp only at h ⊢;show if Region.wanted o (yielded ops a.tmps)=true then _ else _
  split
  ·rename_i M;rw [if_pos M] at h;exact h.imp (λh=>Oper.wp_mono (λ_ w ⟨W,h1,h2⟩=>by subst h1;exact N W w h2) (bs9 h)) (λh=>⟨bt6 h.1,ba2 h.2⟩)
  ·rename_i M;rw [if_neg M] at h;rw [yk];exact N _ w h
theorem al0 {md:Region.Mode} {ops:Array Oper}:∀ (k:Nat) (s:Array Bool) a w,wpAny P md ops Q k s a w->wpAny P md ops (Qup ds Q) k s (a.up ds) w
 | 0,_,a,_,h=>⟨h.1,a,rfl,h.2⟩
 | k+1,s,a,_,h=>⟨λe=>⟨a,rfl,h.1 e⟩,λi hi=>cq3 (λa w h=>al0 k _ a w h) (h.2 i hi)⟩
theorem at7 {id:Nat} {ops:Array Oper} (M:P.follows .mixedOrders=true)
  (h:wpAny P .any ops Q ops.size (Array.replicate ops.size false) a { w with drawn:=w.drawn+1 }):(Code.region id ops true).wk P Q a w:=λds =>
 ⟨wp_region_any M (al0 _ _ a _ h),λN O l n=>wpIn_region_any M (be5 (λh=>O (ae8 h)) l n (by simpa [xP] using N) _ _ _ _ (al0 _ _ a _ h))⟩
theorem ca3 {f:FuncId} {fn:Func} {args:Array Value} {R:Ending->World->Prop} (M:P.funcs[f]?=some fn) (hb:fn.body=some c)
  (h:c.wk P (bodyPost P fn R) { tmps:=args++Array.replicate (fn.ntmps - args.size) undef,defers:=[] } w):Calls P f args w R:=calls_of_wp M hb (db6 h)
end Go.Wk
namespace Go.Wk
open Go Go.RowKit
abbrev Env:=List (Nat × Value)
def lk:Env->Nat->Option Value
 | [],_=>none
 | (k,v)::r,t=>bif Nat.beq k t then some v else lk r t
structure Fr (n:Nat) (l:Env) (a:Act):Prop where
 size:a.tmps.size=n
 defers:a.defers=[]
 get:∀ t v,lk l t=some v->a.tmps[t]?=some v
section
variable {n:Nat} {l l':Env} {a:Act} {d:Nat} {v:Value} {x:Operand}
theorem Fr.put (h:Fr n l a) (O:Nat.blt d n=true):Fr n ((d,v)::l) (a.put (some d) v):=by
 have N:d<n:=by simpa [Nat.blt_eq] using O
 refine ⟨by simp [Act.put,h.size],h.defers,λt u M=>?_⟩;simp only [lk] at M;by_cases e:d=t
 ·subst e;simp at M;subst M;simp [Act.put,h.size,N]
 ·have:Nat.beq d t=false:=by
   cases hb:Nat.beq d t with
   | false=>rfl
   | true=>exact absurd (Nat.eq_of_beq_eq_true hb) e
  rw [this] at M;simp only [cond_false] at M;have:=h.get t u M;simp [Act.put,e,this]
theorem Fr.put_none (h:Fr n l a):Fr n l (a.put none v):=h
def ev (l:Env):Operand->Option Value
 | .tmp t=>lk l t
 | .const v=>some v
 | .global g=>some (.pointer (some ⟨g,0,none⟩))
 | .func f=>some (.func (.func f) #[] #[])
theorem Fr.eval (h:Fr n l a) (M:ev l x=some v):a.eval x=v:=by
 cases x with
 | tmp t=>simp only [ev] at M;have:=h.get t v M;simp [Act.eval,Array.getD_eq_getD_getElem?,this]
 | const u=>simp only [ev,Option.some.injEq] at M;exact M
 | global g=>simp only [ev,Option.some.injEq] at M;exact M
 | func f=>simp only [ev,Option.some.injEq] at M;exact M
def Sub:Env->Env->Prop
 | [],_=>True
 | p::r,l=>lk l p.1=some p.2/\Sub r l
theorem Sub.get:∀ {l' l:Env},Sub l' l->∀ t v,lk l' t=some v->lk l t=some v
 | [],_,_,_,_,h=>by simp [lk] at h
 | p::r,l,⟨h1,h2⟩,t,v,h=>by
  simp only [lk] at h;by_cases e:Nat.beq p.1 t=true
  ·rw [e] at h;simp only [cond_true,Option.some.injEq] at h;rw [<- Nat.eq_of_beq_eq_true e,<- h];exact h1
  ·rw [Bool.not_eq_true] at e;rw [e] at h;exact Sub.get h2 t v h
theorem Fr.sub (h:Fr n l a) (hs:Sub l' l):Fr n l' a:=⟨h.size,h.defers,λt v M=>h.get t v (hs.get t v M)⟩
theorem Fr.start {args:Array Value} {k:Nat} (O:args.size+k=n) (M:∀ t v,lk l t=some v->args[t]?=some v):Fr n l { tmps:=args++Array.replicate k undef,defers:=[] }:=by
 refine ⟨by simp [O],rfl,λt v N=>?_⟩;have h:=M t v N
 have:t<args.size:=by
  rcases Nat.lt_or_ge t args.size with h' | h'
  ·exact h'
  ·simp [Array.getElem?_eq_none h'] at h
 rw [Array.getElem?_append_left this];exact h
end
def Yl (P:Program) (l:Env) (w:World) (o:Oper) (v:Value):Prop:=∀ n a,Fr n l a->(execOp a.eval o).run P w=.ok (.value v) w
section
variable {P:Program} {ops:Array Oper} {Q:Exit->Act->World->Prop} {a:Act} {w:World} {rest:List Oper} {o:Oper} {n:Nat} {l:Env} {d:Nat} {v:Value}
theorem bg2 (M:o.guard=none):Region.wanted o (yielded ops a.tmps)=true:=by simp [Region.wanted,M]
theorem ae4 {j M:Nat} {b c:Bool} (N:Fr n l a) (hg:o.guard=some (j,b)) (O:(ops[j]?).bind (·.dst)=some M) (W:lk l M=some (.bool c)) :
  Region.wanted o (yielded ops a.tmps)=(c == b):=by
 simp only [Region.wanted,hg,yielded,O,Option.bind_some,N.get M _ W];cases b<;>cases c<;>rfl
theorem ad1 (M:Region.wanted o (yielded ops a.tmps)=true) (h:o.wp P a w (wpList P ops Q rest) Q):wpList P ops Q (o::rest) a w:=by
 unfold wpList;rw [if_pos M];exact .inl h
theorem ck2 (M:Fr n l a) (N:Yl P l w o v) {K:Act->World->Prop} (h:K (a.put o.dst v) w):o.wp P a w K Q:=by
 unfold Oper.wp;rw [N n a M];exact h
theorem bk8 (h:Q .normal a w):wpList P ops Q [] a w:=h
variable {x y c:Operand} {vx vy:Value}
theorem cv1 (O:o.op=.move x) (N:ev l x=some v):Yl P l w o v:=λn a M=>by simp [execOp,O,M.eval N]
theorem ch4 (O:o.op=.assign x) (N:ev l x=some v):Yl P l w o v:=λn a M=>by simp [execOp,O,M.eval N]
theorem ck0 (O:o.op=.pick c x y) (hc:ev l c=some (.bool true)) (N:ev l x=some v):Yl P l w o v:=λn a M=>by
 simp [execOp,O,M.eval hc,M.eval N,asBool]
theorem ck5 (O:o.op=.pick c x y) (hc:ev l c=some (.bool false)) (N:ev l y=some v):Yl P l w o v:=λn a M=>by
 simp [execOp,O,M.eval hc,M.eval N,asBool]
theorem db2 {b:Bool} {t:TypeId} (O:o.op=.unOp .not t x) (N:ev l x=some (.bool b)):Yl P l w o (.bool (!b)):=λn a M=>by
 simp [execOp,O,M.eval N,Op.unary]
theorem bv9 {i:Nat} {vs:Array Value} (O:o.op=.extract x i) (N:ev l x=some (.tuple vs)) (hv:vs[i]?=some v):Yl P l w o v:=λn a M=>by
 simp [execOp,O,M.eval N,Instr.extract,hv]
section
variable {t t':TypeId} {k:IntKind} {i j:Int}
theorem ck3 (O:o.op=.binOp .add t x y t') (W:ev l x=some (.int k i)) (N:ev l y=some (.int k j)):Yl P l w o (.int k (k.wrap (i+j))):=λn a M=>by
 simp [execOp,O,M.eval W,M.eval N,binOp,eqGuard,Op.intArith]
theorem ci1 (O:o.op=.binOp .sub t x y t') (W:ev l x=some (.int k i)) (N:ev l y=some (.int k j)):Yl P l w o (.int k (k.wrap (i - j))):=λn a M=>by
 simp [execOp,O,M.eval W,M.eval N,binOp,eqGuard,Op.intArith]
theorem cr9 (O:o.op=.binOp .mul t x y t') (W:ev l x=some (.int k i)) (N:ev l y=some (.int k j)):Yl P l w o (.int k (k.wrap (i*j))):=λn a M=>by
 simp [execOp,O,M.eval W,M.eval N,binOp,eqGuard,Op.intArith]
theorem cz3 (O:o.op=.binOp .lss t x y t') (W:ev l x=some (.int k i)) (N:ev l y=some (.int k j)):Yl P l w o (.bool (decide (i<j))):=λn a M=>by
 simp [execOp,O,M.eval W,M.eval N,binOp,eqGuard,Op.intCmp]
theorem dc2 (O:o.op=.binOp .leq t x y t') (W:ev l x=some (.int k i)) (N:ev l y=some (.int k j)):Yl P l w o (.bool (decide (i<=j))):=λn a M=>by
 simp [execOp,O,M.eval W,M.eval N,binOp,eqGuard,Op.intCmp]
theorem cz5 (O:o.op=.binOp .gtr t x y t') (W:ev l x=some (.int k i)) (N:ev l y=some (.int k j)):Yl P l w o (.bool (decide (j<i))):=λn a M=>by
 simp [execOp,O,M.eval W,M.eval N,binOp,eqGuard,Op.intCmp]
theorem cz1 (O:o.op=.binOp .geq t x y t') (W:ev l x=some (.int k i)) (N:ev l y=some (.int k j)):Yl P l w o (.bool (decide (j<=i))):=λn a M=>by
 simp [execOp,O,M.eval W,M.eval N,binOp,eqGuard,Op.intCmp]
theorem da9 (O:o.op=.binOp .eql t x y t') (W:ev l x=some (.int k i)) (N:ev l y=some (.int k j)):Yl P l w o (.bool (decide (i=j))):=λn a M=>by
 simp [execOp,O,M.eval W,M.eval N,binOp,eqGuard,Op.intCmp];rfl
theorem db4 (O:o.op=.binOp .neq t x y t') (W:ev l x=some (.int k i)) (N:ev l y=some (.int k j)):Yl P l w o (.bool (decide (i≠j))):=λn a M=>by
 simp [execOp,O,M.eval W,M.eval N,binOp,eqGuard,Op.intCmp];rfl
end
end
end Go.Wk
namespace Go.Wk
open Go Go.RowKit
abbrev kR:=Nat->Option Obj
def hp (w:World):kR:=λb=>w.heap[b]?
def kR.le (h h':kR):Prop:=∀ b o,h b=some o->h' b=some o
theorem kR.le_refl (h:kR):kR.le h h:=λ_ _ h=>h
theorem kR.le_trans {a b c:kR} (h:kR.le a b) (k:kR.le b c):kR.le a c:=λx o M=>k x o (h x o M)
def kS (h:kR) (b o:Nat) (cs:List Value):Prop :=
 ∃ C T M,h b=some (.cells C T M)/\∀ (j:Nat) (v:Value),cs[j]?=some v->C[o+j]?=some v
theorem kS.mono {h h':kR} {b o:Nat} {cs:List Value} (hh:kR.le h h') (hc:kS h b o cs):kS h' b o cs :=
 let ⟨C,T,fz,h1,h2⟩:=hc
 ⟨C,T,fz,hh _ _ h1,h2⟩
theorem kS.cell {w:World} {b o j:Nat} {cs:List Value} {v:Value} (hc:kS (hp w) b o cs) (M:cs[j]?=some v):w.cell? ⟨b,o+j,none⟩=some v:=by
 obtain ⟨C,T,_,h1,h2⟩:=hc;unfold hp at h1;simp [World.cell?,h1,h2 j v M]
theorem kS.sub {h:kR} {b o:Nat} {cs ds:List Value} {k:Nat} (hc:kS h b o cs) (O:∀ (j:Nat) (v:Value),ds[j]?=some v->cs[k+j]?=some v):kS h b (o+k) ds:=by
 obtain ⟨C,T,M,h1,h2⟩:=hc;exact ⟨C,T,M,h1,λj v N=>by rw [Nat.add_assoc];exact h2 _ _ (O j v N)⟩
def seg (C:Array Value) (o n:Nat):List Value:=(C.toList.drop o).take n
theorem nP {C:Array Value} {o n j:Nat} (M:j<n):(seg C o n)[j]?=C[o+j]?:=by
 simp [seg,List.getElem?_take,M,List.getElem?_drop]
theorem xq {C:Array Value} {o n:Nat} (h:o+n<=C.size):(seg C o n).length=n:=by
 simp [seg];omega
theorem qF {h:kR} {b o n:Nat} {C:Array Value} {T:TypeId} {N:Nat × Nat} (hb:h b=some (.cells C T N)):kS h b o (seg C o n):=by
 refine ⟨C,T,N,hb,λj v M=>?_⟩
 have:j<n:=by
  have:=(List.getElem?_eq_some_iff.1 M).1;simp [seg] at this;omega
 rw [nP this] at M;exact M
class GT (α:Type) where
 sz:Nat
 rep:kR->List Value->α->Prop
 own:(Nat->Prop)->kR->List Value->α->Prop
 len:∀ {h cs x},rep h cs x->cs.length=sz
 mono:∀ {h h' cs x},kR.le h h'->rep h cs x->rep h' cs x
 own_rep:∀ {F h cs x},own F h cs x->rep h cs x
 own_loc:∀ {F h h' cs x},own F h cs x->(∀ b,F b->h' b=h b)->own F h' cs x
 own_mono:∀ {F F' h cs x},(∀ b,F b->F' b)->own F h cs x->own F' h cs x
 one:∀ {h cs x},rep h cs x->∀ v∈cs,v.oneCell'=true
class Flat (α:Type) extends GT α where
 enc:α->List Value
 rep_iff:∀ {h cs x},rep h cs x↔cs=enc x
 own_iff:∀ {F h cs x},own F h cs x↔cs=enc x
abbrev Flat.mk' (α:Type) (n:Nat) (enc:α->List Value) (hl:∀ x,(enc x).length=n) (h1:∀ x,∀ v∈enc x,v.oneCell'=true):Flat α where
 sz:=n
 rep:=λ_ cs x=>cs=enc x
 own:=λ_ _ cs x=>cs=enc x
 len:=λh=>by rw [h];exact hl _
 mono:=λ_ h=>h
 own_rep:=λh=>h
 own_loc:=λh _=>h
 own_mono:=λ_ h=>h
 one:=λh=>by rw [h];exact h1 _
 enc:=enc
 rep_iff:=Iff.rfl
 own_iff:=Iff.rfl
instance:Flat Int:=Flat.mk' Int 1 (λn=>[.int .i64 n]) (λ_=>rfl) (by intro x v hv;simp at hv;subst hv;rfl)
instance:Flat Bool:=Flat.mk' Bool 1 (λb=>[.bool b]) (λ_=>rfl) (by intro x v hv;simp at hv;subst hv;rfl)
instance:Flat UInt8:=Flat.mk' UInt8 1 (λb=>[.int .u8 b.toNat]) (λ_=>rfl) (by intro x v hv;simp at hv;subst hv;rfl)
structure Str where
 b:List UInt8
 h:b.length<=140737488355328
 deriving DecidableEq
def mkS (b:List UInt8) (h:b.length<=140737488355328:=by decide):Str:=⟨b,h⟩
theorem Str.ext' {s t:Str} (h:s.b=t.b):s=t:=by
 cases s;cases t;simp at h;subst h;rfl
instance:Inhabited Str:=⟨mkS []⟩
instance:Flat Str:=Flat.mk' Str 1 (λs=>[.string ⟨s.b.toArray⟩]) (λ_=>rfl) (by intro x v hv;simp at hv;subst hv;rfl)
section
variable {α β:Type} [GT α] [GT β]
instance:GT (α × β) where
 sz:=GT.sz α+GT.sz β
 rep h cs p:=∃ c d,cs=c++d/\GT.rep h c p.1/\GT.rep h d p.2
 own F h cs p:=∃ c d,cs=c++d/\∃ G H,(∀ b,G b->F b)/\(∀ b,H b->F b)/\(∀ b,G b->¬ H b)/\GT.own G h c p.1/\GT.own H h d p.2
 len:=by rintro h cs p ⟨c,d,rfl,h1,h2⟩;simp [GT.len h1,GT.len h2]
 mono:=by rintro h h' cs p hh ⟨c,d,rfl,h1,h2⟩;exact ⟨c,d,rfl,GT.mono hh h1,GT.mono hh h2⟩
 own_rep:=by rintro F h cs p ⟨c,d,rfl,G,H,_,_,_,h1,h2⟩;exact ⟨c,d,rfl,GT.own_rep h1,GT.own_rep h2⟩
 own_loc:=by
  rintro F h h' cs p ⟨c,d,rfl,G,H,g1,g2,g3,h1,h2⟩ hh
  exact ⟨c,d,rfl,G,H,g1,g2,g3,GT.own_loc h1 (λb hb=>hh b (g1 b hb)),GT.own_loc h2 (λb hb=>hh b (g2 b hb))⟩
 own_mono:=by
  rintro F F' h cs p hF ⟨c,d,rfl,G,H,g1,g2,g3,h1,h2⟩
  exact ⟨c,d,rfl,G,H,λb hb=>hF b (g1 b hb),λb hb=>hF b (g2 b hb),g3,h1,h2⟩
 one:=by
  rintro h cs p ⟨c,d,rfl,h1,h2⟩ v hv
  rcases List.mem_append.1 hv with hv | hv
  ·exact GT.one h1 v hv
  ·exact GT.one h2 v hv
abbrev GT.via {α β:Type} [GT β] (f:α->β):GT α where
 sz:=GT.sz β
 rep h cs x:=GT.rep h cs (f x)
 own F h cs x:=GT.own F h cs (f x)
 len:=GT.len (α:=β)
 mono:=GT.mono (α:=β)
 own_rep:=GT.own_rep (α:=β)
 own_loc:=GT.own_loc (α:=β)
 own_mono:=GT.own_mono (α:=β)
 one:=GT.one (α:=β)
end
section
variable {α:Type} [GT α]
def qB (h:kR) (v:Value) (xs:List α):Prop :=
 ((v=.slice none 0 0\/∃ p cap,v=.slice (some p) 0 cap)/\xs=[]) \/
 ∃ b off len cap,v=.slice (some ⟨b,off,none⟩) len cap/\xs.length=len/\len<=cap/\(cap<=maxLen/\len<=140737488355328) /\
  ∀ (i:Nat) (x:α),xs[i]?=some x->∃ cs,kS h b (off+i*GT.sz α) cs/\GT.rep h cs x
def l8 (F:Nat->Prop) (h:kR) (v:Value) (xs:List α):Prop :=
 (v=.slice none 0 0/\xs=[]) \/
 ∃ b off len cap C T,v=.slice (some ⟨b,off,none⟩) len cap/\F b/\h b=some (.cells C T (0,0))/\xs.length=len/\len<=cap/\(cap<=maxLen/\len<=140737488355328) /\
  off+cap*GT.sz α<=C.size/\∃ fps:Nat->Nat->Prop,(∀ i c,fps i c->F c/\c≠b)/\(∀ i j c,i≠j->fps i c->¬ fps j c) /\
  ∀ (i:Nat) (x:α),xs[i]?=some x->GT.own (fps i) h (seg C (off+i*GT.sz α) (GT.sz α)) x
theorem l8.rep {F:Nat->Prop} {h:kR} {v:Value} {xs:List α} (M:l8 F h v xs):qB h v xs:=by
 rcases M with M | ⟨b,off,len,cap,C,T,hv,hF,hb,W,hc,O,N,fps,h1,h2,h3⟩
 ·exact .inl ⟨.inl M.1,M.2⟩
 ·exact .inr ⟨b,off,len,cap,hv,W,hc,O,λi x hx=>⟨_,qF hb,GT.own_rep (h3 i x hx)⟩⟩
instance:GT (List α) where
 sz:=1
 rep h cs xs:=∃ v,cs=[v]/\qB h v xs
 own F h cs xs:=∃ v,cs=[v]/\l8 F h v xs
 len:=by rintro h cs xs ⟨v,rfl,_⟩;rfl
 mono:=by
  rintro h h' cs xs hh ⟨v,rfl,hr⟩;refine ⟨v,rfl,?_⟩;rcases hr with hr | ⟨b,off,len,cap,hv,W,hc,O,h3⟩
  ·exact .inl hr
  ·exact .inr ⟨b,off,len,cap,hv,W,hc,O,λi x hx=>let ⟨cs,c1,c2⟩:=h3 i x hx;⟨cs,c1.mono hh,GT.mono hh c2⟩⟩
 own_rep:=by rintro F h cs xs ⟨v,rfl,M⟩;exact ⟨v,rfl,M.rep⟩
 own_loc:=by
  rintro F h h' cs xs ⟨v,rfl,M⟩ hh;refine ⟨v,rfl,?_⟩;rcases M with M | ⟨b,off,len,cap,C,T,hv,hF,hb,W,hc,O,N,fps,h1,h2,h3⟩
  ·exact .inl M
  ·exact .inr ⟨b,off,len,cap,C,T,hv,hF,(hh b hF).trans hb,W,hc,O,N,fps,h1,h2,λi x hx=>GT.own_loc (h3 i x hx) (λc hc=>hh c (h1 i c hc).1)⟩
 own_mono:=by
  rintro F F' h cs xs a0 ⟨v,rfl,M⟩;refine ⟨v,rfl,?_⟩;rcases M with M | ⟨b,off,len,cap,C,T,hv,hF,hb,W,hc,O,N,fps,h1,h2,h3⟩
  ·exact .inl M
  ·exact .inr ⟨b,off,len,cap,C,T,hv,a0 b hF,hb,W,hc,O,N,fps,λi c hc=>⟨a0 c (h1 i c hc).1,(h1 i c hc).2⟩,h2,h3⟩
 one:=by
  rintro h cs xs ⟨v,rfl,hr⟩ u hu;simp at hu;subst hu;rcases hr with ⟨rfl | ⟨p,cap,rfl⟩,_⟩ | ⟨b,off,len,cap,rfl,_⟩<;>rfl
theorem og {h:kR} {v:Value} {xs:List α}:GT.rep h [v] xs↔qB h v xs:=by
 constructor
 ·rintro ⟨u,N,M⟩;simp at N;subst N;exact M
 ·intro M;exact ⟨v,rfl,M⟩
theorem ke {F:Nat->Prop} {h:kR} {v:Value} {xs:List α}:GT.own F h [v] xs↔l8 F h v xs:=by
 constructor
 ·rintro ⟨u,N,M⟩;simp at N;subst N;exact M
 ·intro M;exact ⟨v,rfl,M⟩
end
structure Ch where
 pr:(Nat->Prop)->kR->Prop
 loc:∀ F h h',pr F h->(∀ b,F b->h' b=h b)->pr F h'
 mono:∀ F F' h,pr F h->(∀ b,F b->F' b)->pr F' h
def blk (b:Nat) (cs:List Value) (T:TypeId):Ch where
 pr F h:=F b/\h b=some (.cells cs.toArray T (0,0))
 loc _ _ _ hp hh:=⟨hp.1,(hh b hp.1).trans hp.2⟩
 mono _ _ _ hp hF:=⟨hF b hp.1,hp.2⟩
def ow {α:Type} [GT α] (cs:List Value) (x:α):Ch where
 pr F h:=GT.own F h cs x
 loc _ _ _ hp hh:=GT.own_loc hp hh
 mono _ _ _ hp hF:=GT.own_mono hF hp
structure tT (w w':World):Prop where
 os:w'.os=w.os
 tape:w'.tape=w.tape
 output:w'.output=w.output
 size:w.heap.size<=w'.heap.size
structure Mem (w0:World) (hz:kR) (w:World) (L:List Ch):Prop where
 same:tT w0 w
 lez:kR.le hz (hp w)
 chs:∃ Fs:Nat->Nat->Prop,(∀ (i:Nat) (c:Ch),L[i]?=some c->c.pr (Fs i) (hp w))/\(∀ i j b,i≠j->Fs i b->¬ Fs j b)/\∀ i b,Fs i b->hz b=none/\b<w.heap.size
section
variable {w0 w w':World} {hz:kR} {L L':List Ch} {c c':Ch}
theorem tT.refl (w:World):tT w w:=⟨rfl,rfl,rfl,Nat.le_refl _⟩
theorem tT.trans {a b c:World} (h:tT a b) (k:tT b c):tT a c:=⟨k.os.trans h.os,k.tape.trans h.tape,k.output.trans h.output,Nat.le_trans h.size k.size⟩
theorem tT.of_below {n:Nat} (h:Below n w w'):tT w w':=⟨h.os,h.tape,h.output,h.size⟩
theorem cg9 {b:Nat} {o:Obj} (h:hp w b=some o):b<w.heap.size:=(Array.getElem?_eq_some_iff.1 h).1
theorem Mem.start (w:World):Mem w (hp w) w [] :=
 ⟨tT.refl w,kR.le_refl _,λ_ _=>False,by simp,λ_ _ _ _ h=>h.elim,λ_ _ h=>h.elim⟩
theorem Mem.hz_lt (M:Mem w0 hz w L) {b:Nat} {o:Obj} (h:hz b=some o):b<w.heap.size:=cg9 (M.lez b o h)
theorem Mem.hz_new (M:Mem w0 hz w L) {b:Nat} (h:w.heap.size<=b):hz b=none:=by
 cases e:hz b with
 | none=>rfl
 | some o=>exact absurd (M.hz_lt e) (by omega)
theorem Mem.below (M:Mem w0 (hp w0) w L):Below w0.heap.size w0 w :=
 ⟨M.same.os,M.same.tape,M.same.output,M.same.size,λk N=>by
  have h:hp w0 k=some w0.heap[k]:=Array.getElem?_eq_getElem N;have:=M.lez k _ h;unfold hp at this
  rw [this,Array.getElem?_eq_getElem N]⟩
theorem Mem.now {α:Type} [GT α] (M:Mem w0 hz w L) {cs:List Value} {x:α} (h:GT.rep hz cs x):GT.rep (hp w) cs x:=GT.mono M.lez h
theorem Mem.get (N:Mem w0 hz w L) (k:Nat) (O:L[k]?=some c):∃ F,c.pr F (hp w)/\∀ b,F b->b<w.heap.size/\hz b=none:=by
 obtain ⟨W,h1,h2,M⟩:=N.chs;exact ⟨W k,h1 k c O,λb hb=>⟨(M k b hb).2,(M k b hb).1⟩⟩
theorem Mem.upd (W:Mem w0 hz w L) (k:Nat) (hk:L[k]?=some c) (hs:tT w w')
  (H:∀ F,c.pr F (hp w)->(∀ b,F b->b<w.heap.size)->∃ F',(∀ b,F' b->F b\/w.heap.size<=b)/\(∀ b,F' b->b<w'.heap.size)/\c'.pr F' (hp w') /\
   ∀ b,b<w.heap.size->¬ F b->w'.heap[b]?=w.heap[b]?):Mem w0 hz w' (L.set k c'):=by
 obtain ⟨Fs,h1,h2,N⟩:=W.chs;obtain ⟨F',g1,g2,g3,g4⟩:=H (Fs k) (h1 k c hk) (λb hb=>(N k b hb).2);refine ⟨W.same.trans hs,?_,λi=>if i=k then F' else Fs i,?_,?_,?_⟩
 ·intro b o hb;have a0:=W.hz_lt hb;have:=W.lez b o hb;unfold hp at this ⊢;rw [g4 b a0 (λhF=>by rw [(N k b hF).1] at hb;cases hb)];exact this
 ·intro i d hi;by_cases e:i=k
  ·subst e;have hl:i<L.length:=(List.getElem?_eq_some_iff.1 hk).1;rw [List.getElem?_set_self hl] at hi;simp only [Option.some.injEq] at hi;subst hi;simpa using g3
  ·rw [List.getElem?_set_ne (Ne.symm e)] at hi;simp only [e,if_false];refine d.loc _ _ _ (h1 i d hi) λb hb=>?_
   exact g4 b (N i b hb).2 (h2 i k b e hb)
 ·intro i j b M hi O;by_cases e:i=k
  ·subst e;simp only [if_true] at hi;rw [if_neg (Ne.symm M)] at O;rcases g1 b hi with h | h
   ·exact h2 _ j b M h O
   ·have:=(N j b O).2;omega
  ·rw [if_neg e] at hi;by_cases e2:j=k
   ·subst e2;simp only [if_true] at O;rcases g1 b O with h | h
    ·exact h2 i _ b M hi h
    ·have:=(N i b hi).2;omega
   ·rw [if_neg e2] at O;exact h2 i j b M hi O
 ·intro i b hi;by_cases e:i=k
  ·subst e;simp only [if_true] at hi;refine ⟨?_,g2 b hi⟩;rcases g1 b hi with h | h
   ·exact (N _ b h).1
   ·exact W.hz_new h
  ·rw [if_neg e] at hi;exact ⟨(N i b hi).1,Nat.lt_of_lt_of_le (N i b hi).2 hs.size⟩
theorem Mem.more (M:Mem w0 hz w L) (hs:tT w w') (hb:∀ b,b<w.heap.size->w'.heap[b]?=w.heap[b]?)
  (hc:∃ F,(∀ b,F b->w.heap.size<=b/\b<w'.heap.size)/\c.pr F (hp w')):Mem w0 hz w' (c::L):=by
 obtain ⟨Fs,h1,h2,N⟩:=M.chs;obtain ⟨F,O,f2⟩:=hc;refine ⟨M.same.trans hs,?_,λi=>match i with | 0=>F | i+1=>Fs i,?_,?_,?_⟩
 ·intro b o ho;have W:=M.hz_lt ho;have:=M.lez b o ho;unfold hp at this ⊢;rw [hb b W];exact this
 ·intro i d hi;cases i with
  | zero=>simp at hi;subst hi;exact f2
  | succ i=>simp at hi;exact d.loc _ _ _ (h1 i d hi) λb a1=>hb b (N i b a1).2
 ·intro i j b a0 hi hj;cases i with
  | zero =>
   cases j with
   | zero=>exact a0 rfl
   | succ j=>have:=(O b hi).1;have:=(N j b hj).2;omega
  | succ i =>
   cases j with
   | zero=>have:=(O b hj).1;have:=(N i b hi).2;omega
   | succ j=>exact h2 i j b (by omega) hi hj
 ·intro i b hi;cases i with
  | zero=>exact ⟨M.hz_new (O b hi).1,(O b hi).2⟩
  | succ i=>exact ⟨(N i b hi).1,Nat.lt_of_lt_of_le (N i b hi).2 hs.size⟩
theorem Mem.pick (hm:Mem w0 hz w L) (N:List Nat) (hn:N.Nodup) (hL:N.map (λj=>L[j]?)=L'.map some):Mem w0 hz w L':=by
 obtain ⟨Fs,h1,h2,h3⟩:=hm.chs;have W:N.length=L'.length:=by have:=congrArg List.length hL;simpa using this
 refine ⟨hm.same,hm.lez,λi b=>∃ j,N[i]?=some j/\Fs j b,?_,?_,?_⟩
 ·intro i d hi;have a0:i<N.length:=by rw [W];exact (List.getElem?_eq_some_iff.1 hi).1
  have e:=congrArg (λl=>l[i]?) hL;simp only [List.getElem?_map,hi,Option.map_some,List.getElem?_eq_getElem a0] at e;simp only [Option.some.injEq] at e;exact d.mono _ _ _ (h1 _ d e) λb hb=>⟨N[i],List.getElem?_eq_getElem a0,hb⟩
 ·rintro i k b a8 ⟨j,hj,M⟩ ⟨j',a9,a4⟩;refine h2 j j' b (λe=>a8 ?_) M a4;subst e;have a1:=List.getElem?_eq_some_iff.1 hj;have a2:=List.getElem?_eq_some_iff.1 a9;obtain ⟨p,O⟩:=a1;obtain ⟨q,a3⟩:=a2;rcases Nat.lt_trichotomy i k with a5 | a6 | a7
  ·exact absurd (O.trans a3.symm) ((List.pairwise_iff_getElem.1 hn) i k p q a5)
  ·exact a6
  ·exact absurd (a3.trans O.symm) ((List.pairwise_iff_getElem.1 hn) k i q p a7)
 ·rintro i b ⟨j,_,M⟩;exact h3 j b M
theorem Mem.imp (N:Mem w0 hz w L) (k:Nat) (O:L[k]?=some c) (H:∀ F,c.pr F (hp w)->c'.pr F (hp w)):Mem w0 hz w (L.set k c') :=
 N.upd k O (tT.refl w) λF hF M=>⟨F,λ_ h=>.inl h,M,H F hF,λ_ _ _=>rfl⟩
theorem Mem.below' (M:Mem w0 hz w L) (hb:Below w.heap.size w w'):Mem w0 hz w' L:=by
 have:=M.more (c:=⟨λ_ _=>True,λ_ _ _ _ _=>trivial,λ_ _ _ _ _=>trivial⟩) (tT.of_below hb) hb.block ⟨λ_=>False,λ_ h=>h.elim,trivial⟩;obtain ⟨h1,N,O,g1,g2,g3⟩:=this;exact ⟨h1,N,λi=>O (i+1),λi d hi=>g1 (i+1) d (by simpa using hi),λi j b _=>g2 (i+1) (j+1) b (by omega),λi b=>g3 (i+1) b⟩
theorem Mem.drew (M:Mem w0 hz w L):Mem w0 hz w.drew L:=⟨⟨M.same.os,M.same.tape,M.same.output,M.same.size⟩,M.lez,M.chs⟩
theorem Mem.alloc (M:Mem w0 hz w L) (cs:List Value) (T:TypeId):Mem w0 hz (w.alloc (.cells cs.toArray T)) (blk w.heap.size cs T::L) :=
 M.more ⟨rfl, rfl, rfl, by simp⟩ (fun b hb => Below.heap_alloc w _ b hb)
  ⟨λb=>b=w.heap.size,λb hb=>by subst hb;simp,rfl,by simp only [hp];exact heap_alloc_new w _⟩
theorem Mem.merge {d:Ch} (W:Mem w0 hz w L) (k j:Nat) (a0:k≠j) (hk:L[k]?=some c) (hj:L[j]?=some d)
  (H:∀ F G,c.pr F (hp w)->d.pr G (hp w)->(∀ b,F b->¬ G b)->c'.pr (λb=>F b\/G b) (hp w)):Mem w0 hz w ((L.set k c').set j ⟨λ_ _=>True,λ_ _ _ _ _=>trivial,λ_ _ _ _ _=>trivial⟩):=by
 obtain ⟨Fs,h1,h2,h3⟩:=W.chs;refine ⟨W.same,W.lez,λi b=>(i≠j/\Fs i b)\/(i=k/\Fs j b),?_,?_,?_⟩
 ·intro i e hi;by_cases M:i=j
  ·subst M;have hl:i<(L.set k c').length:=by simpa using (List.getElem?_eq_some_iff.1 hj).1
   rw [List.getElem?_set_self hl] at hi;simp only [Option.some.injEq] at hi;subst hi;trivial
  ·rw [List.getElem?_set_ne (Ne.symm M)] at hi;by_cases e2:i=k
   ·subst e2;have hl:i<L.length:=(List.getElem?_eq_some_iff.1 hk).1;rw [List.getElem?_set_self hl] at hi;simp only [Option.some.injEq] at hi;subst hi;refine c'.mono _ _ _ (H _ _ (h1 i c hk) (h1 j d hj) (λb=>h2 i j b M)) λb hb=>?_
    rcases hb with hb | hb
    ·exact .inl ⟨M,hb⟩
    ·exact .inr ⟨rfl,hb⟩
   ·rw [List.getElem?_set_ne (Ne.symm e2)] at hi;exact e.mono _ _ _ (h1 i e hi) λb hb=>.inl ⟨M,hb⟩
 ·rintro i i' b N (⟨a1,O⟩ | ⟨rfl,O⟩) (⟨b1,b2⟩ | ⟨rfl,b2⟩)
  ·exact h2 i i' b N O b2
  ·exact h2 i j b a1 O b2
  ·exact h2 j i' b (Ne.symm b1) O b2
  ·exact N rfl
 ·rintro i b (⟨_,hb⟩ | ⟨_,hb⟩)
  ·exact h3 i b hb
  ·exact h3 j b hb
theorem Mem.blk_cells {b:Nat} {cs:List Value} {T:TypeId} (M:Mem w0 hz w L) (k:Nat) (N:L[k]?=some (blk b cs T)):w.heap[b]?=some (.cells cs.toArray T (0,0))/\b<w.heap.size:=by
 obtain ⟨F,h1,h2⟩:=M.get k N;exact ⟨h1.2,(h2 b h1.1).1⟩
theorem Mem.blk_cell {b i:Nat} {cs:List Value} {T:TypeId} {v:Value} (M:Mem w0 hz w L) (k:Nat) (N:L[k]?=some (blk b cs T)) (hi:cs[i]?=some v):w.cell? ⟨b,i,none⟩=some v:=by
 have:=(M.blk_cells k N).1;simp [World.cell?,this,hi]
theorem Mem.blk_set {b i:Nat} {cs:List Value} {T:TypeId} {v:Value} (O:Mem w0 hz w L) (k:Nat) (W:L[k]?=some (blk b cs T)):Mem w0 hz (w.setCell ⟨b,i,none⟩ v) (L.set k (blk b (cs.set i v) T)) :=
 O.upd k W ⟨rfl,rfl,rfl,by simp⟩ λF hF N=>⟨F,λ_ h=>.inl h,λc hc=>by simpa using N c hc,⟨hF.1,by
  have:=heap_setCell_same w b i cs.toArray T v hF.2
  simpa [hp] using this⟩,λc _ M=>heap_setCell_other w _ c v (λe=>M (by subst e;exact hF.1))⟩
theorem Mem.take {L1 L2:List Ch} (hm:Mem w0 hz w L) (js ks:List Nat) (hn:(js++ks).Nodup) (h1:js.map (λj=>L[j]?)=L1.map some) (h2:ks.map (λj=>L[j]?)=L2.map some) :
  ∃ a3,kR.le hz a3/\Mem w a3 w L1/\(∀ {α:Type} [GT α] {cs:List Value} {x:α} (i:Nat),L2[i]?=some (ow cs x)->GT.rep a3 cs x)/\∀ w' M,Mem w a3 w' M->Mem w0 hz w' (M++L2):=by
 classical
 have aG:=hm.pick (js++ks) hn (L':=L1++L2) (by rw [List.map_append,List.map_append,h1,h2]);clear h1 h2 hn hm;obtain ⟨hs,aC,O,f1,f2,f3⟩:=aG
 have aE:∀ b,(if ∃ i,i<L1.length/\O i b then none else hp w b)=none\/((¬ ∃ i,i<L1.length/\O i b)/\(if ∃ i,i<L1.length/\O i b then none else hp w b)=hp w b):=λb=>by
  by_cases h:∃ i,i<L1.length/\O i b
  ·exact .inl (if_pos h)
  ·exact .inr ⟨h,if_neg h⟩
 have aA:kR.le hz (λb=>if ∃ i,i<L1.length/\O i b then none else hp w b):=by
  intro b o hb;show (if ∃ i,i<L1.length/\O i b then none else hp w b)=some o;rw [if_neg]
  ·exact aC b o hb
  ·rintro ⟨i,_,hF⟩;rw [(f3 i b hF).1] at hb;cases hb
 refine ⟨λb=>if ∃ i,i<L1.length/\O i b then none else hp w b,aA,⟨tT.refl w,?_,λi b=>i<L1.length/\O i b,?_,?_,?_⟩,?_,?_⟩
 ·intro b o hb;rcases aE b with h | ⟨_,h⟩
  ·exact absurd (hb.symm.trans h) (by simp)
  ·exact (hb.symm.trans h).symm
 ·intro i c hi;have aD:i<L1.length:=(List.getElem?_eq_some_iff.1 hi).1;exact c.mono _ _ _ (f1 i c (by rw [List.getElem?_append_left aD];exact hi)) λb hb=>⟨aD,hb⟩
 ·rintro i j b a8 ⟨_,hi⟩ ⟨_,W⟩;exact f2 i j b a8 hi W
 ·rintro i b ⟨hi,hb⟩;exact ⟨if_pos ⟨i,hi,hb⟩,(f3 i b hb).2⟩
 ·intro α _ cs x i hi;have aB:=f1 (L1.length+i) _ (by rw [List.getElem?_append_right (by omega)];simpa using hi);refine GT.own_rep (GT.own_loc (F:=O (L1.length+i)) aB λb hb=>?_);show (if ∃ i,i<L1.length/\O i b then none else hp w b)=hp w b;rw [if_neg];rintro ⟨j,W,a7⟩;exact f2 j (L1.length+i) b (by omega) a7 hb
 ·intro w' M hM;obtain ⟨gs,a4,Gs,g1,g2,g3⟩:=hM
  have a9:∀ i b,L1.length<=i->O i b->hp w' b=hp w b:=λi b hi hb=>by
   have a6:¬ ∃ i,i<L1.length/\O i b:=by
    rintro ⟨j,W,a7⟩;exact f2 j i b (by omega) a7 hb
   have a5:=(f3 i b hb).2;have a1:hp w b=some w.heap[b]:=Array.getElem?_eq_getElem a5;have:=a4 b w.heap[b] (by show (if ∃ i,i<L1.length/\O i b then none else hp w b)=_;rw [if_neg a6];exact a1);rw [this,a1]
  refine ⟨hs.trans gs,kR.le_trans aA a4,λi b=>if i<M.length then Gs i b else L1.length<=i - M.length+L1.length/\O (i - M.length+L1.length) b,?_,?_,?_⟩
  ·intro i c hi;by_cases N:i<M.length
   ·rw [List.getElem?_append_left N] at hi;exact c.mono _ _ _ (g1 i c hi) λb hb=>by dsimp only;rw [if_pos N];exact hb
   ·rw [List.getElem?_append_right (by omega)] at hi;have:=f1 (L1.length+(i - M.length)) c (by rw [List.getElem?_append_right (by omega)];simpa using hi);refine c.mono _ _ _ (c.loc _ _ _ this λb hb=>a9 _ b (by omega) hb) λb hb=>?_
    dsimp only;rw [if_neg N];exact ⟨by omega,by rw [Nat.add_comm];exact hb⟩
  ·intro i j b a8 hi W
   try dsimp only at hi W
   have a2:∀ i j,i<M.length->Gs i b->L1.length<=j->O j b->False:=λi j _ hG W hF=>by
    have h3:=(g3 i b hG).1
    have a6:¬ ∃ i,i<L1.length/\O i b:=by
     rintro ⟨k,_,aF⟩;exact f2 k j b (by omega) aF hF
    rw [if_neg a6] at h3;have a5:=(f3 j b hF).2;have:hp w b=some w.heap[b]:=Array.getElem?_eq_getElem a5;rw [this] at h3;cases h3
   by_cases N:i<M.length
   ·rw [if_pos N] at hi;by_cases a0:j<M.length
    ·rw [if_pos a0] at W;exact g2 i j b a8 hi W
    ·rw [if_neg a0] at W;exact a2 i _ N hi W.1 W.2
   ·rw [if_neg N] at hi;by_cases a0:j<M.length
    ·rw [if_pos a0] at W;exact a2 j _ a0 W hi.1 hi.2
    ·rw [if_neg a0] at W;exact f2 _ _ b (by omega) hi.2 W.2
  ·intro i b hi
   try dsimp only at hi
   by_cases N:i<M.length
   ·rw [if_pos N] at hi;have h3:=g3 i b hi;refine ⟨?_,h3.2⟩;cases aH:hz b with
    | none=>rfl
    | some o =>
     have:=(aA b o aH).symm.trans h3.1;cases this
   ·rw [if_neg N] at hi;exact ⟨(f3 _ b hi.2).1,Nat.lt_of_lt_of_le (f3 _ b hi.2).2 gs.size⟩
theorem Mem.give {M:List Ch} (hm:Mem w0 hz w L) (hM:Mem w (hp w) w' M):Mem w0 hz w' (M++L):=by
 obtain ⟨gs,a2,Gs,g1,g2,g3⟩:=hM;obtain ⟨hs,a1,Fs,f1,f2,f3⟩:=hm
 have a4:∀ i b,Fs i b->hp w' b=hp w b:=λi b hb=>by
  have a3:=(f3 i b hb).2;have O:hp w b=some w.heap[b]:=Array.getElem?_eq_getElem a3;rw [a2 b _ O,O]
 refine ⟨hs.trans gs,kR.le_trans a1 a2,λi b=>if i<M.length then Gs i b else Fs (i - M.length) b,?_,?_,?_⟩
 ·intro i c hi;by_cases N:i<M.length
  ·rw [List.getElem?_append_left N] at hi;exact c.mono _ _ _ (g1 i c hi) λb hb=>by dsimp only;rw [if_pos N];exact hb
  ·rw [List.getElem?_append_right (by omega)] at hi;exact c.mono _ _ _ (c.loc _ _ _ (f1 _ c hi) λb hb=>a4 _ b hb) λb hb=>by dsimp only;rw [if_neg N];exact hb
 ·intro i j b a5 hi hj
  try dsimp only at hi hj
  have W:∀ i j,Gs i b->Fs j b->False:=λi j hG hF=>by
   have a3:=(f3 j b hF).2;have:hp w b=some w.heap[b]:=Array.getElem?_eq_getElem a3;rw [(g3 i b hG).1] at this;cases this
  by_cases N:i<M.length
  ·rw [if_pos N] at hi;by_cases a0:j<M.length
   ·rw [if_pos a0] at hj;exact g2 i j b a5 hi hj
   ·rw [if_neg a0] at hj;exact W i _ hi hj
  ·rw [if_neg N] at hi;by_cases a0:j<M.length
   ·rw [if_pos a0] at hj;exact W j _ hj hi
   ·rw [if_neg a0] at hj;exact f2 _ _ b (by omega) hi hj
 ·intro i b hi
  try dsimp only at hi
  by_cases N:i<M.length
  ·rw [if_pos N] at hi;have h3:=g3 i b hi;refine ⟨?_,h3.2⟩;cases a6:hz b with
   | none=>rfl
   | some o =>
    have:=a1 b o a6;rw [h3.1] at this;cases this
  ·rw [if_neg N] at hi;exact ⟨(f3 _ b hi).1,Nat.lt_of_lt_of_le (f3 _ b hi).2 gs.size⟩
end
end Go.Wk
namespace Go.Wk
open Go Go.RowKit
def Rt (R:Value->World->Prop):Ending->World->Prop
 | .returned v,w=>R v w
 | _,_=>False
def Ef (P:Program) (a:Act) (w:World) (o:Oper) (R:Value->World->Prop):Prop :=
 ∀ (K:Act->World->Prop) (Q:Exit->Act->World->Prop),(∀ v w',R v w'->K (a.put o.dst v) w')->o.wp P a w K Q
section
variable {P:Program} {ops:Array Oper} {Q:Exit->Act->World->Prop} {a:Act} {w:World} {rest:List Oper} {o:Oper} {n:Nat} {l:Env} {d:Nat} {v:Value} {R:Value->World->Prop}
theorem Ef.mono {M:Value->World->Prop} (N:Ef P a w o R) (h:∀ v w',R v w'->M v w'):Ef P a w o M :=
 λK Q O=>N K Q λv w' W=>O v w' (h v w' W)
theorem nR {w':World} (O:(execOp a.eval o).run P w=.ok (.value v) w') (N:R v w'):Ef P a w o R:=λK Q M=>by
 unfold Oper.wp;rw [O];exact M v w' N
theorem sd {w':World} (O:(execOp a.eval o).run P w=.ok .skip w') (N:R undef w'):Ef P a w o R:=λK Q M=>by
 unfold Oper.wp;rw [O];exact M undef w' N
end
theorem oT (b o k:Nat):(⟨b,o,none⟩:Addr).add k=⟨b,o+k,none⟩:=by unfold Addr.add;split<;>simp_all
def kJ (P:Program) (t:TypeId) (k off:Nat):Prop:=∀ b o w,(Instr.fieldAt t (.pointer (some ⟨b,o,none⟩)) k).run P w=.ok (.pointer (some ⟨b,o+off,none⟩)) w
theorem kJ.mk {P:Program} {t:TypeId} {k s:Nat} {M:Array Field} {f:Field} (N:P.underlying t=some (.struct M)) (O:M[k]?=some f) (hs:∀ w,(sizeOf f.type).run P w=.ok (s+1) w):kJ P t k f.offset:=by
 intro b o w;simp [Instr.fieldAt,run_underlying N,O,Instr.sureAddr,fieldPlace,hs,oT]
structure mO (P:Program) (t e s:Nat):Prop where
 und:P.underlying t=some (.slice e)
 size:∀ w,(sizeOf e).run P w=.ok s w
section
variable {P:Program} {a:Act} {w:World} {o:Oper} {n:Nat} {l:Env} {v:Value} {x y c:Operand} {t e s:TypeId}
theorem bg8 {k b i off:Nat} (hF:kJ P t k off) (O:o.op=.fieldAddr t x k) (N:ev l x=some (.pointer (some ⟨b,i,none⟩))) :
  Yl P l w o (.pointer (some ⟨b,i+off,none⟩)):=λn a M=>by
 simp [execOp,O,M.eval N,hF b i w]
theorem bh0 {b off len cap:Nat} {j:Int} {k:IntKind} (N:mO P t e s) (O:o.op=.indexAddr t x y) (hx:ev l x=some (.slice (some ⟨b,off,none⟩) len cap)) (W:ev l y=some (.int k j)) (h0:0<=j) (hi:j.toNat<len) :
  Yl P l w o (.pointer (some ⟨b,off+j.toNat*s,none⟩)):=λn a M=>by
 have h1:j<(len:Int):=by omega
 simp [execOp,O,M.eval hx,M.eval W,Instr.indexAt,asIntOf,run_underlying N.und,h0,h1,N.size,oT]
theorem bh4 {p : Option Addr} {len cap : Nat} (N : P.underlying t = some (.slice e)) (O : o.op = .call { callee := .builtin .len, args := #[x], argTypes := #[t] }) (W : ev l x = some (.slice p len cap)) :
  Yl P l w o (.int .i64 (len:Int)):=λn a M=>by
 simp [execOp,O,resolve,invoke,builtin,M.eval W,Builtin.len_,run_underlying N,goInt]
theorem br1 {b i:Nat} (N:∀ w,(isAgg t).run P w=.ok false w) (O:o.op=.load t x) (W:ev l x=some (.pointer (some ⟨b,i,none⟩))) (hc:w.cell? ⟨b,i,none⟩=some v) :
  Yl P l w o v:=λn a M=>by
 simp [execOp,O,M.eval W,Instr.loadAt,Instr.sureAddr,loadVar,N,hc]
theorem co3 {b i:Nat} {cs:List Value} (W:∀ w,(isAgg t).run P w=.ok true w) (hs:∀ w,(sizeOf t).run P w=.ok cs.length w) (N:o.op=.load t x) (hx:ev l x=some (.pointer (some ⟨b,i,none⟩))) (hc:kS (hp w) b i cs) :
  Yl P l w o (.agg cs.toArray):=λn a M=>by
 have:=run_loadCells_list (P:=P) w ⟨b,i,none⟩ cs (λj v O=>by rw [oT];exact hc.cell O);simp [execOp,N,M.eval hx,Instr.loadAt,Instr.sureAddr,loadVar,W,hs,this]
end
section
variable {P:Program} {a:Act} {w w0:World} {hz:kR} {L:List Ch} {o:Oper} {n:Nat} {l:Env} {v:Value} {x y c:Operand} {t e s T:TypeId}
theorem mQ {z:Value} {cs:List Value} (N:Mem w0 hz w L) (M:∀ w,(zeroValue t).run P w=.ok z w) (O:o.op=.alloc t) (hc:z.cells=cs.toArray) :
  Ef P a w o (λv w'=>∃ b,v=.pointer (some ⟨b,0,none⟩)/\Mem w0 hz w' (blk b cs t::L)) :=
 nR (w':=w.alloc (.cells cs.toArray t)) (v:=.pointer (some ⟨w.heap.size,0,none⟩)) (by simp [execOp,O,Instr.alloc,M,newVar,newRow,hc]) ⟨_,rfl,N.alloc cs t⟩
theorem br4 {cs:List Value} (N:Fr n l a) (M:Mem w0 hz w L) (W:o.op=.box t x) (O:ev l x=some v) (hc:v.cells=cs.toArray) :
  Ef P a w o (λv w'=>∃ b,v=.pointer (some ⟨b,0,none⟩)/\Mem w0 hz w' (blk b cs t::L)) :=
 nR (w':=w.alloc (.cells cs.toArray t)) (v:=.pointer (some ⟨w.heap.size,0,none⟩)) (by simp [execOp,W,N.eval O,Instr.box,newVar,newRow,hc]) ⟨_,rfl,M.alloc cs t⟩
theorem qm {b i:Nat} {cs:List Value} (k:Nat) (hf:Fr n l a) (M:Mem w0 hz w L) (N:L[k]?=some (blk b cs T)) (hs:∀ w,(sizeOf t).run P w=.ok 1 w) (ho:o.op=.store t x y)
  (hx:ev l x=some (.pointer (some ⟨b,i,none⟩))) (hy:ev l y=some v) (h1:v.oneCell'=true) (hi:Nat.blt i cs.length=true) :
  Ef P a w o (λ_ w'=>Mem w0 hz w' (L.set k (blk b (cs.set i v) T))):=by
 have W:i<cs.length:=by simpa [Nat.blt_eq] using hi
 have wM:w.cell? ⟨b,i,none⟩=some cs[i]:=M.blk_cell k N (List.getElem?_eq_getElem W);have O:w.frozen? ⟨b,i,none⟩=false:=by simp [World.frozen?,(M.blk_cells k N).1]
 have a0:v.cells=#[v]:=by cases v<;>first | rfl | cases h1
 refine sd (w':=w.setCell ⟨b,i,none⟩ v) ?_ (M.blk_set k N);simp [execOp,ho,hf.eval hx,hf.eval hy,Instr.storeAt,Instr.sureAddr,storeVar,a0,hs,storeCells,oT,run_store P w _ v _ h1,wM,O]
def mM (cs:List Value) (o:Nat) (vs:List Value):List Value:=cs.take o++vs++cs.drop (o+vs.length)
theorem rf {b i:Nat} {cs vs cs':List Value} (k:Nat) (hf:Fr n l a) (hm:Mem w0 hz w L) (hk:L[k]?=some (blk b cs T)) (hs:∀ w,(sizeOf t).run P w=.ok vs.length w) (ho:o.op=.store t x y)
  (hx:ev l x=some (.pointer (some ⟨b,i,none⟩))) (hy:ev l y=some (.agg vs.toArray)) (h1:∀ v∈vs,v.oneCell'=true) (hi:Nat.ble (i+vs.length) cs.length=true) (a0:mM cs i vs=cs') :
  Ef P a w o (λ_ w'=>Mem w0 hz w' (L.set k (blk b cs' T))):=by
 have W:i+vs.length<=cs.length:=Nat.le_of_ble_eq_true hi;have hb:=(hm.blk_cells k hk).1;have M:=run_storeCells_at P b i T vs 0 cs.toArray w hb (by simpa using W) h1;subst a0;refine sd (w':=w.setRow b (mM cs i vs).toArray) ?_ ?_
 ·simp [execOp,ho,hf.eval hx,hf.eval hy,Instr.storeAt,Instr.sureAddr,storeVar,Value.cells,hs,M,mM]
 ·refine hm.upd k hk ⟨rfl,rfl,rfl,by simp⟩ λF hF N=>⟨F,λ_ h=>.inl h,λc hc=>by simpa using N c hc,⟨hF.1,setRow_heap w b _ _ T _ hb⟩,λc _ O=>setRow_other w b c _ (λe=>O (by subst e;exact hF.1))⟩
end
section
variable {α:Type} [GT α] {P:Program} {a:Act} {w w0:World} {hz:kR} {L:List Ch} {o:Oper} {n:Nat} {l:Env} {v sv:Value} {x y c:Operand} {t e s T:TypeId} {xs:List α}
theorem qB.at {h:kR} (O:qB h sv xs) {i:Nat} (hi:i<xs.length) :
  ∃ b off cap,sv=.slice (some ⟨b,off,none⟩) xs.length cap/\∃ cs,kS h b (off+i*GT.sz α) cs/\GT.rep h cs xs[i]:=by
 rcases O with ⟨_,rfl⟩ | ⟨b,off,len,cap,hv,M,hc,_,N⟩
 ·simp at hi
 ·obtain ⟨cs,h1,h2⟩:=N i _ (List.getElem?_eq_getElem hi);exact ⟨b,off,cap,by rw [M];exact hv,cs,h1,h2⟩
theorem qB.len {h:kR} (N:qB h sv xs):∃ p cap,sv=.slice p xs.length cap/\xs.length<=140737488355328:=by
 rcases N with ⟨rfl | ⟨p,cap,rfl⟩,rfl⟩ | ⟨b,off,len,cap,hv,M,hc,_,_⟩
 ·exact ⟨none,0,rfl,by simp⟩
 ·exact ⟨some p,cap,rfl,by simp⟩
 ·exact ⟨_,cap,by rw [M];exact hv,by omega⟩
theorem qB.cells {h:kR} {b off len cap:Nat} (hr:qB h (.slice (some ⟨b,off,none⟩) len cap) xs) :
  ∃ cs:List Value,cs.length=len*GT.sz α/\(∀ v∈cs,v.oneCell'=true)/\(∀ j v,cs[j]?=some v->∃ C T N,h b=some (.cells C T N)/\C[off+j]?=some v) /\
   ∀ (i:Nat) (x:α),xs[i]?=some x->GT.rep h ((cs.drop (i*GT.sz α)).take (GT.sz α)) x:=by
 rcases hr with ⟨hv | ⟨p,c,hv⟩,rfl⟩ | ⟨_,_,_,_,hv,hl,hc,hm,h3⟩
 ·cases hv
 ·cases hv;exact ⟨[],by simp,by simp,by simp,by simp⟩
 ·simp only [Value.slice.injEq,Option.some.injEq,Addr.mk.injEq] at hv;obtain ⟨⟨rfl,rfl,_⟩,rfl,rfl⟩:=hv;subst hl;clear hc hm
  induction xs generalizing off with
  | nil=>exact ⟨[],by simp,by simp,by simp,by simp⟩
  | cons x xs ih =>
   obtain ⟨c0,h0,r0⟩:=h3 0 x rfl
   obtain ⟨cs,g1,g2,g3,g4⟩:=ih (off:=off+GT.sz α) (λi y O=>by
    obtain ⟨c,hc,hr⟩:=h3 (i+1) y (by simpa using O)
    exact ⟨c,by rw [show off+GT.sz α+i*GT.sz α=off+(i+1)*GT.sz α by rw [Nat.add_mul];omega];exact hc,hr⟩)
   have M:=GT.len r0;refine ⟨c0++cs,by simp [M,g1,Nat.add_mul];omega,?_,?_,?_⟩
   ·intro v hv;rcases List.mem_append.1 hv with hv | hv
    ·exact GT.one r0 v hv
    ·exact g2 v hv
   ·intro j v W;by_cases a0:j<c0.length
    ·rw [List.getElem?_append_left a0] at W;obtain ⟨C,T,N,e1,e2⟩:=h0;exact ⟨C,T,N,e1,by simpa using e2 j v W⟩
    ·rw [List.getElem?_append_right (by omega)] at W;obtain ⟨C,T,N,e1,e2⟩:=g3 _ v W;exact ⟨C,T,N,e1,by rw [<- e2];congr 1;omega⟩
   ·intro i y O;cases i with
    | zero =>
     simp at O;subst O;simpa [M] using r0
    | succ i =>
     have:=g4 i y (by simpa using O);rw [show (i+1)*GT.sz α=c0.length+i*GT.sz α by rw [Nat.add_mul,M];omega,List.drop_append,List.drop_eq_nil_of_le (by omega)];simpa using this
end
end Go.Wk
namespace Go.Wk
open Go Go.RowKit
theorem bn7 {C D:Array Value} {o n:Nat} (hs:D.size=C.size) (h:∀ j,o<=j->j<o+n->D[j]?=C[j]?):seg D o n=seg C o n:=by
 apply List.ext_getElem?;intro j;by_cases M:j<n
 ·rw [nP M,nP M,h _ (by omega) (by omega)]
 ·simp [seg,List.getElem?_take,M]
theorem bf5 {cs:List Value} {o n:Nat}:seg cs.toArray o n=(cs.drop o).take n:=by simp [seg]
theorem yE {C:Array Value} {o n i s:Nat} (h:i+s<=n):seg C (o+i) s=((seg C o n).drop i).take s:=by
 apply List.ext_getElem?;intro j;by_cases M:j<s
 ·rw [nP M, List.getElem?_take_of_lt M, List.getElem?_drop, nP (by omega)]
  congr 1;omega
 ·simp [seg,List.getElem?_take,M]
theorem mg {i j s:Nat} (h:i<j):i*s+s<=j*s:=by
 have:=Nat.mul_le_mul_right s (show i+1<=j from h)
 rwa [Nat.add_mul,Nat.one_mul] at this
section
variable {α:Type} [GT α] {F:Nat->Prop} {h h':kR} {b off len cap:Nat} {xs:List α}
theorem l8.put {C O:Array Value} {T:TypeId} {i:Nat} {x':α} {G:Nat->Prop} (ho:l8 F h (.slice (some ⟨b,off,none⟩) len cap) xs) (hi:i<xs.length)
  (hC:h b=some (.cells C T (0,0))) (a5:h' b=some (.cells O T (0,0))) (a1:O.size=C.size) (a2:∀ j,(j<off+i*GT.sz α\/off+i*GT.sz α+GT.sz α<=j)->O[j]?=C[j]?)
  (hh:∀ c,F c->c≠b->h' c=h c) (hG:∀ c,G c->¬ F c) (hx:GT.own G h' (seg O (off+i*GT.sz α) (GT.sz α)) x') :
  l8 (λc=>F c\/G c) h' (.slice (some ⟨b,off,none⟩) len cap) (xs.set i x'):=by
 rcases ho with ⟨hv,_⟩ | ⟨_,_,_,_,_,_,hv,hF,hb,hl,hc,hm,hs,fps,h1,h2,h3⟩
 ·cases hv
 ·simp only [Value.slice.injEq,Option.some.injEq,Addr.mk.injEq] at hv;obtain ⟨⟨rfl,rfl,_⟩,rfl,rfl⟩:=hv;rw [hC] at hb;simp only [Option.some.injEq,Obj.cells.injEq] at hb;obtain ⟨rfl,rfl,_⟩:=hb;refine .inr ⟨_,_,_,_,O,T,rfl,.inl hF,a5,by simpa using hl,hc,hm,by rw [a1];exact hs,λj=>if j=i then G else fps j,?_,?_,?_⟩
  ·intro j c M;by_cases e:j=i
   ·subst e;simp only [if_true] at M;exact ⟨.inr M,λe=>hG c M (by rw [e];exact hF)⟩
   ·rw [if_neg e] at M;exact ⟨.inl (h1 j c M).1,(h1 j c M).2⟩
  ·intro j k c W M N;by_cases e:j=i
   ·subst e;simp only [if_true] at M;rw [if_neg (Ne.symm W)] at N;exact hG c M (h1 k c N).1
   ·rw [if_neg e] at M;by_cases e2:k=i
    ·subst e2;simp only [if_true] at N;exact hG c N (h1 j c M).1
    ·rw [if_neg e2] at N;exact h2 j k c W M N
  ·intro j y hy;by_cases e:j=i
   ·subst e;rw [List.getElem?_set_self hi] at hy;simp only [Option.some.injEq] at hy;subst hy;simpa using hx
   ·rw [List.getElem?_set_ne (Ne.symm e)] at hy;dsimp only;rw [if_neg e,bn7 a1 (C:=C)]
    ·exact GT.own_loc (h3 j y hy) λc a0=>hh c (h1 j c a0).1 (h1 j c a0).2
    ·intro q _ _;refine a2 q ?_;rcases Nat.lt_or_gt_of_ne e with a3 | a4
     ·have:=mg (s:=GT.sz α) a3;omega
     ·have:=mg (s:=GT.sz α) a4;omega
theorem l8.at (N:l8 F h (.slice (some ⟨b,off,none⟩) len cap) xs) {i:Nat} (hi:i<xs.length) :
  ∃ C T G,h b=some (.cells C T (0,0))/\F b/\len=xs.length/\off+i*GT.sz α+GT.sz α<=C.size/\(∀ c,G c->F c/\c≠b)/\GT.own G h (seg C (off+i*GT.sz α) (GT.sz α)) xs[i]:=by
 rcases N with ⟨hv,_⟩ | ⟨_,_,_,_,M,O,hv,hF,hb,W,hc,_,hs,fps,h1,h2,h3⟩
 ·cases hv
 ·simp only [Value.slice.injEq,Option.some.injEq,Addr.mk.injEq] at hv;obtain ⟨⟨rfl,rfl,_⟩,rfl,rfl⟩:=hv;refine ⟨M,O,fps i,hb,hF,W.symm,?_,h1 i,h3 i _ (List.getElem?_eq_getElem hi)⟩;have:=mg (s:=GT.sz α) (show i<cap by omega);omega
def ab9 (fps:Nat->Nat->Prop) (h:kR) (cs:List Value) (xs:List α):Prop :=
 ∀ (i:Nat) (x:α),xs[i]?=some x->GT.own (fps i) h ((cs.drop (i*GT.sz α)).take (GT.sz α)) x
theorem l8.fresh {C:Array Value} {T:TypeId} {fps:Nat->Nat->Prop} {cs:List Value} (hb:h b=some (.cells C T (0,0))) (N:xs.length=len) (hc:len<=cap) (W:cap<=maxLen/\len<=140737488355328) (hs:off+cap*GT.sz α<=C.size)
  (M:seg C off (len*GT.sz α)=cs) (hF:F b) (h1:∀ i c,fps i c->F c/\c≠b) (h2:∀ i j c,i≠j->fps i c->¬ fps j c) (h3:ab9 fps h cs xs) :
  l8 F h (.slice (some ⟨b,off,none⟩) len cap) xs:=by
 refine .inr ⟨b,off,len,cap,C,T,rfl,hF,hb,N,hc,W,hs,fps,h1,h2,λi x O=>?_⟩;have hi:i<len:=by rw [<- N];exact (List.getElem?_eq_some_iff.1 O).1
 have:=h3 i x O;subst M
 rwa [<- yE (mg hi)] at this
end
section
variable {α:Type} [Flat α]
theorem ao8 {fps:Nat->Nat->Prop} {h:kR} {cs:List Value} {xs:List α} (M:∀ (i:Nat) (x:α),xs[i]?=some x->(cs.drop (i*GT.sz α)).take (GT.sz α)=Flat.enc x):ab9 fps h cs xs :=
 λi x N=>Flat.own_iff.2 (M i x N)
end
def Src (w:World) (s m:Nat) (x:Value) (news:List Value):Prop :=
 news.length=m*s/\(∀ v∈news,v.oneCell'=true)/\((x=.slice none 0 0/\m=0)\/∃ M c,x=.slice (some M) m c/\∀ (j:Nat) (u:Value),news[j]?=some u->w.cell? (M.add j)=some u)
theorem Src.first {P:Program} {w w':World} {s m:Nat} {x:Value} {news:List Value} (hs:Src w s m x news) (M:w'.heap=w.heap):(Builtin.firstCells s m x).run P w'=.ok news.toArray w':=by
 obtain ⟨h1,_,⟨rfl,rfl⟩ | ⟨N,c,rfl,O⟩⟩:=hs
 ·have : news = [] := List.eq_nil_of_length_eq_zero (by simpa using h1);subst this;simp [Builtin.firstCells]
 ·exact run_firstCells_some (P:=P) w' s m N m c news h1 (λj v W=>by have:=O j v W;simpa [World.cell?,M] using this)
theorem Src.len {P:Program} {w w':World} {s m:Nat} {x:Value} {news:List Value} (hs:Src w s m x news):(Builtin.lenOf x).run P w'=.ok m w':=by
 obtain ⟨h1,_,⟨rfl,rfl⟩ | ⟨_,c,rfl,_⟩⟩:=hs<;>simp [Builtin.lenOf]
structure oK (P:Program) (t e s:Nat) (z:Value):Prop where
 und:P.underlying t=some (.slice e)
 info:∃ i,P.info? e=some i/\i.size=s/\i.bytes<=65536/\i.zero=some z
 zs:z.cells.size=s
 pos:0<s
theorem zd {w:World} {b off n:Nat} {C:Array Value} {T:TypeId} {M:Nat × Nat} (hb:w.heap[b]?=some (.cells C T M)):∀ (j:Nat) (u:Value),(seg C off n)[j]?=some u->w.cell? ((⟨b,off,none⟩:Addr).add j)=some u:=by
 intro j u N;rw [oT];exact (qF (h:=hp w) (n:=n) (o:=off) hb).cell N
section
variable {α:Type} [GT α] {P:Program} {w:World} {F:Nat->Prop} {sv x z:Value} {xs ys:List α} {t ty e m:Nat} {news:List Value}
theorem ay9 (hT:oK P t e (GT.sz α) z) (ho:l8 F (hp w) sv xs) (a9:∀ b,F b->b<w.heap.size) (hS:Src w (GT.sz α) m x news) (hm:m=ys.length)
  (fps:Nat->Nat->Prop) (hE:ab9 fps (hp w) news ys) (a1:∀ i c,fps i c->¬ F c/\c<w.heap.size) (aK:∀ i j c,i≠j->fps i c->¬ fps j c)
  (aB:xs.length+m<=2147483648) :
  ∃ v' w',(Builtin.append_ #[t,t] ty #[sv,x]).run P w=.ok v' w'/\tT w w'/\(∀ b,b<w.heap.size->¬ F b->w'.heap[b]?=w.heap[b]?) /\
   ∃ F',(∀ b,F' b->F b\/(∃ i,fps i b)\/w.heap.size<=b)/\(∀ b,F' b->b<w'.heap.size)/\l8 F' (hp w') v' (xs++ys):=by
 obtain ⟨i,hi,a7,aI,hz⟩:=hT.info;have aS:=hT.pos;have a5:=hS.1;have aU:(2147483648:Nat)<=maxLen:=by simp [maxLen]
 have a8:∀ (N:List Value) (W:Nat) (a2:Nat->Nat->Prop),W<xs.length+m->N.length=xs.length*GT.sz α->ab9 a2 (hp w) N xs->(∀ i c,a2 i c->F c)->(∀ i j c,i≠j->a2 i c->¬ a2 j c) ->
   tT w (w.drew.alloc (.cells (N.toArray++news.toArray++Builtin.zeroCells z.cells (grownCap w (xs.length+m) W e - (xs.length+m))) e)) /\
   (∀ b,b<w.heap.size->¬ F b->(w.drew.alloc (.cells (N.toArray++news.toArray++Builtin.zeroCells z.cells (grownCap w (xs.length+m) W e - (xs.length+m))) e)).heap[b]?=w.heap[b]?) /\
   ∃ F',(∀ b,F' b->F b\/(∃ i,fps i b)\/w.heap.size<=b)/\(∀ b,F' b->b<(w.drew.alloc (.cells (N.toArray++news.toArray++Builtin.zeroCells z.cells (grownCap w (xs.length+m) W e - (xs.length+m))) e)).heap.size) /\
    l8 F' (hp (w.drew.alloc (.cells (N.toArray++news.toArray++Builtin.zeroCells z.cells (grownCap w (xs.length+m) W e - (xs.length+m))) e))) (.slice (some ⟨w.heap.size,0,none⟩) (xs.length+m) (grownCap w (xs.length+m) W e)) (xs++ys):=by
  intro N W a2 hold aE aQ aA aP;have aL:=grownCap_ge w (xs.length+m) W e;have aD:=grownCap_le_maxLen w (xs.length+m) W e (by omega);refine ⟨⟨rfl,rfl,rfl,by simp⟩,λb hb _=>Below.heap_alloc w.drew _ b hb,λb=>F b\/(∃ i,fps i b)\/b=w.heap.size,?_,?_,?_⟩
  ·rintro b (hb | hb | hb)
   ·exact .inl hb
   ·exact .inr (.inl hb)
   ·exact .inr (.inr (by omega))
  ·rintro b (hb | ⟨i,hb⟩ | hb)
   ·have:=a9 b hb;simp;omega
   ·have:=(a1 i b hb).2;simp;omega
   ·subst hb;simp
  ·have a3:∀ c,c<w.heap.size->hp (w.drew.alloc (.cells (N.toArray++news.toArray++Builtin.zeroCells z.cells (grownCap w (xs.length+m) W e - (xs.length+m))) e)) c=hp w c :=
    λc hc=>Below.heap_alloc w.drew _ c hc
   refine l8.fresh (T:=e) (C:=N.toArray++news.toArray++Builtin.zeroCells z.cells (grownCap w (xs.length+m) W e - (xs.length+m))) (cs:=N++news) (fps:=λi=>if i<xs.length then a2 i else fps (i - xs.length)) ?_ ?_ aL ⟨aD,by omega⟩ ?_ ?_ ?_ ?_ ?_ ?_
   ·exact heap_alloc_new w.drew _
   ·simp [hm]
   ·simp only [Array.size_append,List.size_toArray,size_zeroCells,hT.zs,aE,a5,<- Nat.add_mul,Nat.zero_add];exact Nat.mul_le_mul_right _ (by omega)
   ·have : (N ++ news).length = (xs.length + m) * GT.sz α := by rw [List.length_append, aE, a5, Nat.add_mul]
    rw [<- this];simp only [seg,Array.toList_append,List.drop_zero];exact List.take_left
   ·exact .inr (.inr rfl)
   ·intro i c M;by_cases O:i<xs.length
    ·simp only [O,if_true] at M;have:=aA i c M;exact ⟨.inl this,λe=>by have:=a9 c this;omega⟩
    ·simp only [O,if_false] at M;exact ⟨.inr (.inl ⟨_,M⟩),λe=>by have:=(a1 _ c M).2;omega⟩
   ·intro i j c aF M a0;by_cases O:i<xs.length<;>by_cases aG:j<xs.length<;>simp only [O,aG,if_true,if_false] at M a0
    ·exact aP i j c aF M a0
    ·exact (a1 _ c a0).1 (aA i c M)
    ·exact (a1 _ c M).1 (aA j c a0)
    ·exact aK _ _ c (by omega) M a0
   ·intro i y hy;by_cases O:i<xs.length
    ·rw [List.getElem?_append_left O] at hy;simp only [O,if_true];have h1:=aQ i y hy
     have hd:((N++news).drop (i*GT.sz α)).take (GT.sz α)=(N.drop (i*GT.sz α)).take (GT.sz α):=by
      have:=mg (s:=GT.sz α) O;rw [List.drop_append_of_le_length (by omega),List.take_append_of_le_length (by simp;omega)]
     rw [hd];exact GT.own_loc h1 λc hc=>a3 c (a9 c (aA i c hc))
    ·rw [List.getElem?_append_right (by omega)] at hy;simp only [O,if_false];have h1:=hE _ y hy
     have hd:(N++news).drop (i*GT.sz α)=news.drop ((i - xs.length)*GT.sz α):=by
      have e1:i*GT.sz α=N.length+(i - xs.length)*GT.sz α:=by
       rw [aE,<- Nat.add_mul];congr 1;omega
      rw [e1,List.drop_append,List.drop_eq_nil_of_le (by omega)];simp
     rw [hd];exact GT.own_loc h1 λc hc=>a3 c (a1 _ c hc).2
 rcases ho with ⟨rfl,rfl⟩ | ⟨b,off,len,cap,C,T,rfl,hF,hb,hl,hc,aD,aM,a2,g1,g2,g3⟩
 ·by_cases h0:m=0
  ·subst h0;have hy:ys=[]:=List.eq_nil_of_length_eq_zero hm.symm;subst hy;have hn:news=[]:=List.eq_nil_of_length_eq_zero (by simpa using a5);subst hn;refine ⟨.slice none 0 0,w,?_,tT.refl w,λ_ _ _=>rfl,F,λ_ h=>.inl h,a9,.inl ⟨rfl,rfl⟩⟩;have e1:=hS.len (P:=P) (w':=w);have e2:=hS.first (P:=P) (w':=w) rfl;simp [Builtin.append_,run_underlying hT.und,sizeOf,typeInfo,hi,a7,e1,e2]
  ·obtain ⟨_,_,hx⟩:=hS;rcases hx with ⟨_,hx⟩ | ⟨ad,c,rfl,hx⟩
   ·exact absurd hx h0
   ·have hr := run_append_nil (P := P) w t ty e i z hT.und hi hz ad m c news (by rw [a7]; exact a5) hx (by omega) (by omega) (by
     have:m*i.bytes<=2147483648*65536:=Nat.mul_le_mul (by simpa using aB) aI
     omega)
    have hg:=a8 [] 0 (λ_ _=>False) (by simp;omega) (by simp) (by intro i x hx;simp at hx) (by simp) (by simp);simp only [List.length_nil,Nat.zero_add,Array.empty_append,List.nil_append] at hg;exact ⟨_,_,hr,hg⟩
 ·subst hl;by_cases a4:xs.length+m<=cap
  ·have e1:=hS.len (P:=P) (w':=w);have e2:=hS.first (P:=P) (w':=w) rfl
   have aJ:off+xs.length*GT.sz α+news.length<=C.size:=by
    rw [a5,Nat.add_assoc,<- Nat.add_mul];have:=Nat.mul_le_mul_right (GT.sz α) a4;omega
   have aH:=run_storeCells_at P b (off+xs.length*GT.sz α) T news 0 C w hb (by simpa using aJ) hS.2.1;simp only [Nat.add_zero] at aH;refine ⟨.slice (some ⟨b,off,none⟩) (xs.length+m) cap,w.setRow b (C.toList.take (off+xs.length*GT.sz α)++news++C.toList.drop (off+xs.length*GT.sz α+news.length)).toArray,?_,?_,?_,λc=>F c\/∃ i,fps i c,?_,?_,?_⟩
   ·simp [Builtin.append_,run_underlying hT.und,sizeOf,typeInfo,hi,a7,e1,e2,a4,oT,aH]
   ·exact ⟨rfl,rfl,rfl,by simp⟩
   ·intro c _ aN;exact setRow_other w b c _ (λe=>aN (by subst e;exact hF))
   ·rintro c (hc | hc)
    ·exact .inl hc
    ·exact .inr (.inl hc)
   ·rintro c (hc | ⟨i,hc⟩)
    ·simpa using a9 c hc
    ·simpa using (a1 i c hc).2
   ·have a3:∀ c,c≠b->hp (w.setRow b (C.toList.take (off+xs.length*GT.sz α)++news++C.toList.drop (off+xs.length*GT.sz α+news.length)).toArray) c=hp w c :=
     λc hc=>setRow_other w b c _ hc
    have aC:(C.toList.take (off+xs.length*GT.sz α)++news++C.toList.drop (off+xs.length*GT.sz α+news.length)).toArray.size=C.size:=by
     simp;omega
    refine l8.fresh (T:=T) (C:=(C.toList.take (off+xs.length*GT.sz α)++news++C.toList.drop (off+xs.length*GT.sz α+news.length)).toArray) (cs:=seg C off (xs.length*GT.sz α)++news) (fps:=λi=>if i<xs.length then a2 i else fps (i - xs.length)) ?_ ?_ a4 ⟨aD.1,by omega⟩ ?_ ?_ ?_ ?_ ?_ ?_
    ·exact setRow_heap w b C _ T _ hb
    ·simp [hm]
    ·rw [aC];exact aM
    ·rw [Nat.add_mul,<- a5];simp only [seg];have aT:(C.toList.take (off+xs.length*GT.sz α)).length=off+xs.length*GT.sz α:=by simp;omega
     rw [List.append_assoc,List.drop_append_of_le_length (by omega),List.drop_take];have aO:(List.take (off+xs.length*GT.sz α - off) (List.drop off C.toList)).length=xs.length*GT.sz α:=by simp;omega
     rw [List.take_append,aO,List.take_of_length_le (by omega)];simp [Nat.add_sub_cancel_left]
    ·exact .inl hF
    ·intro i c M;by_cases O:i<xs.length
     ·simp only [O,if_true] at M;exact ⟨.inl (g1 i c M).1,(g1 i c M).2⟩
     ·simp only [O,if_false] at M;exact ⟨.inr ⟨_,M⟩,λe=>(a1 _ c M).1 (by rw [e];exact hF)⟩
    ·intro i j c aF M a0;by_cases O:i<xs.length<;>by_cases aG:j<xs.length<;>simp only [O,aG,if_true,if_false] at M a0
     ·exact g2 i j c aF M a0
     ·exact (a1 _ c a0).1 (g1 i c M).1
     ·exact (a1 _ c M).1 (g1 j c a0).1
     ·exact aK _ _ c (by omega) M a0
    ·have a6 : (seg C off (xs.length * GT.sz α)).length = xs.length * GT.sz α := xq (by omega);intro i y hy;by_cases O:i<xs.length
     ·rw [List.getElem?_append_left O] at hy;simp only [O,if_true];have h1:=g3 i y hy;have aR:=mg (s:=GT.sz α) O;rw [yE aR] at h1;rw [List.drop_append_of_le_length (by omega),List.take_append_of_le_length (by simp [a6];omega)];exact GT.own_loc h1 λc hc=>a3 c (g1 i c hc).2
     ·rw [List.getElem?_append_right (by omega)] at hy;simp only [O,if_false];have h1:=hE _ y hy
      have hd:(seg C off (xs.length*GT.sz α)++news).drop (i*GT.sz α)=news.drop ((i - xs.length)*GT.sz α):=by
       have e1:i*GT.sz α=(seg C off (xs.length*GT.sz α)).length+(i - xs.length)*GT.sz α:=by
        rw [a6,<- Nat.add_mul];congr 1;omega
       rw [e1,List.drop_append,List.drop_eq_nil_of_le (by omega)];simp
      rw [hd];exact GT.own_loc h1 λc hc=>a3 c (λe=>(a1 _ c hc).1 (by rw [e];exact hF))
  ·have a6:(seg C off (xs.length*GT.sz α)).length=xs.length*GT.sz α:=xq (by
    have:=Nat.mul_le_mul_right (GT.sz α) hc;omega)
   obtain ⟨_,_,hx⟩:=hS;rcases hx with ⟨_,hx⟩ | ⟨ad,c,rfl,hx⟩
   ·omega
   ·have hr := run_append_grow (P := P) w t ty e i z hT.und hi hz ⟨b, off, none⟩ xs.length cap (seg C off (xs.length * GT.sz α)) (by rw [a7]; exact a6) (zd hb) ad m c news (by rw [a7]; exact a5) hx (by omega) (by omega) (growslice_fits (by omega) (by
     have:(xs.length+m)*i.bytes<=2147483648*65536:=Nat.mul_le_mul aB aI
     omega))
    have hg:=a8 (seg C off (xs.length*GT.sz α)) cap a2 (by omega) a6 (λi y hy=>by
     have h1:=g3 i y hy
     rwa [yE (mg (show i<xs.length from (List.getElem?_eq_some_iff.1 hy).1))] at h1) (λi c M=>(g1 i c M).1) g2
    exact ⟨_,_,hr,hg⟩
end
end Go.Wk
namespace Go.Wk
open Go Go.RowKit
section
variable {α:Type} [GT α] {w0 w:World} {hz:kR} {L:List Ch} {sv:Value} {xs:List α}
theorem Mem.ow_rep {cs:List Value} {x:α} (M:Mem w0 hz w L) (k:Nat) (N:L[k]?=some (ow cs x)):GT.rep (hp w) cs x :=
 let ⟨_,h1,_⟩:=M.get k N
 GT.own_rep h1
theorem ju {h:kR} (M:GT.rep h [sv] xs):∃ p cap,sv=.slice p xs.length cap/\xs.length<=140737488355328:=(og.1 M).len
theorem da2 {h:kR} (M:GT.rep h [sv] xs) {i:Nat} (hi:i<xs.length) :
  ∃ b off cap,sv=.slice (some ⟨b,off,none⟩) xs.length cap/\∃ cs,kS h b (off+i*GT.sz α) cs/\GT.rep h cs xs[i]:=(og.1 M).at hi
end
def Con (P:Program) (f:FuncId) (args:List Value) (w:World) (R:Value->World->Prop):Prop:=Calls P f args.toArray w (Rt R)
def evs (l:Env):List Operand->Option (List Value)
 | []=>some []
 | x::r=>match ev l x,evs l r with
  | some v,some vs=>some (v::vs)
  | _,_=>none
theorem Fr.evals {n:Nat} {l:Env} {a:Act} (O:Fr n l a):∀ {xs:List Operand} {vs:List Value},evs l xs=some vs->xs.map a.eval=vs
 | [],vs,h=>by simp [evs] at h;simp [h]
 | x::r,vs,h=>by
  simp only [evs] at h;cases M:ev l x with
  | none=>simp [M] at h
  | some v =>
   cases N:evs l r with
   | none=>simp [M,N] at h
   | some W =>
    simp only [M,N,Option.some.injEq] at h;subst h;simp [O.eval M,O.evals N]
section
variable {P:Program} {a:Act} {w w0:World} {hz:kR} {L:List Ch} {o:Oper} {n:Nat} {l:Env} {v:Value} {x y c:Operand} {t e s T:TypeId}
theorem ki {f : FuncId} {W : List Operand} {vs : List Value} {O : Array TypeId} {R : Value -> World -> Prop} (hf : Fr n l a) (ho : o.op = .call { callee := .value (.func f), args := W.toArray, argTypes := O })
  (hc:∀ args w,(callFunc f args).run P w=.ok (.enter f args) w) (ha:evs l W=some vs) (h:Con P f vs w R):Ef P a w o R:=λK Q hk=>by
 have M:Array.map a.eval W.toArray=vs.toArray:=by rw [List.map_toArray,hf.evals ha]
 unfold Oper.wp
 have hr:(execOp a.eval o).run P w=.ok (.enter f vs.toArray) w:=by
  simp only [execOp,ho,resolve,Act.eval,M,Deferred.ofValue];simp [invoke,hc]
 rw [hr]
 exact Calls.mono h λe w' N=>by
  cases e with
  | returned u=>exact hk u w' N
  | panicked ch=>exact N.elim
  | outgrown=>exact N.elim
end
theorem ca8 {P:Program} {f:FuncId} {fn:Func} {c:Code} {args:List Value} {w:World} {R:Value->World->Prop} {n:Nat} {l:Env}
  (N:P.funcs[f]?=some fn) (hb:fn.body=some c) (hn:fn.ntmps=n) (O:∀ t v,lk l t=some v->args[t]?=some v) (M:Nat.ble args.length n=true)
  (h:∀ a,Fr n l a->c.wk P (bodyPost P fn (Rt R)) a w):Con P f args w R :=
 ca3 N hb (h _ (by
  have:args.length<=n:=Nat.le_of_ble_eq_true M
  exact Fr.start (by simp [hn];omega) (λt v W=>by simpa using O t v W)))
def cr4:Env->List Value->Prop
 | [],_=>True
 | p::r,args=>args[p.1]?=some p.2/\cr4 r args
theorem cr4.get:∀ {l:Env} {args:List Value},cr4 l args->∀ t v,lk l t=some v->args[t]?=some v
 | [],_,_,_,_,h=>by simp [lk] at h
 | p::r,args,⟨h1,h2⟩,t,v,h=>by
  simp only [lk] at h;by_cases e:Nat.beq p.1 t=true
  ·rw [e] at h;simp only [cond_true,Option.some.injEq] at h;rw [<- Nat.eq_of_beq_eq_true e,<- h];exact h1
  ·rw [Bool.not_eq_true] at e;rw [e] at h;exact cr4.get h2 t v h
section
variable {P:Program} {fn:Func} {R:Value->World->Prop} {a:Act} {w w0:World} {hz:kR} {L:List Ch} {n:Nat} {l:Env} {v v1 v2 v3:Value} {t t1 t2 t3:Nat}
theorem Fr.getD (M:Fr n l a) (h:lk l t=some v):a.tmps.getD t undef=v:=by
 have:=M.get t v h;simp [Array.getD_eq_getD_getElem?,this]
theorem cp7 (M:Fr n l a) (O:fn.results=#[.tmp t]) (N:lk l t=some v) (h:R v w):bodyPost P fn (Rt R) .ret a w :=
 ⟨M.defers,v,by rw [results_tmp O,M.getD N],h⟩
theorem co1 (M:Fr n l a) (N:fn.results=#[]) (h:R (.tuple #[]) w):bodyPost P fn (Rt R) .normal a w :=
 ⟨M.defers,.tuple #[],by rw [results_none N],h⟩
theorem wa {b T ty:Nat} {cs:List Value} (hb:w.heap[b]?=some (.cells cs.toArray T (0,0))) (N:∀ w,(isAgg ty).run P w=.ok true w) (hs:∀ w,(sizeOf ty).run P w=.ok cs.length w) :
  (loadVar ty ⟨b,0,none⟩).run P w=.ok (.agg cs.toArray) w:=by
 have:=run_loadCells_list (P:=P) w ⟨b,0,none⟩ cs (λj v M=>by rw [oT];simp [World.cell?,hb,M]);simp [loadVar,N,hs,this]
theorem cd7 {b T ty:Nat} {cs:List Value} (k:Nat) (M:Fr n l a) (hr:fn.results=#[.cell t ty]) (N:Mem w0 hz w L) (O:L[k]?=some (blk b cs T)) (ht:lk l t=some (.pointer (some ⟨b,0,none⟩)))
  (hg:∀ w,(isAgg ty).run P w=.ok true w) (hs:∀ w,(sizeOf ty).run P w=.ok cs.length w) (h:R (.agg cs.toArray) w):bodyPost P fn (Rt R) .ret a w:=by
 refine ⟨M.defers,.agg cs.toArray,?_,h⟩;have W:=wa (N.blk_cells k O).1 hg hs;simp [results,hr,M.get _ _ ht,asAddr,W]
theorem cf8 (M:Fr n l a) (N:fn.results=#[.tmp t1,.tmp t2]) (h1:lk l t1=some v1) (h2:lk l t2=some v2) (h:R (.tuple #[v1,v2]) w):bodyPost P fn (Rt R) .ret a w :=
 ⟨M.defers,.tuple #[v1,v2],by rw [results_tmp2 N,M.getD h1,M.getD h2],h⟩
theorem bb8 {b T ty:Nat} {cs:List Value} (k:Nat) (M:Fr n l a) (hr:fn.results=#[.cell t ty,.tmp t2]) (N:Mem w0 hz w L) (O:L[k]?=some (blk b cs T)) (ht:lk l t=some (.pointer (some ⟨b,0,none⟩)))
  (hg:∀ w,(isAgg ty).run P w=.ok true w) (hs:∀ w,(sizeOf ty).run P w=.ok cs.length w) (h2:lk l t2=some v2) (h:R (.tuple #[.agg cs.toArray,v2]) w):bodyPost P fn (Rt R) .ret a w:=by
 refine ⟨M.defers,.tuple #[.agg cs.toArray,v2],?_,h⟩;have W:=wa (N.blk_cells k O).1 hg hs;simp [results,hr,M.get _ _ ht,M.get _ _ h2,asAddr,W]
end
def cz2 {α:Type} [GT α] (w w':World) (cs:List Value) (x:α):Prop :=
 Below w.heap.size w w'/\∃ F,(∀ b,F b->w.heap.size<=b/\b<w'.heap.size)/\GT.own F (hp w') cs x
theorem Mem.fresh {α:Type} [GT α] {w0 w w':World} {hz:kR} {L:List Ch} {cs:List Value} {x:α} (M:Mem w0 hz w L) (h:cz2 w w' cs x):Mem w0 hz w' (ow cs x::L) :=
 M.more (tT.of_below h.1) h.1.block h.2
def qP {S X:Type} (body:S->Option (S ⊕ X)):Nat->S->Option X
 | 0,_=>none
 | n+1,s=>match body s with
  | none=>none
  | some (.inl s')=>qP body n s'
  | some (.inr x)=>some x
theorem yv {S X:Type} {body:S->Option (S ⊕ X)} {x:X}:∀ {n m:Nat} {s:S},n<=m->qP body n s=some x->qP body m s=some x
 | 0,_,_,_,h=>by simp [qP] at h
 | n+1,0,_,hnm,_=>by omega
 | n+1,m+1,s,hnm,h=>by
  simp only [qP] at h ⊢;cases hb:body s with
  | none=>simp [hb] at h
  | some r =>
   cases r with
   | inl M=>simp only [hb] at h ⊢;exact yv (by omega) h
   | inr y=>simp only [hb] at h ⊢;exact h
open Classical in
noncomputable def kx {S X:Type} (body:S->Option (S ⊕ X)) (s:S):Option X :=
 if h:∃ n x,qP body n s=some x then some h.choose_spec.choose else none
theorem qu {S X:Type} {body:S->Option (S ⊕ X)} {s:S} {x:X}:kx body s=some x↔∃ n,qP body n s=some x:=by
 unfold kx;constructor
 ·intro h;split at h
  ·rename_i hh;simp only [Option.some.injEq] at h;exact ⟨hh.choose,by rw [<- h];exact hh.choose_spec.choose_spec⟩
  ·cases h
 ·rintro ⟨n,M⟩;have hh:∃ n x,qP body n s=some x:=⟨n,x,M⟩;rw [dif_pos hh];have h1:=hh.choose_spec.choose_spec;have h2:=yv (Nat.le_max_left hh.choose n) h1;have N:=yv (Nat.le_max_right hh.choose n) M;rw [h2] at N;exact N
theorem wU {S X:Type} (body:S->Option (S ⊕ X)) (s:S) :
  kx body s=match body s with
   | none=>none
   | some (.inl N)=>kx body N
   | some (.inr x)=>some x:=by
 cases hb:body s with
 | none =>
  cases h:kx body s with
  | none=>rfl
  | some x =>
   obtain ⟨n,M⟩:=qu.1 h;cases n<;>simp [qP,hb] at M
 | some r =>
  cases r with
  | inr x=>exact qu.2 ⟨1,by simp [qP,hb]⟩
  | inl N =>
   simp only;cases h:kx body N with
   | some x =>
    obtain ⟨n,M⟩:=qu.1 h;exact qu.2 ⟨n+1,by simp [qP,hb,M]⟩
   | none =>
    cases h2:kx body s with
    | none=>rfl
    | some x =>
     obtain ⟨n,M⟩:=qu.1 h2;cases n with
     | zero=>simp [qP] at M
     | succ n =>
      simp only [qP,hb] at M;rw [qu.2 ⟨n,M⟩] at h;cases h
theorem cb2 {S X:Type} {P:Program} {c:Code} {Q:Exit->Act->World->Prop} {a:Act} {w:World} (body:S->Option (S ⊕ X)) (I:S->Act->World->Prop) {s:S} {x:X}
  (hx:kx body s=some x) (h0:I s a w)
  (hr:∀ s a w r,I s a w->body s=some r->(∀ y,r=.inr y->y=x)->c.wk P (Exit.then (λO w'=>∃ N,r=.inl N/\I N O w') Q) a w):(Code.loop c).wk P Q a w:=by
 obtain ⟨n,hn⟩:=qu.1 hx
 have key:∀ m s a w,qP body m s=some x->I s a w->c.wk P (Exit.then (λO w'=>∃ m' N,m=m'+1/\qP body m' N=some x/\I N O w') Q) a w:=by
  intro m s a w M W;cases m with
  | zero=>simp [qP] at M
  | succ m =>
   simp only [qP] at M;cases hb:body s with
   | none=>simp [hb] at M
   | some r =>
    have:=hr s a w r W hb (by
     rintro y rfl;simp only [hb,Option.some.injEq] at M
     exact M)
    refine Code.wk_mono ?_ this;intro e O w' h;cases e with
    | normal =>
     obtain ⟨N,rfl,a0⟩:=h;simp only [hb] at M;exact ⟨m,N,rfl,M,a0⟩
    | _=>exact h
 refine be3 (λm a w=>∃ s,qP body m s=some x/\I s a w) ⟨s,hn,h0⟩ ?_;rintro m a w ⟨s,M,W⟩;refine Code.wk_mono (λe O w' h=>?_) (key m s a w M W);cases e with
 | normal =>
  obtain ⟨m',N,rfl,h1,h2⟩:=h;exact ⟨m',Nat.lt_succ_self _,N,h1,h2⟩
 | _=>exact h
end Go.Wk
namespace Go.Wk
open Go Go.RowKit
def jr {α:Type} (xs:List α) (j:Int):Option α:=if 0<=j then xs[j.toNat]? else none
def k8 {α:Type} (xs ys:List α):Option (List α):=if xs.length+ys.length<=2147483648 then some (xs++ys) else none
def oJ {α:Type} (z:α) (n:Int):Option (List α):=if 0<=n/\n<=2147483648 then some (List.replicate n.toNat z) else none
theorem jz {α:Type} {xs:List α} {j:Int} {x:α}:jr xs j=some x↔0<=j/\xs[j.toNat]?=some x:=by
 unfold jr;by_cases h:0<=j<;>simp [h]
theorem kP {α:Type} {xs ys zs:List α}:k8 xs ys=some zs↔xs.length+ys.length<=2147483648/\xs++ys=zs:=by
 unfold k8;by_cases h:xs.length+ys.length<=2147483648<;>simp only [h,if_true,if_false,Option.some.injEq,true_and,false_and];simp
theorem lU {α:Type} {z:α} {n:Int} {ys:List α}:oJ z n=some ys↔(0<=n/\n<=2147483648)/\List.replicate n.toNat z=ys:=by
 unfold oJ;by_cases h:0<=n/\n<=2147483648<;>simp only [h,if_true,if_false,Option.some.injEq,true_and,false_and];simp
section
variable {α:Type} [GT α] {sv:Value} {xs:List α} {h:kR}
theorem bo3 (O:GT.rep h [sv] xs) {i:Nat} {x:α} (M:xs[i]?=some x) :
  ∃ b off cap,sv=.slice (some ⟨b,off,none⟩) xs.length cap/\i<xs.length/\∃ cs,kS h b (off+i*GT.sz α) cs/\GT.rep h cs x:=by
 obtain ⟨hi,rfl⟩:=List.getElem?_eq_some_iff.1 M;obtain ⟨b,off,cap,h1,cs,h2,N⟩:=da2 O hi;exact ⟨b,off,cap,h1,hi,cs,h2,N⟩
theorem kn {b off len cap:Nat} (M:GT.rep h [.slice (some ⟨b,off,none⟩) len cap] xs) {i:Nat} {x:α} (O:xs[i]?=some x) :
  i<len/\∃ cs,kS h b (off+i*GT.sz α) cs/\GT.rep h cs x:=by
 obtain ⟨_,_,_,h1,hi,cs,h2,N⟩:=bo3 M O;simp only [Value.slice.injEq,Option.some.injEq,Addr.mk.injEq] at h1;obtain ⟨⟨rfl,rfl,_⟩,rfl,rfl⟩:=h1;exact ⟨hi,cs,h2,N⟩
end
theorem au8 {z:Array Value} {n s i:Nat} (hz:z.size=s) (hi:i<n):seg (madeCells z (n*s)) (0+i*s) s=z.toList:=by
 apply List.ext_getElem?;intro j;by_cases M:j<s
 ·rw [nP M];have h1:=mg (s:=s) hi;have h2:0+i*s+j<n*s:=by omega
  have O:(0+i*s+j) % z.size=j:=by rw [hz,Nat.zero_add,Nat.mul_comm,Nat.mul_add_mod];exact Nat.mod_eq_of_lt M
  have N:j<z.size:=by omega
  simp only [madeCells,Array.getElem?_map];rw [Array.getElem?_eq_getElem (by simpa using h2)];simp only [Array.getElem_range,Option.map_some,O];simp [N]
 ·simp [seg,List.getElem?_take,M];omega
section
variable {α:Type} [GT α] {P:Program} {a:Act} {w w0:World} {hz:kR} {L:List Ch} {o:Oper} {n:Nat} {l:Env} {v sv z:Value} {x y c:Operand} {t e s T:TypeId} {xs:List α}
theorem ni {x0:α} {kl kc:IntKind} {N M:Int} (hT:oK P t e (GT.sz α) z) (h0:∀ h,GT.own (λ_=>False) h z.cells.toList x0) (hf:Fr n l a) (hm:Mem w0 hz w L) (ho:o.op=.makeSlice t x y)
  (hx:ev l x=some (.int kl N)) (hy:ev l y=some (.int kc M)) (a1:0<=N) (a4:N<=M) (hc:M<=2147483648) :
  Ef P a w o (λv w'=>Mem w0 hz w' (ow [v] (List.replicate N.toNat x0)::L)):=by
 obtain ⟨i,hi,a2,a3,a5⟩:=hT.info
 have a0:(i.bytes:Int)*M<=281474976710656:=by
  obtain ⟨m,rfl⟩:=Int.eq_ofNat_of_zero_le (show 0<=M by omega);have:i.bytes*m<=65536*2147483648:=Nat.mul_le_mul a3 (by omega);have h2:((i.bytes*m:Nat):Int)<=281474976710656:=by omega
  rwa [Int.natCast_mul] at h2
 have hr:=run_make (P:=P) w t e i z hT.und hi a5 kl kc N M a1 a4 a0 (by omega);rw [a2] at hr;refine nR (w':=w.alloc (.cells (madeCells z.cells (M.toNat*GT.sz α)) e)) (v:=.slice (some ⟨w.heap.size,0,none⟩) N.toNat M.toNat) (by simp [execOp,ho,hf.eval hx,hf.eval hy,hr]) ?_;refine hm.more ⟨rfl,rfl,rfl,by simp⟩ (λb hb=>Below.heap_alloc w _ b hb) ⟨λb=>b=w.heap.size,λb hb=>by subst hb;simp,?_⟩;refine ke.2 (l8.fresh (T:=e) (C:=madeCells z.cells (M.toNat*GT.sz α)) (fps:=λ_ _=>False) (heap_alloc_new w _) (by simp) (by omega) ⟨by simp [maxLen];omega,by omega⟩ (by simp [size_madeCells]) rfl rfl (λ_ _ h=>h.elim) (λ_ _ _ _ h=>h.elim) ?_);intro j y W;have O:j<N.toNat:=by have:=(List.getElem?_eq_some_iff.1 W).1;simpa using this
 have hy:y=x0:=by
  rw [List.getElem?_replicate] at W;simp [O] at W;exact W.symm
 subst hy;rw [<- yE (mg O),show (0:Nat)+j*GT.sz α=0+j*GT.sz α from rfl,au8 hT.zs (by omega)];exact h0 _
theorem kj {len:Nat} {M:Array (Nat × Operand)} {vs:Array (Nat × Value)} {cs:List Value} (hT:oK P t e s z) (hf:Fr n l a) (hm:Mem w0 hz w L) (ho:o.op=.buildSlice t len M)
  (hv:(M.toList.map λp=>(ev l p.2).map λv=>(p.1,v))=vs.toList.map some) (W:Instr.fill (λi=>some (i*s,s)) ((Array.range (len*s)).map (z.cells[· % z.cells.size]!)) vs.toList=some cs.toArray) (a0:Nat.ble 1 (len*s)=true) (a2:Nat.ble (len*s) 16777216=true) :
  Ef P a w o (λv w'=>∃ b,v=.slice (some ⟨b,0,none⟩) len len/\Mem w0 hz w' (blk b cs e::L)):=by
 obtain ⟨i,hi,a5,_,a3⟩:=hT.info;have h1:=Nat.le_of_ble_eq_true a0;have h2:=Nat.le_of_ble_eq_true a2
 have N:(M.map λp=>(p.1,a.eval p.2))=vs:=by
  apply Array.ext';rw [Array.toList_map]
  have:∀ (ps:List (Nat × Operand)) (O:List (Nat × Value)),(ps.map λp=>(ev l p.2).map λv=>(p.1,v))=O.map some->ps.map (λp=>(p.1,a.eval p.2))=O:=by
   intro ps
   induction ps with
   | nil=>intro O h;cases O<;>simp_all
   | cons p ps ih =>
    intro O h;cases O with
    | nil=>simp at h
    | cons u O =>
     simp only [List.map_cons,List.cons.injEq] at h;obtain ⟨ha,hb⟩:=h;cases hp:ev l p.2 with
     | none=>simp [hp] at ha
     | some v =>
      simp only [hp,Option.map_some,Option.some.injEq] at ha;simp [hf.eval hp,ha,ih O hb]
  exact this _ _ hv
 refine nR (w':=w.alloc (.cells cs.toArray e)) (v:=.slice (some ⟨w.heap.size,0,none⟩) len len) ?_ ⟨_,rfl,hm.alloc cs e⟩;have a1:¬ len*s=0:=by omega
 have a4:¬ 16777216<len*s:=by omega
 simp only [execOp,ho,Instr.buildSlice,Sem.run_bind,run_underlying hT.und,Result.andThen_ok,N];simp [sizeOf,typeInfo,hi,a5,a1,a4,zeroValue,a3,W,newRow]
end
section
variable {α:Type} [Flat α] {P:Program} {a:Act} {w w0:World} {hz:kR} {L:List Ch} {o:Oper} {n:Nat} {l:Env} {v sv z:Value} {x y c:Operand} {t e s T:TypeId} {xs ys:List α}
theorem vz:∀ {xs:List α} {i:Nat} {x:α},xs[i]?=some x->((xs.flatMap Flat.enc).drop (i*GT.sz α)).take (GT.sz α)=Flat.enc x
 | [],i,x,h=>by simp at h
 | y::ys,i,x,h=>by
  have M:(Flat.enc y).length=GT.sz α:=GT.len (h:=λ_=>none) (Flat.rep_iff.2 rfl);cases i with
  | zero=>simp at h;subst h;simp [M]
  | succ i =>
   have:=vz (xs:=ys) (i:=i) (x:=x) (by simpa using h);rw [List.flatMap_cons,show (i+1)*GT.sz α=(Flat.enc y).length+i*GT.sz α by rw [M,Nat.add_mul];omega,List.drop_append,List.drop_eq_nil_of_le (by omega)];simpa using this
theorem ss:∀ (xs:List α),(xs.flatMap Flat.enc).length=xs.length*GT.sz α
 | []=>by simp
 | y::ys=>by
  have M:(Flat.enc y).length=GT.sz α:=GT.len (h:=λ_=>none) (Flat.rep_iff.2 rfl);simp [ss ys,M,Nat.add_mul,Nat.add_comm]
theorem cd2 (xs:List α):∀ v∈xs.flatMap Flat.enc,v.oneCell'=true:=by
 intro v hv;obtain ⟨x,_,M⟩:=List.mem_flatMap.1 hv;exact GT.one (h:=λ_=>none) (Flat.rep_iff.2 rfl) v M
theorem Mem.lit {b len:Nat} {cs:List Value} (W:Mem w0 hz w L) (k:Nat) (hk:L[k]?=some (blk b cs e)) (O:xs.flatMap Flat.enc=cs) (M:xs.length=len) (N:Nat.ble len 16777216=true) :
  Mem w0 hz w (L.set k (ow [.slice (some ⟨b,0,none⟩) len len] xs)):=by
 have h2:=Nat.le_of_ble_eq_true N;refine W.imp k hk λF hF=>?_
 subst O;refine ke.2 (l8.fresh (T:=e) (C:=(xs.flatMap Flat.enc).toArray) (fps:=λ_ _=>False) hF.2 M (Nat.le_refl _) ⟨by simp [maxLen];omega,by omega⟩ (by simp only [List.size_toArray,Nat.zero_add];rw [ss,M];exact Nat.le_refl _) rfl hF.1 (λ_ _ h=>h.elim) (λ_ _ _ _ h=>h.elim) ?_);refine ao8 λi y hy=>?_
 have:seg (xs.flatMap Flat.enc).toArray 0 (len*GT.sz α)=xs.flatMap Flat.enc:=by
  rw [bf5,List.drop_zero,List.take_of_length_le];rw [ss,M];exact Nat.le_refl _
 rw [this];exact vz hy
theorem bs5 {w:World} (hr:GT.rep (hp w) [v] xs):Src w (GT.sz α) xs.length v (xs.flatMap Flat.enc):=by
 refine ⟨ss xs,cd2 xs,?_⟩;rcases og.1 hr with ⟨rfl | ⟨p,cap,rfl⟩,rfl⟩ | ⟨b,off,len,cap,rfl,hl,hc,_,_⟩
 ·exact .inl ⟨rfl,rfl⟩
 ·exact .inr ⟨p,cap,rfl,λj u hu=>by simp at hu⟩
 ·subst hl;refine .inr ⟨_,cap,rfl,?_⟩;obtain ⟨cs,g1,_,g3,g4⟩:=qB.cells (og.1 hr)
  have:xs.flatMap Flat.enc=cs:=by
   apply List.ext_getElem?;intro j;by_cases O:j<xs.length*GT.sz α
   ·have M:0<GT.sz α:=by
     rcases Nat.eq_zero_or_pos (GT.sz α) with h | h
     ·simp [h] at O
     ·exact h
    have hi:j / GT.sz α<xs.length:=(Nat.div_lt_iff_lt_mul M).2 O;have N:=vz (List.getElem?_eq_getElem hi);have e2:=Flat.rep_iff.1 (g4 _ _ (List.getElem?_eq_getElem hi));have e3:=congrArg (λl=>l[j % GT.sz α]?) (N.trans e2.symm);have W:=Nat.mod_lt j M;simp only [List.getElem?_take_of_lt W,List.getElem?_drop] at e3
    rwa [show j / GT.sz α*GT.sz α+j % GT.sz α=j by rw [Nat.mul_comm];exact Nat.div_add_mod j _] at e3
   ·rw [List.getElem?_eq_none (by rw [ss];omega),List.getElem?_eq_none (by omega)]
  rw [this];intro j u O;obtain ⟨C,T,_,N,e2⟩:=g3 j u O;rw [oT];simp only [hp] at N;simp [World.cell?,N,e2]
theorem kz (k : Nat) (hT : oK P t e (GT.sz α) z) (hf : Fr n l a) (hm : Mem w0 hz w L) (hk : L[k]? = some (ow [sv] xs)) (W : GT.rep (hp w) [v] ys) (ho : o.op = .call { callee := .builtin .append, args := #[x, y], argTypes := #[t, t] })
  (hx:ev l x=some sv) (hy:ev l y=some v) (M:xs.length+ys.length<=2147483648) :
  Ef P a w o (λv' w'=>Mem w0 hz w' (L.set k (ow [v'] (xs++ys)))):=by
 obtain ⟨F,hF,a1⟩:=hm.get k hk;obtain ⟨v',w',hr,hs,_,F',_,_,_⟩:=ay9 (ty:=o.type) hT (ke.1 hF) (λb hb=>(a1 b hb).1) (bs5 W) rfl (λ_ _=>False) (ao8 λi x hx=>vz hx) (λ_ _ h=>h.elim) (λ_ _ _ _ h=>h.elim) M;refine nR (w':=w') (v:=v') ?_ ?_
 ·simp [execOp,ho,resolve,invoke,builtin,hf.eval hx,hf.eval hy,hr]
 ·refine hm.upd k hk hs λG hG a0=>?_
  obtain ⟨v2,_,N,_,O,F2,p1,p2,p3⟩:=ay9 (ty:=o.type) hT (ke.1 hG) a0 (bs5 W) rfl (λ_ _=>False) (ao8 λi x hx=>vz hx) (λ_ _ h=>h.elim) (λ_ _ _ _ h=>h.elim) M;rw [hr] at N;simp only [Result.ok.injEq] at N;obtain ⟨rfl,rfl⟩:=N;refine ⟨F2,λb hb=>?_,p2,ke.2 p3,O⟩;rcases p1 b hb with h | ⟨_,h⟩ | h
  ·exact .inl h
  ·exact h.elim
  ·exact .inr h
theorem nY {cs vs:List Value} {o j:Nat} (N:o+vs.length<=cs.length):(mM cs o vs)[j]?=if o<=j/\j<o+vs.length then vs[j - o]? else cs[j]?:=by
 unfold mM;have M:(cs.take o).length=o:=by simp;omega
 by_cases h1:j<o
 ·rw [if_neg (by omega),List.append_assoc,List.getElem?_append_left (by omega),List.getElem?_take_of_lt h1]
 ·by_cases h2:j<o+vs.length
  ·rw [if_pos (by omega),List.append_assoc,List.getElem?_append_right (by omega),M,List.getElem?_append_left (by omega)]
  ·rw [if_neg (by omega), List.getElem?_append_right (by simp; omega), List.getElem?_drop]
   congr 1
   simp;omega
theorem n5 {cs vs:List Value} {o:Nat} (M:o+vs.length<=cs.length):(mM cs o vs).length=cs.length:=by
 simp [mM];omega
theorem Mem.setRow {b off len cap i j:Nat} {x0 x1:α} {vs:List Value} {C:Array Value} {T':TypeId} (k:Nat) (hm:Mem w0 hz w L) (hk:L[k]?=some (ow [.slice (some ⟨b,off,none⟩) len cap] xs)) (hx:xs[i]?=some x0)
  (hj:j+vs.length<=GT.sz α) (he:mM (Flat.enc x0) j vs=Flat.enc x1) (hC:w.heap[b]?=some (.cells C T' (0,0))) :
  Mem w0 hz (w.setRow b (mM C.toList (off+i*GT.sz α+j) vs).toArray) (L.set k (ow [.slice (some ⟨b,off,none⟩) len cap] (xs.set i x1))):=by
 obtain ⟨hi,a3⟩:=List.getElem?_eq_some_iff.1 hx;refine hm.upd k hk ⟨rfl,rfl,rfl,by simp⟩ λF hF a2=>?_
 have ho:=ke.1 hF;obtain ⟨_,_,G,q1,q2,_,_,_,q6⟩:=ho.at hi;have:hp w b=some (.cells C T' (0,0)):=hC;rw [this] at q1;simp only [Option.some.injEq,Obj.cells.injEq] at q1;obtain ⟨rfl,rfl,_⟩:=q1;have a5:(Flat.enc x0).length=GT.sz α:=GT.len (h:=λ_=>none) (Flat.rep_iff.2 rfl);have N:off+i*GT.sz α+j+vs.length<=C.toList.length:=by simp;omega
 have a4:=setRow_heap w b C (mM C.toList (off+i*GT.sz α+j) vs).toArray T' (0,0) hC;refine ⟨F,λ_ h=>.inl h,λc hc=>by simpa using a2 c hc,?_,λc _ M=>setRow_other w b c _ (λe=>M (by subst e;exact q2))⟩
 have cr3 := l8.put (h' := hp (w.setRow b (mM C.toList (off + i * GT.sz α + j) vs).toArray)) (G := fun _ => False) (x' := x1) ho hi hC a4 (by simp [n5 N]) (by
  intro q hq;simp only [List.getElem?_toArray,nY N];rw [if_neg (by omega)]
  simp) (λc _ M=>setRow_other w b c _ M) (λ_ h=>h.elim) (Flat.own_iff.2 (by
   rw [<- he];apply List.ext_getElem?;intro q;have a1:=Flat.own_iff.1 q6;by_cases hq:q<GT.sz α
   ·rw [nP hq, List.getElem?_toArray, nY N, nY (by omega)];have e0:(Flat.enc x0)[q]?=C[off+i*GT.sz α+q]?:=by rw [<- a3,<- a1,nP hq]
    by_cases hc:j<=q/\q<j+vs.length
    ·rw [if_pos (by omega),if_pos hc];congr 1;omega
    ·rw [if_neg (by omega),if_neg hc,e0];simp
   ·rw [List.getElem?_eq_none (by simp [seg];omega),List.getElem?_eq_none (by rw [n5 (by omega)];omega)]))
 exact ke.2 (by
  rcases cr3 with cr3 | ⟨b1,O,a0,W,C1,T1,e1,e2,e3⟩
  ·exact .inl cr3
  ·obtain ⟨r1,r2,r3,r4,r5,fps,r6,r7,r8⟩:=e3
   exact .inr ⟨b1,O,a0,W,C1,T1,e1,by simpa using e2,r1,r2,r3,r4,r5,fps,λi c hc=>by simpa using r6 i c hc,r7,r8⟩)
theorem lI {b off len cap i j:Nat} {x0 x1:α} {vs:List Value} {ty:TypeId} (k:Nat) (hf:Fr n l a) (hm:Mem w0 hz w L) (W:L[k]?=some (ow [.slice (some ⟨b,off,none⟩) len cap] xs)) (M:xs[i]?=some x0)
  (ho:o.op=.store ty x y) (hs:∀ w,(sizeOf ty).run P w=.ok vs.length w) (hx:ev l x=some (.pointer (some ⟨b,off+i*GT.sz α+j,none⟩))) (hy:ev l y=some v) (hv:v.cells=vs.toArray) (h1:∀ u∈vs,u.oneCell'=true)
  (hj:Nat.ble (j+vs.length) (GT.sz α)=true) (he:mM (Flat.enc x0) j vs=Flat.enc x1) :
  Ef P a w o (λ_ w'=>Mem w0 hz w' (L.set k (ow [.slice (some ⟨b,off,none⟩) len cap] (xs.set i x1)))):=by
 have O:=Nat.le_of_ble_eq_true hj;obtain ⟨hi,_⟩:=List.getElem?_eq_some_iff.1 M;obtain ⟨F,hF,_⟩:=hm.get k W;obtain ⟨C,T',G,q1,_,_,_,_,_⟩:=(ke.1 hF).at hi;have N:=run_storeCells_at P b (off+i*GT.sz α+j) T' vs 0 C w q1 (by simp;omega) h1;refine sd (w':=w.setRow b (mM C.toList (off+i*GT.sz α+j) vs).toArray) ?_ (Mem.setRow k hm W M O he q1);simp [execOp,ho,hf.eval hx,hf.eval hy,Instr.storeAt,Instr.sureAddr,storeVar,hv,hs,N,mM]
end
end Go.Wk
namespace Go.Wk
open Go Go.RowKit
section
variable {P:Program} {ops:Array Oper} {Q K':Exit->Act->World->Prop} {K next:Act->World->Prop} {a:Act} {w:World} {x y c:Code} {id i:Nat} {l:List Oper}
theorem bh5 {c:Code} (K:Act->World->Prop) (h1:c.wk P (Exit.then K Q) a w) (h2:∀ a w,K a w->Q .normal a w):c.wk P Q a w :=
 Code.wk_mono (λe a w h=>by cases e<;>first | exact h2 _ _ h | exact h) h1
theorem ct8 {n:Nat} {l:Env} {b:Bool} {o:Operand} (M:Fr n l a) (hc:ev l o=some (.bool b)) (hb:b=true) (h:x.wk P Q a w):(Code.cond o x y).wk P Q a w :=
 bs0 (t:=true) (by rw [M.eval hc,hb]) h
theorem cy3 {n:Nat} {l:Env} {b:Bool} {o:Operand} (M:Fr n l a) (hc:ev l o=some (.bool b)) (hb:b=false) (h:y.wk P Q a w):(Code.cond o x y).wk P Q a w :=
 bs0 (t:=false) (by rw [M.eval hc,hb]) h
end
theorem bnd {α β:Type} {o:Option α} {f:α->Option β} {b:β} (h:Option.bind o f=some b):∃ a,o=some a/\f a=some b:=Option.bind_eq_some_iff.1 h
def kO {S X:Type} (body:Int->S->Option (S ⊕ X)):Nat->Int->S->Option (S ⊕ X)
 | 0,_,s=>some (.inl s)
 | k+1,i,s=>match body i s with
  | none=>none
  | some (.inl s')=>kO body k (i+1) s'
  | some (.inr x)=>some (.inr x)
theorem ai4 {S X:Type} {P:Program} {c:Code} {Q:Exit->Act->World->Prop} {a:Act} {w:World} (body:Int->S->Option (S ⊕ X)) (I:Int->S->Act->World->Prop) (O M:Int) {s0:S} {r:S ⊕ X}
  (hx:kO body (M - O).toNat O s0=some r) (h0:I O s0 a w)
  (hr:∀ i s a w,I i s a w->O<=i->i<M->∀ q,body i s=some q->(∀ y,q=.inr y->r=.inr y)->c.wk P (Exit.then (λa' w'=>∃ W,q=.inl W/\I (i+1) W a' w') Q) a w)
  (he:∀ i s a w,I i s a w->O<=i->M<=i->r=.inl s->c.wk P (Exit.then (λ_ _=>False) Q) a w):(Code.loop c).wk P Q a w:=by
 refine be3 (λm a w=>∃ i s,(M - i).toNat=m/\O<=i/\kO body m i s=some r/\I i s a w) ⟨O,s0,rfl,Int.le_refl _,hx,h0⟩ ?_;rintro m a w ⟨i,s,_,hi,N,hI⟩;cases m with
 | zero =>
  simp only [kO,Option.some.injEq] at N;refine Code.wk_mono (λe a' w' h=>?_) (he i s a w hI hi (by omega) N.symm);cases e with
  | normal=>exact h.elim
  | _=>exact h
 | succ m =>
  simp only [kO] at N;cases hb:body i s with
  | none=>simp [hb] at N
  | some q =>
   refine Code.wk_mono (fun e a' w' h => ?_) (hr i s a w hI hi (by omega) q hb (by
    rintro y rfl;simp only [hb,Option.some.injEq] at N
    exact N.symm))
   cases e with
   | normal =>
    obtain ⟨W,rfl,a0⟩:=h;simp only [hb] at N;exact ⟨m,Nat.lt_succ_self _,i+1,W,by omega,by omega,N,a0⟩
   | _=>exact h
def w64 (n:Int):Int:=IntKind.i64.wrap n
theorem kv {n:Int} (h1:-9223372036854775808<=n) (h2:n<9223372036854775808):w64 n=n:=by
 unfold w64;rw [IntKind.wrap_i64];omega
section
variable {P:Program} {l:Env} {w:World} {o:Oper} {x y:Operand} {t t':TypeId} {i j:Int}
theorem cn5 (O:o.op=.binOp .add t x y t') (N:ev l x=some (.int .i64 i)) (M:ev l y=some (.int .i64 j)) (h1:-9223372036854775808<=i+j) (h2:i+j<9223372036854775808):Yl P l w o (.int .i64 (i+j)):=by
 have:=ck3 (P:=P) (w:=w) O N M
 rwa [show IntKind.i64.wrap (i+j)=i+j from kv h1 h2] at this
theorem cm9 (O:o.op=.binOp .sub t x y t') (N:ev l x=some (.int .i64 i)) (M:ev l y=some (.int .i64 j)) (h1:-9223372036854775808<=i - j) (h2:i - j<9223372036854775808):Yl P l w o (.int .i64 (i - j)):=by
 have:=ci1 (P:=P) (w:=w) O N M
 rwa [show IntKind.i64.wrap (i - j)=i - j from kv h1 h2] at this
theorem cu8 (O:o.op=.binOp .add t x y t') (N:ev l x=some (.int .i64 i)) (M:ev l y=some (.int .i64 j)):Yl P l w o (.int .i64 (w64 (i+j))):=ck3 O N M
theorem cw3 (O:o.op=.binOp .sub t x y t') (N:ev l x=some (.int .i64 i)) (M:ev l y=some (.int .i64 j)):Yl P l w o (.int .i64 (w64 (i - j))):=ci1 O N M
theorem cs6 (O:o.op=.binOp .mul t x y t') (N:ev l x=some (.int .i64 i)) (M:ev l y=some (.int .i64 j)):Yl P l w o (.int .i64 (w64 (i*j))):=cr9 O N M
end
section
variable {α:Type} [GT α] {w0 w:World} {hz h:kR} {L:List Ch} {sv:Value} {xs:List α}
theorem ay3:GT.rep h [.slice none 0 0] ([]:List α):=og.2 (.inl ⟨.inl rfl,rfl⟩)
theorem o9 (M:GT.rep h [sv] xs):xs.length<=140737488355328:=let ⟨_,_,_,h⟩:=ju M;h
theorem kF (M:GT.rep h [sv] xs):sv.oneCell'=true:=GT.one M _ (List.mem_singleton.2 rfl)
theorem Mem.nilow (M:Mem w0 hz w L):Mem w0 hz w (ow [.slice none 0 0] ([]:List α)::L) :=
 M.more (tT.refl w) (λ_ _=>rfl) ⟨λ_=>False,λ_ h=>h.elim,ke.2 (.inl ⟨rfl,rfl⟩)⟩
theorem Mem.blk_at {b:Nat} {cs:List Value} {T:TypeId} (N:Mem w0 hz w L) (k:Nat) (O:L[k]?=some (blk b cs T)):kS (hp w) b 0 cs :=
 ⟨cs.toArray,T,(0,0),(N.blk_cells k O).1,λj v M=>by simpa using M⟩
theorem kE:∀ v∈([]:List Value),v.oneCell'=true:=λ_ h=>by cases h
theorem Z {v:Value} {vs:List Value} (h:v.oneCell'=true) (hs:∀ u∈vs,u.oneCell'=true):∀ u∈v::vs,u.oneCell'=true:=λu M=>by
 rcases List.mem_cons.1 M with rfl | M
 ·exact h
 ·exact hs u M
end
section
variable {P:Program} {l:Env} {w:World} {o:Oper} {x:Operand} {a:Addr}
theorem kW (N:o.op=.nilCheck x) (O:ev l x=some (.pointer (some a))):Yl P l w o (.pointer (some a)):=λn _ M=>by
 simp [execOp,N,M.eval O]
theorem bo5 {fn:Fn} {M:Array Operand} {cs:List Value} (W:o.op=.makeFunc fn #[] M) (hc:evs l M.toList=some cs):Yl P l w o (.func fn #[] cs.toArray):=λn N O=>by
 have:=O.evals hc
 have e:M.map N.eval=cs.toArray:=by
  apply Array.ext';rw [Array.toList_map,this]
 simp [execOp,W,Instr.makeFunc,e]
end
end Go.Wk
namespace Go.Wk
open Go Go.RowKit
section
variable {P:Program} {ops:Array Oper} {Q:Exit->Act->World->Prop} {md:Region.Mode} {S:World->Prop} {ns:List Nat}
def at8 (md:Region.Mode) (ops:Array Oper):Nat->Nat->Nat->Bool
 | 0,_,_=>false
 | n+1,j,i=>match ops[j]? with
  | some M=>M.after.any (λe=>Region.binds md e&&(e.on == i||at8 md ops n e.on i))
  | none=>false
def tH (md:Region.Mode) (ops:Array Oper) (M:Array Bool):Prop :=
 ∀ k,M.getD k false=true->∀ N,ops[k]?=some N->∀ e∈N.after,Region.binds md e=true->M.getD e.on false=true
theorem yf {M:Array Bool} (hc:tH md ops M):∀ (n j i:Nat),(∀ O,ops[j]?=some O->∀ e∈O.after,Region.binds md e=true->M.getD e.on false=true)->at8 md ops n j i=true->M.getD i false=true
 | 0,_,_,_,h=>by simp [at8] at h
 | n+1,j,i,hj,h=>by
  unfold at8 at h;cases N:ops[j]? with
  | none=>simp [N] at h
  | some O =>
   simp only [N] at h;obtain ⟨e,he,hb⟩:=Array.any_eq_true'.1 h;simp only [Bool.and_eq_true,Bool.or_eq_true,beq_iff_eq] at hb;have hl:=hj O N e he hb.1;rcases hb.2 with h' | h'
   ·rw [<- h'];exact hl
   ·exact yf hc n e.on i (λok W=>hc e.on hl ok W) h'
theorem z7 {M:Array Bool} {j k:Nat} (h:M.getD k false=true):(M.setIfInBounds j true).getD k false=true:=by
 simp only [Array.getD_eq_getD_getElem?,Array.getElem?_setIfInBounds] at h ⊢;by_cases e:j=k
 ·subst e;by_cases N:j<M.size<;>simp_all
 ·simpa [e] using h
theorem bd8 {M:Array Bool} {j k:Nat} (h:(M.setIfInBounds j true).getD k false=true):k=j\/M.getD k false=true:=by
 by_cases e:j=k
 ·exact .inl e.symm
 ·right;simp only [Array.getD_eq_getD_getElem?,Array.getElem?_setIfInBounds] at h ⊢;simpa [e] using h
theorem wV {M:Array Bool} {j:Nat} (hc:tH md ops M) (hj:j∈Region.ready md ops M):tH md ops (M.setIfInBounds j true):=by
 intro k hk ok O e he hb;rcases bd8 hk with rfl | h
 ·obtain ⟨_,_,N,W⟩:=mem_ready.1 hj;rw [O] at N;simp only [Option.some.injEq] at N;subst N;exact z7 (W e he hb)
 ·exact z7 (hc k h ok O e he hb)
variable {a:Act} {w:World} {o:Oper} {n:Nat} {l:Env} {d i:Nat} {v:Value} {R:Value->World->Prop} {r:List (Bool × Nat)}
theorem bt1 {K:Act->World->Prop} (N:ops[i]?=some o) (M:Region.wanted o (yielded ops a.tmps)=true) (h:o.wp P a w K Q):wpOp P ops Q i K a w:=by
 unfold wpOp;rw [N];simp only [M,if_true];exact .inl h
end
section
variable {α:Type} [Flat α] {h:kR} {xs:List α}
theorem kC {b off len cap i:Nat} {x:α} {cs:List Value} (O:GT.rep h [.slice (some ⟨b,off,none⟩) len cap] xs) (N:xs[i]?=some x) (M:Flat.enc x=cs):kS h b (off+i*GT.sz α) cs:=by
 obtain ⟨_,cs',h1,h2⟩:=kn O N;rw [<- M,<- Flat.rep_iff.1 h2];exact h1
theorem kG {sv:Value} (N:GT.rep h [sv] xs) {i:Nat} {x:α} (M:xs[i]?=some x):∃ b off cap,sv=.slice (some ⟨b,off,none⟩) xs.length cap:=by
 obtain ⟨b,off,cap,h1,_⟩:=bo3 N M;exact ⟨b,off,cap,h1⟩
end
theorem jy {α:Type} [GT α] {h:kR} {xs:List α} {sv:Value} (N:GT.rep h [sv] xs) {i:Nat} {x:α} (M:xs[i]?=some x):∃ b off cap,sv=.slice (some ⟨b,off,none⟩) xs.length cap:=by
 obtain ⟨b,off,cap,h1,_⟩:=bo3 N M;exact ⟨b,off,cap,h1⟩
theorem kL {α:Type} {xs:List α} {i n:Nat} {x:α} (N:xs[i]?=some x) (M:xs.length=n):i<n:=by
 rw [<- M];exact (List.getElem?_eq_some_iff.1 N).1
theorem kB {α:Type} [GT α] {h:kR} {xs:List α} {p:Option Addr} {m c:Nat} (M:GT.rep h [.slice p m c] xs):xs.length=m:=by
 obtain ⟨_,c',h1,_⟩:=ju M;simp only [Value.slice.injEq] at h1;exact h1.2.1.symm
theorem cs9 {α:Type} [GT α] {h:kR} {xs:List α} {v:Value} (N:GT.rep h [v] xs):(v=.slice none 0 0/\xs=[])\/∃ p c,v=.slice (some p) xs.length c:=by
 rcases og.1 N with ⟨rfl | ⟨p,c,rfl⟩,rfl⟩ | ⟨b,off,len,cap,rfl,M,_⟩
 ·exact .inl ⟨rfl,rfl⟩
 ·exact .inr ⟨p,c,rfl⟩
 ·exact .inr ⟨_,cap,by rw [M]⟩
theorem jx {α:Type} {xs:List α} {i:Nat} {x:α} (M:xs[i]?=some x):i<xs.length:=(List.getElem?_eq_some_iff.1 M).1
def w5 (P:Program) (N:Value) (args:List Value) (w:World) (R:Value->World->Prop):Prop :=
 ∃ k cs,N=.func (.func k) #[] (List.toArray cs)/\(∀ M w,(callFunc k M).run P w=.ok (.enter k M) w)/\Con P k (args++cs) w R
section
variable {P:Program} {ops:Array Oper} {Q:Exit->Act->World->Prop} {S:World->Prop} {ns:List Nat} {a:Act} {w w0:World} {hz:kR} {L:List Ch} {o:Oper} {n:Nat} {l:Env} {d i:Nat} {v:Value} {x y:Operand} {R:Value->World->Prop} {r:List (Bool × Nat)} {t e:TypeId}
theorem nC {fv : Value} {as : List Operand} {vs : List Value} {W : Array TypeId} (hf : Fr n l a) (ho : o.op = .call { callee := .value x, args := as.toArray, argTypes := W })
  (hx:ev l x=some fv) (ha:evs l as=some vs) (h:w5 P fv vs w R):Ef P a w o R:=λK Q hk=>by
 obtain ⟨k,cs,rfl,hc,N⟩:=h;have M:Array.map a.eval as.toArray=vs.toArray:=by rw [List.map_toArray,hf.evals ha]
 unfold Oper.wp
 have hr:(execOp a.eval o).run P w=.ok (.enter k (vs++cs).toArray) w:=by
  simp only [execOp,ho,resolve,hf.eval hx,M,Deferred.ofValue];simp [invoke,hc]
 rw [hr]
 exact Calls.mono N λe w' O=>by
  cases e with
  | returned u=>exact hk u w' O
  | panicked ch=>exact O.elim
  | outgrown=>exact O.elim
theorem Mem.old_cell {b i T:Nat} {cs:List Value} {M:Nat × Nat} (N:Mem w0 (hp w0) w L) (hb:w0.heap[b]?=some (.cells cs.toArray T M)) (hi:cs[i]?=some v):w.cell? ⟨b,i,none⟩=some v:=by
 have:=N.below.block b (Array.getElem?_eq_some_iff.1 hb).1;rw [hb] at this;simp [World.cell?,this,hi]
theorem Mem.old_at {b T:Nat} {cs:List Value} {M:Nat × Nat} (O:Mem w0 (hp w0) w L) (hb:w0.heap[b]?=some (.cells cs.toArray T M)):kS (hp w) b 0 cs:=by
 have:=O.below.block b (Array.getElem?_eq_some_iff.1 hb).1;rw [hb] at this;exact ⟨cs.toArray,T,M,this,λj v N=>by simpa using N⟩
theorem Mem.blk_later {b T:Nat} {cs:List Value} {w':World} (M:Mem w0 hz w L) (k:Nat) (N:L[k]?=some (blk b cs T)) (O:Below w.heap.size w w'):w'.heap[b]?=some (.cells cs.toArray T (0,0)):=by
 have h:=(M.blk_cells k N).1;rw [O.block b (Array.getElem?_eq_some_iff.1 h).1,h]
theorem Mem.old_later {b T:Nat} {cs:List Value} {M:Nat × Nat} {w':World} (N:Mem w0 (hp w0) w L) (hb:w0.heap[b]?=some (.cells cs.toArray T M)) (O:Below w.heap.size w w'):w'.heap[b]?=some (.cells cs.toArray T M):=by
 have h:=N.below.block b (Array.getElem?_eq_some_iff.1 hb).1;rw [hb] at h;rw [O.block b (Array.getElem?_eq_some_iff.1 h).1,h]
theorem cb5 {w w':World} (M:Below w.heap.size w w'):kR.le (hp w) (hp w'):=λb o h=>by
 have:=M.block b (cg9 h);unfold hp at h ⊢;rw [this,h]
theorem kp {α:Type} [GT α] {w w':World} {cs:List Value} {x:α} (N:GT.rep (hp w) cs x) (M:Below w.heap.size w w'):GT.rep (hp w') cs x:=GT.mono (cb5 M) N
theorem bu5 {t':TypeId} (W:P.underlying t=some (.slice e)) (N:o.op=.binOp .eql t x y t') (hx:ev l x=some (.slice none 0 0)) (O:ev l y=some (.slice none 0 0)):Yl P l w o (.bool true):=λn a M=>by
 have h:=Lib.run_eql_slice_nil (P:=P) w t e none 0 0 0 0 W;simp [execOp,N,M.eval hx,M.eval O,eqGuard,h]
theorem bw8 {t':TypeId} {p:Addr} {m c:Nat} (W:P.underlying t=some (.slice e)) (N:o.op=.binOp .eql t x y t') (hx:ev l x=some (.slice (some p) m c)) (O:ev l y=some (.slice none 0 0)):Yl P l w o (.bool false):=λn a M=>by
 have h:=Lib.run_eql_slice_nil (P:=P) w t e (some p) m c 0 0 W;simp [execOp,N,M.eval hx,M.eval O,eqGuard,h]
theorem k5 {α:Type} [GT α] {z:Value} (M:oK P t e (GT.sz α) z) (N:Mem w0 hz w L) (O:o.op=.buildSlice t 0 #[]) :
  Ef P a w o (λv w'=>Mem w0 hz w' (ow [v] ([]:List α)::L)):=by
 obtain ⟨i,hi,_,_,_⟩:=M.info;refine nR (w':=w.alloc (.cells #[] e)) (v:=.slice (some ⟨w.heap.size,0,none⟩) 0 0) ?_ ?_
 ·simp [execOp,O,Instr.buildSlice,run_underlying M.und,sizeOf,typeInfo,hi,Instr.fill,newRow];simp [Array.range_zero']
 ·refine N.more ⟨rfl, rfl, rfl, by simp⟩ (fun b hb => Below.heap_alloc w _ b hb) ⟨fun b => b = w.heap.size, fun b hb => by subst hb; simp, ?_⟩;exact ke.2 (l8.fresh (T:=e) (C:=#[]) (fps:=λ_ _=>False) (cs:=[]) (heap_alloc_new w _) rfl (Nat.le_refl _) ⟨by simp [maxLen],by omega⟩ (by simp) (by simp [seg]) rfl (λ_ _ h=>h.elim) (λ_ _ _ _ h=>h.elim) (λi x W=>by simp at W))
end
theorem ar0 {n:Nat} {l:Env} {a:Act} (O:Fr n l a):∀ {ps:List (Nat × Operand)} {M:List (Nat × Value)},(ps.map λp=>(ev l p.2).map λv=>(p.1,v))=M.map some->ps.map (λp=>(p.1,a.eval p.2))=M
 | [],M,h=>by cases M<;>simp_all
 | p::ps,M,h=>by
  cases M with
  | nil=>simp at h
  | cons u M =>
   simp only [List.map_cons,List.cons.injEq] at h;obtain ⟨N,hb⟩:=h;cases hp:ev l p.2 with
   | none=>simp [hp] at N
   | some v =>
    simp only [hp,Option.map_some,Option.some.injEq] at N;simp [O.eval hp,N,ar0 O hb]
theorem mV {P:Program} {l:Env} {w:World} {o:Oper} {t:TypeId} {M:Array (Nat × Operand)} {vs:List (Nat × Value)} {cs:Array Value} (W:o.op=.build t M)
  (hv:(M.toList.map λp=>(ev l p.2).map λv=>(p.1,v))=vs.map some) (hb:P.built t vs=some cs):Yl P l w o (.agg cs):=λn a O=>by
 have N:(M.map λp=>(p.1,a.eval p.2))=vs.toArray:=by
  apply Array.ext';rw [Array.toList_map];exact ar0 O hv
 simp only [execOp,W,N];simp [Go.run_build w t vs.toArray cs (by simpa using hb)]
theorem obS {α β:Type _} {a:α} {f:α->Option β}:(some a).bind f=f a:=rfl
theorem lgE {α:Type _} {l:List α} {i:Nat} {a:α}:l[i]?=some a↔∃ h:i<l.length,l[i]=a:=List.getElem?_eq_some_iff
theorem osI {α:Type _} (a b:α):(some a=some b)=(a=b):=Option.some.injEq a b
abbrev tV (s:Str):Value:=.string ⟨s.b.toArray⟩
end Go.Wk
