/- A part of a proof: general laws of walks, no statement of the seat. -/
import Derived.WalkKit
import Derived.OrdersIn
import Derived.TacticsIn
import Derived.Scope
import Derived.OrdersHeld
import Derived.WalkSpells
namespace Go.Wk
open Go Go.RowKit
def wZ (o:Oper):Bool:=match o.op with
 | .defer _=>false
 | _=>true
def vu:Code→Bool
 | .region _ ops _=>ops.toList.all wZ
 | .seq x y=>vu x&&vu y
 | .cond _ x y=>vu x&&vu y
 | .block _ x=>vu x
 | .loop x=>vu x
 | .skip=>true
 | .exit _=>true
 | .label _=>true
 | _=>false
abbrev wr (l:Nat):Fence:=Fence.wide.inRound l
end Go.Wk
namespace Go
open Go Go.RowKit Go.Wk
def Act.up (ds:List Deferred) (a:Act):Act:={ a with defers:=a.defers++ds }
def Qup (ds:List Deferred) (Q:Exit→Act→World→Prop) (e:Exit) (a':Act) (w:World):Prop:=∃ a,a'=a.up ds∧Q e a w
def Code.wk (P:Program) (c:Code) (Q:Exit→Act→World→Prop) (a:Act) (w:World):Prop :=
 ∀ ds,c.wp P (Qup ds Q) (a.up ds) w∧(vu c=true→¬ LetsOut Q→∀ l n,c.wpIn (wr l) n P (Qup ds Q) (a.up ds) w)
end Go
namespace Go.Wk
open Go Go.RowKit
variable {P:Program} {Q Q':Exit→Act→World→Prop} {a:Act} {w:World} {c x y:Code} {ds:List Deferred}
theorem bh4 (a:Act):a.up []=a:=by simp [Act.up]
theorem w6 (a:Act) (d:Option Tmp) (v:Value):(a.up ds).put d v=(a.put d v).up ds:=by cases d<;>rfl
theorem zH (a:Act):(a.up ds).eval=a.eval:=funext λx=>by cases x<;>rfl
theorem ac5 {K:Act→World→Prop}:LetsOut (Exit.then K Q)→LetsOut Q:=λ⟨a,w,h⟩=>⟨a,w,h⟩
theorem af6 (h:LetsOut Q):LetsOut (Qup ds Q):=let ⟨a,w,h⟩:=h;⟨a.up ds,w,a,rfl,h⟩
theorem y4:LetsOut (Qup ds Q)→LetsOut Q:=λ⟨_,w,a,_,h⟩=>⟨a,w,h⟩
theorem ca1 (h:c.wk P Q a w):c.wp P Q a w:=by
 have:=(h []).1
 rw [bh4] at this
 exact Code.wp_mono (λe a' w' ⟨a0,h1,h2⟩=>by rw [bh4] at h1;subst h1;exact h2) this
theorem _root_.Go.Code.wk_mono (hq:∀ e a w,Q e a w→Q' e a w) (h:c.wk P Q a w):c.wk P Q' a w:=λds =>
 ⟨Code.wp_mono (λe _ w ⟨a0,h1,h2⟩=>⟨a0,h1,hq e a0 w h2⟩) (h ds).1,
  λhn hl l n=>Code.wpIn_mono (λe _ w ⟨a0,h1,h2⟩=>⟨a0,h1,hq e a0 w h2⟩) ((h ds).2 hn (λ⟨a,w,ho⟩=>hl ⟨a,w,hq _ _ _ ho⟩) l n)⟩
theorem bv2 (h:x.wk P (Exit.then (y.wk P Q) Q) a w):(Code.seq x y).wk P Q a w:=by
 intro ds
 constructor
 ·refine wp_seq (Code.wp_mono ?_ (h ds).1)
  rintro e a' w ⟨a0,h1,h⟩
  cases e<;>first | (subst h1;exact (h ds).1) | exact ⟨a0,h1,h⟩
 ·intro hn hl l n
  simp only [vu,Bool.and_eq_true] at hn
  refine wpIn_seq (Code.wpIn_mono ?_ ((h ds).2 hn.1 (λh=>hl (ac5 h)) l n))
  rintro e a' w ⟨a0,h1,h⟩
  cases e<;>first | (subst h1;exact (h ds).2 hn.2 hl l n) | exact ⟨a0,h1,h⟩
theorem au0 {o:Operand} {t:Bool} (hc:a.eval o=.bool t) (h:(if t then x else y).wk P Q a w):(Code.cond o x y).wk P Q a w:=by
 intro ds
 refine ⟨wp_cond (by rw [zH];exact hc) (h ds).1,?_⟩
 intro hn hl l n
 simp only [vu,Bool.and_eq_true] at hn
 refine wpIn_cond (by rw [zH];exact hc) ((h ds).2 ?_ hl l n)
 cases t
 ·exact hn.2
 ·exact hn.1
theorem ak6 {id:Nat} {e:Exit} {a:Act} {w:World} (h:Qup ds (Exit.inBlock id Q) e a w):Exit.inBlock id (Qup ds Q) e a w:=by
 obtain ⟨a0,h1,h2⟩:=h
 cases e with
 | exit i =>
  unfold Exit.inBlock at h2 ⊢
  by_cases hi:i=id
  ·simp only [hi,if_true] at h2 ⊢;exact ⟨a0,h1,h2⟩
  ·simp only [hi,if_false] at h2 ⊢;exact ⟨a0,h1,h2⟩
 | _=>exact ⟨a0,h1,h2⟩
theorem bj5 {id:Nat} (h:c.wk P (Exit.inBlock id Q) a w):(Code.block id c).wk P Q a w:=λds =>
 ⟨wp_block (Code.wp_mono (λ_ _ _ h=>ak6 h) (h ds).1),λhn hl l n=>wpIn_block (Code.wpIn_mono (λ_ _ _ h=>ak6 h) ((h ds).2 hn (λ⟨a,w,h⟩=>hl ⟨a,w,h⟩) l n))⟩
theorem bl3 (h:Q .normal a w):Code.skip.wk P Q a w:=λ_=>⟨wp_skip ⟨a,rfl,h⟩,λ_ _ _ _=>wpIn_skip ⟨a,rfl,h⟩⟩
theorem bl4 {id:Nat} (h:Q (.exit id) a w):(Code.exit id).wk P Q a w:=λ_=>⟨wp_exit ⟨a,rfl,h⟩,λ_ _ _ _=>wpIn_exit ⟨a,rfl,h⟩⟩
theorem bu1 (h:Q .ret a w):Code.ret.wk P Q a w:=λ_=>⟨wp_ret ⟨a,rfl,h⟩,λhn=>by cases hn⟩
theorem bn2 (I:Act→World→Prop) (μ:Act→World→Nat) (h₀:I a w)
  (round:∀ a w,I a w→c.wk P (Exit.then (λa' w'=>I a' w'∧μ a' w'<μ a w) Q) a w):(Code.loop c).wk P Q a w:=by
 refine λds=>?_
 let dn:Act→Act:=λa=>{ a with defers:=a.defers.take (a.defers.length - ds.length) }
 have hdn:∀ a:Act,dn (a.up ds)=a:=λa=>by simp [dn,Act.up]
 refine ⟨wp_loop (λa' w=>∃ a,a'=a.up ds∧I a w) (λa' w=>μ (dn a') w) ⟨a,rfl,h₀⟩ ?_,λhn hl l n=>wpIn_loop (λa' w=>∃ a,a'=a.up ds∧I a w) (λa' w=>μ (dn a') w) ⟨a,rfl,h₀⟩ ?_⟩
 ·rintro _ w ⟨a,rfl,hi⟩
  refine Code.wp_mono (λe a' w' ⟨a0,h1,h2⟩=>?_) (round a w hi ds).1
  cases e<;>first | (subst h1;exact ⟨⟨a0,rfl,h2.1⟩,by simp only [hdn];exact h2.2⟩) | exact ⟨a0,h1,h2⟩
 ·rintro _ w ⟨a,rfl,hi⟩
  refine Code.wpIn_mono (λe a' w' ⟨a0,h1,h2⟩=>?_) ((round a w hi ds).2 hn (λh=>hl (ac5 h)) l n)
  cases e<;>first | (subst h1;exact ⟨⟨a0,rfl,h2.1⟩,by simp only [hdn];exact h2.2⟩) | exact ⟨a0,h1,h2⟩
theorem ak4 (J:Nat→Act→World→Prop) {m:Nat} (h0:J m a w)
  (round:∀ m a w,J m a w→c.wk P (Exit.then (λa' w'=>∃ m',m'<m∧J m' a' w') Q) a w):(Code.loop c).wk P Q a w:=by
 have hex:∀ a w,(∃ m,J m a w)→∃ m,J m a w∧∀ k,J k a w→m≤k:=by
  rintro a w ⟨m,hm⟩
  induction m using Nat.strongRecOn with
  | _ m ih =>
   by_cases h:∃ k,k<m∧J k a w
   ·obtain ⟨k,hk,hj⟩:=h
    exact ih k hk hj
   ·exact ⟨m,hm,λk hk=>Nat.le_of_not_lt λhlt=>h ⟨k,hlt,hk⟩⟩
 refine bn2 (λa w=>∃ m,J m a w) (λa w=>open Classical in if h:∃ m,J m a w then (hex a w h).choose else 0) ⟨m,h0⟩ ?_
 intro a w hI
 have h1:=(hex a w hI).choose_spec
 refine Code.wk_mono (λe a' w' h=>?_) (round _ a w h1.1)
 cases e with
 | normal =>
  obtain ⟨m',hlt,hj⟩:=h
  refine ⟨⟨m',hj⟩,?_⟩
  rw [dif_pos ⟨m',hj⟩,dif_pos hI]
  exact Nat.lt_of_le_of_lt ((hex a' w' ⟨m',hj⟩).choose_spec.2 m' hj) hlt
 | _=>exact h
theorem as4 {o:Oper} {K:Act→World→Prop} (hh:o.wp P a w K Q):o.wp P (a.up ds) w (λa' w=>∃ a0,a'=a0.up ds∧K a0 w) (Qup ds Q):=by
 unfold Oper.wp at *
 rw [zH]
 revert hh
 generalize (execOp a.eval o).run P w=r
 intro hh
 cases r with
 | ok v w' =>
  cases v with
  | value v=>exact ⟨_,w6 _ _ _,hh⟩
  | skip=>exact ⟨_,w6 _ _ _,hh⟩
  | defer d=>exact ⟨_,by rw [← w6];rfl,hh⟩
  | enter f args =>
   refine Calls.mono hh (λe w h=>?_)
   cases e with
   | returned v=>exact ⟨_,w6 _ _ _,h⟩
   | panicked ch=>exact ⟨a,rfl,h⟩
   | outgrown=>exact af6 h
  | row r args=>exact Rows.mono hh (λv w h=>⟨_,w6 _ _ _,h⟩)
  | _=>exact hh.elim
 | halt s w' =>
  cases s<;>first | exact ⟨a,rfl,hh⟩ | exact hh.elim
theorem av0 {o:Oper} (h:o.asks P a w):o.asks P (a.up ds) w:=by
 unfold Oper.asks at *
 rw [zH];exact h
theorem av8 {o:Oper} {K:Act→World→Prop} (hn:wZ o=true) (hh:o.wp P a w K Q) (l n:Nat):o.wpIn (wr l) n P a w K Q:=by
 refine ⟨λ_ _=>trivial,?_⟩
 have e:o.semAt (some l) a.eval=execOp a.eval o:=Oper.semAt_eq _ _ _ (λc hc=>by simp [wZ,hc] at hn)
 show o.uponIn (wr l) n P a K Q ((o.semAt (some l) a.eval).run P w)
 rw [e]
 unfold Oper.wp at hh
 revert hh
 generalize (execOp a.eval o).run P w=r
 intro hh
 cases r with
 | ok v w' =>
  cases v with
  | value v=>exact hh
  | skip=>exact hh
  | defer d=>exact hh
  | enter f args=>exact ⟨λh=>by simp [wr,Fence.wide] at h,(callsIn_wide (n:=n - 1)).2 hh⟩
  | row r args =>
   refine ⟨λh=>by simp [wr,Fence.wide] at h,λc cs _=>?_⟩
   obtain ⟨v,w',hr,hs⟩:=hh c cs
   exact ⟨v,w',hr,stepsIn_wide.2 hs⟩
  | _=>exact hh.elim
 | halt s w' =>
  cases s<;>first | exact hh | exact hh.elim
theorem x9 {ops:Array Oper} (hl:¬ LetsOut Q) (l n:Nat):∀ (os:List Oper),os.all wZ=true→∀ a w,wpList P ops Q os a w→wpListIn (wr l) n P ops Q os a w
 | [],_,_,_,h=>h
 | o::os,hn,a,w,h=>by
  simp only [List.all_cons,Bool.and_eq_true] at hn
  unfold wpList at h
  unfold wpListIn
  split
  ·rename_i hw
   rw [if_pos hw] at h
   rcases h with h | h
   ·exact av8 hn.1 (Oper.wp_mono (λa w h=>x9 hl l n os hn.2 a w h) h) l n
   ·exact absurd h.2 hl
  ·rename_i hw
   rw [if_neg hw] at h
   exact ⟨λ_ _=>trivial,x9 hl l n os hn.2 _ _ h⟩
theorem wC {ops:Array Oper}:∀ (os:List Oper) a w,wpList P ops Q os a w→wpList P ops (Qup ds Q) os (a.up ds) w
 | [],a,_,h=>⟨a,rfl,h⟩
 | o::os,a,w,h=>by
  unfold wpList at h ⊢
  show if Region.wanted o (yielded ops a.tmps)=true then _ else _
  split
  ·rename_i hw
   rw [if_pos hw] at h
   exact h.imp (λh=>Oper.wp_mono (λ_ w ⟨a0,h1,h2⟩=>by subst h1;exact wC os a0 w h2) (as4 h)) (λh=>⟨av0 h.1,af6 h.2⟩)
  ·rename_i hw
   rw [if_neg hw] at h
   rw [w6]
   exact wC os _ w h
theorem ab9 {id:Nat} {os:List Oper} (h:wpList P os.toArray Q os a w):(Code.region id os.toArray false).wk P Q a w:=λds =>
 ⟨wp_region_lit (wC os a w h),λhn hl l n=>wpIn_region_lit (x9 (λh=>hl (y4 h)) l n os (by simpa [vu] using hn) _ w (wC os a w h))⟩
theorem bl2 {ops:Array Oper} (hl:¬ LetsOut Q) (l n:Nat) (hn:ops.toList.all wZ=true) {i:Nat} {K K':Act→World→Prop} (hk:∀ a w,K a w→K' a w) (h:wpOp P ops Q i K a w):wpOpIn (wr l) n P ops Q i K' a w:=by
 unfold wpOp at h
 unfold wpOpIn
 cases ho:ops[i]? with
 | none=>rw [ho] at h;exact hk _ _ h
 | some o =>
  rw [ho] at h
  simp only at h ⊢
  have hno:wZ o=true:=by
   rw [← Array.getElem?_toList] at ho
   exact List.all_eq_true.1 hn o (List.mem_of_getElem? ho)
  split
  ·rename_i hw
   rw [if_pos hw] at h
   rcases h with h | h
   ·exact av8 hno (Oper.wp_mono hk h) l n
   ·exact absurd h.2 hl
  ·rename_i hw
   rw [if_neg hw] at h
   exact ⟨λ_ _=>trivial,hk _ _ h⟩
theorem ai5 {md:Region.Mode} {ops:Array Oper} (hl:¬ LetsOut Q) (l n:Nat) (hn:ops.toList.all wZ=true):∀ (k:Nat) (s:Array Bool) a w,wpAny P md ops Q k s a w→wpAnyIn (wr l) n P md ops Q k s a w
 | 0,_,_,_,h=>h
 | k+1,s,_,_,h=>⟨h.1,λi hi=>bl2 hl l n hn (λa w h=>ai5 hl l n hn k _ a w h) (h.2 i hi)⟩
theorem bn9 {ops:Array Oper} {i:Nat} {K K':Act→World→Prop} (hk:∀ a w,K a w→K' (a.up ds) w) (h:wpOp P ops Q i K a w):wpOp P ops (Qup ds Q) i K' (a.up ds) w:=by
 unfold wpOp at h ⊢
 cases ho:ops[i]? with
 | none=>rw [ho] at h;exact hk _ _ h
 | some o =>
  rw [ho] at h
  simp only at h ⊢
  show if Region.wanted o (yielded ops a.tmps)=true then _ else _
  split
  ·rename_i hw
   rw [if_pos hw] at h
   exact h.imp (λh=>Oper.wp_mono (λ_ w ⟨a0,h1,h2⟩=>by subst h1;exact hk a0 w h2) (as4 h)) (λh=>⟨av0 h.1,af6 h.2⟩)
  ·rename_i hw
   rw [if_neg hw] at h
   rw [w6]
   exact hk _ w h
theorem zP {md:Region.Mode} {ops:Array Oper}:∀ (k:Nat) (s:Array Bool) a w,wpAny P md ops Q k s a w→wpAny P md ops (Qup ds Q) k s (a.up ds) w
 | 0,_,a,_,h=>⟨h.1,a,rfl,h.2⟩
 | k+1,s,a,_,h=>⟨λe=>⟨a,rfl,h.1 e⟩,λi hi=>bn9 (λa w h=>zP k _ a w h) (h.2 i hi)⟩
theorem ac3 {id:Nat} {ops:Array Oper} (hm:P.follows .mixedOrders=true)
  (h:wpAny P .any ops Q ops.size (Array.replicate ops.size false) a { w with drawn:=w.drawn+1 }):(Code.region id ops true).wk P Q a w:=λds =>
 ⟨wp_region_any hm (zP _ _ a _ h),λhn hl l n=>wpIn_region_any hm (ai5 (λh=>hl (y4 h)) l n (by simpa [vu] using hn) _ _ _ _ (zP _ _ a _ h))⟩
theorem ba3 {f:FuncId} {fn:Func} {args:Array Value} {R:Ending→World→Prop} (hf:P.funcs[f]?=some fn) (hb:fn.body=some c)
  (h:c.wk P (bodyPost P fn R) { tmps:=args++Array.replicate (fn.ntmps - args.size) undef,defers:=[] } w):Calls P f args w R:=calls_of_wp hf hb (ca1 h)
end Go.Wk
namespace Go.Wk
open Go Go.RowKit
abbrev Env:=List (Nat × Value)
def lk:Env→Nat→Option Value
 | [],_=>none
 | (k,v)::r,t=>bif Nat.beq k t then some v else lk r t
structure Fr (n:Nat) (l:Env) (a:Act):Prop where
 size:a.tmps.size=n
 defers:a.defers=[]
 get:∀ t v,lk l t=some v→a.tmps[t]?=some v
section
variable {n:Nat} {l l':Env} {a:Act} {d:Nat} {v:Value} {x:Operand}
theorem Fr.put (h:Fr n l a) (hd:Nat.blt d n=true):Fr n ((d,v)::l) (a.put (some d) v):=by
 have hd':d<n:=by simpa [Nat.blt_eq] using hd
 refine ⟨by simp [Act.put,h.size],h.defers,λt u ht=>?_⟩
 simp only [lk] at ht
 by_cases e:d=t
 ·subst e
  simp at ht
  subst ht
  simp [Act.put,h.size,hd']
 ·have:Nat.beq d t=false:=by
   cases hb:Nat.beq d t with
   | false=>rfl
   | true=>exact absurd (Nat.eq_of_beq_eq_true hb) e
  rw [this] at ht
  simp only [cond_false] at ht
  have:=h.get t u ht
  simp [Act.put,e,this]
theorem Fr.put_none (h:Fr n l a):Fr n l (a.put none v):=h
def ev (l:Env):Operand→Option Value
 | .tmp t=>lk l t
 | .const v=>some v
 | .global g=>some (.pointer (some ⟨g,0,none⟩))
 | .func f=>some (.func (.func f) #[] #[])
theorem Fr.eval (h:Fr n l a) (hx:ev l x=some v):a.eval x=v:=by
 cases x with
 | tmp t=>simp only [ev] at hx;have:=h.get t v hx;simp [Act.eval,Array.getD_eq_getD_getElem?,this]
 | const u=>simp only [ev,Option.some.injEq] at hx;exact hx
 | global g=>simp only [ev,Option.some.injEq] at hx;exact hx
 | func f=>simp only [ev,Option.some.injEq] at hx;exact hx
def Sub:Env→Env→Prop
 | [],_=>True
 | p::r,l=>lk l p.1=some p.2∧Sub r l
theorem Sub.get:∀ {l' l:Env},Sub l' l→∀ t v,lk l' t=some v→lk l t=some v
 | [],_,_,_,_,h=>by simp [lk] at h
 | p::r,l,⟨h1,h2⟩,t,v,h=>by
  simp only [lk] at h
  by_cases e:Nat.beq p.1 t=true
  ·rw [e] at h
   simp only [cond_true,Option.some.injEq] at h
   rw [← Nat.eq_of_beq_eq_true e,← h];exact h1
  ·rw [Bool.not_eq_true] at e;rw [e] at h
   exact Sub.get h2 t v h
theorem Fr.sub (h:Fr n l a) (hs:Sub l' l):Fr n l' a:=⟨h.size,h.defers,λt v ht=>h.get t v (hs.get t v ht)⟩
theorem Fr.start {args:Array Value} {k:Nat} (hn:args.size+k=n) (hl:∀ t v,lk l t=some v→args[t]?=some v):Fr n l { tmps:=args++Array.replicate k undef,defers:=[] }:=by
 refine ⟨by simp [hn],rfl,λt v ht=>?_⟩
 have h:=hl t v ht
 have:t<args.size:=by
  rcases Nat.lt_or_ge t args.size with h' | h'
  ·exact h'
  ·simp [Array.getElem?_eq_none h'] at h
 rw [Array.getElem?_append_left this]
 exact h
end
def Yl (P:Program) (l:Env) (w:World) (o:Oper) (v:Value):Prop:=∀ n a,Fr n l a→(execOp a.eval o).run P w=.ok (.value v) w
section
variable {P:Program} {ops:Array Oper} {Q:Exit→Act→World→Prop} {a:Act} {w:World} {rest:List Oper} {o:Oper} {n:Nat} {l:Env} {d:Nat} {v:Value}
theorem am7 (hg:o.guard=none):Region.wanted o (yielded ops a.tmps)=true:=by simp [Region.wanted,hg]
theorem yW {j dj:Nat} {b c:Bool} (hf:Fr n l a) (hg:o.guard=some (j,b)) (hj:(ops[j]?).bind (·.dst)=some dj) (hl:lk l dj=some (.bool c)) :
  Region.wanted o (yielded ops a.tmps)=(c == b):=by
 simp only [Region.wanted,hg,yielded,hj,Option.bind_some,hf.get dj _ hl]
 cases b<;>cases c<;>rfl
theorem xh (hw:Region.wanted o (yielded ops a.tmps)=true) (h:o.wp P a w (wpList P ops Q rest) Q):wpList P ops Q (o::rest) a w:=by
 unfold wpList
 rw [if_pos hw]
 exact .inl h
theorem bg9 (hf:Fr n l a) (hy:Yl P l w o v) {K:Act→World→Prop} (h:K (a.put o.dst v) w):o.wp P a w K Q:=by
 unfold Oper.wp
 rw [hy n a hf]
 exact h
variable {x y c:Operand} {vx vy:Value}
theorem bt8 (ho:o.op=.move x) (hx:ev l x=some v):Yl P l w o v:=λn a hf=>by simp [execOp,ho,hf.eval hx]
theorem bk2 (ho:o.op=.assign x) (hx:ev l x=some v):Yl P l w o v:=λn a hf=>by simp [execOp,ho,hf.eval hx]
theorem be8 (ho:o.op=.pick c x y) (hc:ev l c=some (.bool true)) (hx:ev l x=some v):Yl P l w o v:=λn a hf=>by
 simp [execOp,ho,hf.eval hc,hf.eval hx,asBool]
theorem ba5 (ho:o.op=.pick c x y) (hc:ev l c=some (.bool false)) (hx:ev l y=some v):Yl P l w o v:=λn a hf=>by
 simp [execOp,ho,hf.eval hc,hf.eval hx,asBool]
theorem bz6 {b:Bool} {t:TypeId} (ho:o.op=.unOp .not t x) (hx:ev l x=some (.bool b)):Yl P l w o (.bool (!b)):=λn a hf=>by
 simp [execOp,ho,hf.eval hx,Op.unary]
theorem az5 {i:Nat} {vs:Array Value} (ho:o.op=.extract x i) (hx:ev l x=some (.tuple vs)) (hv:vs[i]?=some v):Yl P l w o v:=λn a hf=>by
 simp [execOp,ho,hf.eval hx,Instr.extract,hv]
section
variable {t t':TypeId} {k:IntKind} {i j:Int}
theorem bi2 (ho:o.op=.binOp .add t x y t') (hx:ev l x=some (.int k i)) (hy:ev l y=some (.int k j)):Yl P l w o (.int k (k.wrap (i+j))):=λn a hf=>by
 simp [execOp,ho,hf.eval hx,hf.eval hy,binOp,eqGuard,Op.intArith]
theorem ar2 (ho:o.op=.binOp .sub t x y t') (hx:ev l x=some (.int k i)) (hy:ev l y=some (.int k j)):Yl P l w o (.int k (k.wrap (i - j))):=λn a hf=>by
 simp [execOp,ho,hf.eval hx,hf.eval hy,binOp,eqGuard,Op.intArith]
theorem bs6 (ho:o.op=.binOp .mul t x y t') (hx:ev l x=some (.int k i)) (hy:ev l y=some (.int k j)):Yl P l w o (.int k (k.wrap (i*j))):=λn a hf=>by
 simp [execOp,ho,hf.eval hx,hf.eval hy,binOp,eqGuard,Op.intArith]
theorem bs0 (ho:o.op=.binOp .lss t x y t') (hx:ev l x=some (.int k i)) (hy:ev l y=some (.int k j)):Yl P l w o (.bool (decide (i<j))):=λn a hf=>by
 simp [execOp,ho,hf.eval hx,hf.eval hy,binOp,eqGuard,Op.intCmp]
theorem bt0 (ho:o.op=.binOp .leq t x y t') (hx:ev l x=some (.int k i)) (hy:ev l y=some (.int k j)):Yl P l w o (.bool (decide (i≤j))):=λn a hf=>by
 simp [execOp,ho,hf.eval hx,hf.eval hy,binOp,eqGuard,Op.intCmp]
theorem bs2 (ho:o.op=.binOp .gtr t x y t') (hx:ev l x=some (.int k i)) (hy:ev l y=some (.int k j)):Yl P l w o (.bool (decide (j<i))):=λn a hf=>by
 simp [execOp,ho,hf.eval hx,hf.eval hy,binOp,eqGuard,Op.intCmp]
theorem bt4 (ho:o.op=.binOp .geq t x y t') (hx:ev l x=some (.int k i)) (hy:ev l y=some (.int k j)):Yl P l w o (.bool (decide (j≤i))):=λn a hf=>by
 simp [execOp,ho,hf.eval hx,hf.eval hy,binOp,eqGuard,Op.intCmp]
theorem br8 (ho:o.op=.binOp .eql t x y t') (hx:ev l x=some (.int k i)) (hy:ev l y=some (.int k j)):Yl P l w o (.bool (decide (i=j))):=λn a hf=>by
 simp [execOp,ho,hf.eval hx,hf.eval hy,binOp,eqGuard,Op.intCmp]
 rfl
theorem bz1 (ho:o.op=.binOp .neq t x y t') (hx:ev l x=some (.int k i)) (hy:ev l y=some (.int k j)):Yl P l w o (.bool (decide (i≠j))):=λn a hf=>by
 simp [execOp,ho,hf.eval hx,hf.eval hy,binOp,eqGuard,Op.intCmp]
 rfl
end
end
end Go.Wk
namespace Go.Wk
open Go Go.RowKit
abbrev kX:=Nat→Option Obj
def hp (w:World):kX:=λb=>w.heap[b]?
def kX.le (h h':kX):Prop:=∀ b o,h b=some o→h' b=some o
theorem kX.le_refl (h:kX):kX.le h h:=λ_ _ h=>h
theorem kX.le_trans {a b c:kX} (h:kX.le a b) (k:kX.le b c):kX.le a c:=λx o hx=>k x o (h x o hx)
def lq (h:kX) (b o:Nat) (cs:List Value):Prop :=
 ∃ C T fz,h b=some (.cells C T fz)∧∀ (j:Nat) (v:Value),cs[j]?=some v→C[o+j]?=some v
theorem lq.mono {h h':kX} {b o:Nat} {cs:List Value} (hh:kX.le h h') (hc:lq h b o cs):lq h' b o cs :=
 let ⟨C,T,fz,h1,h2⟩:=hc
 ⟨C,T,fz,hh _ _ h1,h2⟩
theorem lq.cell {w:World} {b o j:Nat} {cs:List Value} {v:Value} (hc:lq (hp w) b o cs) (hj:cs[j]?=some v):w.cell? ⟨b,o+j,none⟩=some v:=by
 obtain ⟨C,T,fz,h1,h2⟩:=hc
 unfold hp at h1
 simp [World.cell?,h1,h2 j v hj]
theorem lq.sub {h:kX} {b o:Nat} {cs ds:List Value} {k:Nat} (hc:lq h b o cs) (hk:∀ (j:Nat) (v:Value),ds[j]?=some v→cs[k+j]?=some v):lq h b (o+k) ds:=by
 obtain ⟨C,T,fz,h1,h2⟩:=hc
 exact ⟨C,T,fz,h1,λj v hj=>by rw [Nat.add_assoc];exact h2 _ _ (hk j v hj)⟩
def seg (C:Array Value) (o n:Nat):List Value:=(C.toList.drop o).take n
theorem rb {C:Array Value} {o n j:Nat} (hj:j<n):(seg C o n)[j]?=C[o+j]?:=by
 simp [seg,List.getElem?_take,hj,List.getElem?_drop]
theorem zA {C:Array Value} {o n:Nat} (h:o+n≤C.size):(seg C o n).length=n:=by
 simp [seg];omega
theorem yZ {h:kX} {b o n:Nat} {C:Array Value} {T:TypeId} {fz:Nat × Nat} (hb:h b=some (.cells C T fz)):lq h b o (seg C o n):=by
 refine ⟨C,T,fz,hb,λj v hj=>?_⟩
 have:j<n:=by
  have:=(List.getElem?_eq_some_iff.1 hj).1
  simp [seg] at this;omega
 rw [rb this] at hj;exact hj
class GT (α:Type) where
 sz:Nat
 rep:kX→List Value→α→Prop
 own:(Nat→Prop)→kX→List Value→α→Prop
 len:∀ {h cs x},rep h cs x→cs.length=sz
 mono:∀ {h h' cs x},kX.le h h'→rep h cs x→rep h' cs x
 own_rep:∀ {F h cs x},own F h cs x→rep h cs x
 own_loc:∀ {F h h' cs x},own F h cs x→(∀ b,F b→h' b=h b)→own F h' cs x
 own_mono:∀ {F F' h cs x},(∀ b,F b→F' b)→own F h cs x→own F' h cs x
 one:∀ {h cs x},rep h cs x→∀ v∈cs,v.oneCell'=true
class Flat (α:Type) extends GT α where
 enc:α→List Value
 rep_iff:∀ {h cs x},rep h cs x↔cs=enc x
 own_iff:∀ {F h cs x},own F h cs x↔cs=enc x
abbrev Flat.mk' (α:Type) (n:Nat) (enc:α→List Value) (hl:∀ x,(enc x).length=n) (h1:∀ x,∀ v∈enc x,v.oneCell'=true):Flat α where
 sz:=n
 rep:=λ_ cs x=>cs=enc x
 own:=λ_ _ cs x=>cs=enc x
 len:=λh=>by rw [h];exact hl _
 mono:=λ_ h=>h
 own_rep:=λh=>h
 own_loc:=λh _=>h
 own_mono:=λ_ h=>h
 one:=λh=>by rw [h];exact h1 _
 enc:=enc
 rep_iff:=Iff.rfl
 own_iff:=Iff.rfl
instance:Flat Int:=Flat.mk' Int 1 (λn=>[.int .i64 n]) (λ_=>rfl) (by intro x v hv;simp at hv;subst hv;rfl)
instance:Flat Bool:=Flat.mk' Bool 1 (λb=>[.bool b]) (λ_=>rfl) (by intro x v hv;simp at hv;subst hv;rfl)
instance:Flat UInt8:=Flat.mk' UInt8 1 (λb=>[.int .u8 b.toNat]) (λ_=>rfl) (by intro x v hv;simp at hv;subst hv;rfl)
structure Str where
 b:List UInt8
 h:b.length≤140737488355328
 deriving DecidableEq
def mkS (b:List UInt8) (h:b.length≤140737488355328:=by decide):Str:=⟨b,h⟩
theorem Str.ext' {s t:Str} (h:s.b=t.b):s=t:=by
 cases s;cases t;simp at h;subst h;rfl
instance:Inhabited Str:=⟨mkS []⟩
instance:Flat Str:=Flat.mk' Str 1 (λs=>[.string ⟨s.b.toArray⟩]) (λ_=>rfl) (by intro x v hv;simp at hv;subst hv;rfl)
section
variable {α β:Type} [GT α] [GT β]
instance:GT (α × β) where
 sz:=GT.sz α+GT.sz β
 rep h cs p:=∃ c d,cs=c++d∧GT.rep h c p.1∧GT.rep h d p.2
 own F h cs p:=∃ c d,cs=c++d∧∃ G H,(∀ b,G b→F b)∧(∀ b,H b→F b)∧(∀ b,G b→¬ H b)∧GT.own G h c p.1∧GT.own H h d p.2
 len:=by rintro h cs p ⟨c,d,rfl,h1,h2⟩;simp [GT.len h1,GT.len h2]
 mono:=by rintro h h' cs p hh ⟨c,d,rfl,h1,h2⟩;exact ⟨c,d,rfl,GT.mono hh h1,GT.mono hh h2⟩
 own_rep:=by rintro F h cs p ⟨c,d,rfl,G,H,_,_,_,h1,h2⟩;exact ⟨c,d,rfl,GT.own_rep h1,GT.own_rep h2⟩
 own_loc:=by
  rintro F h h' cs p ⟨c,d,rfl,G,H,g1,g2,g3,h1,h2⟩ hh
  exact ⟨c,d,rfl,G,H,g1,g2,g3,GT.own_loc h1 (λb hb=>hh b (g1 b hb)),GT.own_loc h2 (λb hb=>hh b (g2 b hb))⟩
 own_mono:=by
  rintro F F' h cs p hF ⟨c,d,rfl,G,H,g1,g2,g3,h1,h2⟩
  exact ⟨c,d,rfl,G,H,λb hb=>hF b (g1 b hb),λb hb=>hF b (g2 b hb),g3,h1,h2⟩
 one:=by
  rintro h cs p ⟨c,d,rfl,h1,h2⟩ v hv
  rcases List.mem_append.1 hv with hv | hv
  ·exact GT.one h1 v hv
  ·exact GT.one h2 v hv
abbrev GT.via {α β:Type} [GT β] (f:α→β):GT α where
 sz:=GT.sz β
 rep h cs x:=GT.rep h cs (f x)
 own F h cs x:=GT.own F h cs (f x)
 len:=GT.len (α:=β)
 mono:=GT.mono (α:=β)
 own_rep:=GT.own_rep (α:=β)
 own_loc:=GT.own_loc (α:=β)
 own_mono:=GT.own_mono (α:=β)
 one:=GT.one (α:=β)
end
section
variable {α:Type} [GT α]
def qU (h:kX) (v:Value) (xs:List α):Prop :=
 ((v=.slice none 0 0∨∃ p cap,v=.slice (some p) 0 cap)∧xs=[]) ∨
 ∃ b off len cap,v=.slice (some ⟨b,off,none⟩) len cap∧xs.length=len∧len≤cap∧(cap≤maxLen∧len≤140737488355328) ∧
  ∀ (i:Nat) (x:α),xs[i]?=some x→∃ cs,lq h b (off+i*GT.sz α) cs∧GT.rep h cs x
def nG (F:Nat→Prop) (h:kX) (v:Value) (xs:List α):Prop :=
 (v=.slice none 0 0∧xs=[]) ∨
 ∃ b off len cap C T,v=.slice (some ⟨b,off,none⟩) len cap∧F b∧h b=some (.cells C T (0,0))∧xs.length=len∧len≤cap∧(cap≤maxLen∧len≤140737488355328) ∧
  off+cap*GT.sz α≤C.size∧∃ fps:Nat→Nat→Prop,(∀ i c,fps i c→F c∧c≠b)∧(∀ i j c,i≠j→fps i c→¬ fps j c) ∧
  ∀ (i:Nat) (x:α),xs[i]?=some x→GT.own (fps i) h (seg C (off+i*GT.sz α) (GT.sz α)) x
theorem nG.rep {F:Nat→Prop} {h:kX} {v:Value} {xs:List α} (ho:nG F h v xs):qU h v xs:=by
 rcases ho with ho | ⟨b,off,len,cap,C,T,hv,hF,hb,hl,hc,hm,hsz,fps,h1,h2,h3⟩
 ·exact .inl ⟨.inl ho.1,ho.2⟩
 ·exact .inr ⟨b,off,len,cap,hv,hl,hc,hm,λi x hx=>⟨_,yZ hb,GT.own_rep (h3 i x hx)⟩⟩
instance:GT (List α) where
 sz:=1
 rep h cs xs:=∃ v,cs=[v]∧qU h v xs
 own F h cs xs:=∃ v,cs=[v]∧nG F h v xs
 len:=by rintro h cs xs ⟨v,rfl,_⟩;rfl
 mono:=by
  rintro h h' cs xs hh ⟨v,rfl,hr⟩
  refine ⟨v,rfl,?_⟩
  rcases hr with hr | ⟨b,off,len,cap,hv,hl,hc,hm,h3⟩
  ·exact .inl hr
  ·exact .inr ⟨b,off,len,cap,hv,hl,hc,hm,λi x hx=>let ⟨cs,c1,c2⟩:=h3 i x hx;⟨cs,c1.mono hh,GT.mono hh c2⟩⟩
 own_rep:=by rintro F h cs xs ⟨v,rfl,ho⟩;exact ⟨v,rfl,ho.rep⟩
 own_loc:=by
  rintro F h h' cs xs ⟨v,rfl,ho⟩ hh
  refine ⟨v,rfl,?_⟩
  rcases ho with ho | ⟨b,off,len,cap,C,T,hv,hF,hb,hl,hc,hm,hsz,fps,h1,h2,h3⟩
  ·exact .inl ho
  ·exact .inr ⟨b,off,len,cap,C,T,hv,hF,(hh b hF).trans hb,hl,hc,hm,hsz,fps,h1,h2,λi x hx=>GT.own_loc (h3 i x hx) (λc hc=>hh c (h1 i c hc).1)⟩
 own_mono:=by
  rintro F F' h cs xs hF' ⟨v,rfl,ho⟩
  refine ⟨v,rfl,?_⟩
  rcases ho with ho | ⟨b,off,len,cap,C,T,hv,hF,hb,hl,hc,hm,hsz,fps,h1,h2,h3⟩
  ·exact .inl ho
  ·exact .inr ⟨b,off,len,cap,C,T,hv,hF' b hF,hb,hl,hc,hm,hsz,fps,λi c hc=>⟨hF' c (h1 i c hc).1,(h1 i c hc).2⟩,h2,h3⟩
 one:=by
  rintro h cs xs ⟨v,rfl,hr⟩ u hu
  simp at hu
  subst hu
  rcases hr with ⟨rfl | ⟨p,cap,rfl⟩,_⟩ | ⟨b,off,len,cap,rfl,_⟩<;>rfl
theorem nF {h:kX} {v:Value} {xs:List α}:GT.rep h [v] xs↔qU h v xs:=by
 constructor
 ·rintro ⟨u,hu,hr⟩;simp at hu;subst hu;exact hr
 ·intro hr;exact ⟨v,rfl,hr⟩
theorem mK {F:Nat→Prop} {h:kX} {v:Value} {xs:List α}:GT.own F h [v] xs↔nG F h v xs:=by
 constructor
 ·rintro ⟨u,hu,hr⟩;simp at hu;subst hu;exact hr
 ·intro hr;exact ⟨v,rfl,hr⟩
end
structure Ch where
 pr:(Nat→Prop)→kX→Prop
 loc:∀ F h h',pr F h→(∀ b,F b→h' b=h b)→pr F h'
 mono:∀ F F' h,pr F h→(∀ b,F b→F' b)→pr F' h
def blk (b:Nat) (cs:List Value) (T:TypeId):Ch where
 pr F h:=F b∧h b=some (.cells cs.toArray T (0,0))
 loc _ _ _ hp hh:=⟨hp.1,(hh b hp.1).trans hp.2⟩
 mono _ _ _ hp hF:=⟨hF b hp.1,hp.2⟩
def ow {α:Type} [GT α] (cs:List Value) (x:α):Ch where
 pr F h:=GT.own F h cs x
 loc _ _ _ hp hh:=GT.own_loc hp hh
 mono _ _ _ hp hF:=GT.own_mono hF hp
structure rW (w w':World):Prop where
 os:w'.os=w.os
 tape:w'.tape=w.tape
 output:w'.output=w.output
 size:w.heap.size≤w'.heap.size
structure Mem (w0:World) (hz:kX) (w:World) (L:List Ch):Prop where
 same:rW w0 w
 lez:kX.le hz (hp w)
 chs:∃ Fs:Nat→Nat→Prop,(∀ (i:Nat) (c:Ch),L[i]?=some c→c.pr (Fs i) (hp w))∧(∀ i j b,i≠j→Fs i b→¬ Fs j b)∧∀ i b,Fs i b→hz b=none∧b<w.heap.size
section
variable {w0 w w':World} {hz:kX} {L L':List Ch} {c c':Ch}
theorem rW.refl (w:World):rW w w:=⟨rfl,rfl,rfl,Nat.le_refl _⟩
theorem rW.trans {a b c:World} (h:rW a b) (k:rW b c):rW a c:=⟨k.os.trans h.os,k.tape.trans h.tape,k.output.trans h.output,Nat.le_trans h.size k.size⟩
theorem rW.of_below {n:Nat} (h:Below n w w'):rW w w':=⟨h.os,h.tape,h.output,h.size⟩
theorem bd2 {b:Nat} {o:Obj} (h:hp w b=some o):b<w.heap.size:=(Array.getElem?_eq_some_iff.1 h).1
theorem Mem.start (w:World):Mem w (hp w) w [] :=
 ⟨rW.refl w,kX.le_refl _,λ_ _=>False,by simp,λ_ _ _ _ h=>h.elim,λ_ _ h=>h.elim⟩
theorem Mem.hz_lt (hm:Mem w0 hz w L) {b:Nat} {o:Obj} (h:hz b=some o):b<w.heap.size:=bd2 (hm.lez b o h)
theorem Mem.hz_new (hm:Mem w0 hz w L) {b:Nat} (h:w.heap.size≤b):hz b=none:=by
 cases e:hz b with
 | none=>rfl
 | some o=>exact absurd (hm.hz_lt e) (by omega)
theorem Mem.below (hm:Mem w0 (hp w0) w L):Below w0.heap.size w0 w :=
 ⟨hm.same.os,hm.same.tape,hm.same.output,hm.same.size,λk hk=>by
  have h:hp w0 k=some w0.heap[k]:=Array.getElem?_eq_getElem hk
  have:=hm.lez k _ h
  unfold hp at this
  rw [this,Array.getElem?_eq_getElem hk]⟩
theorem Mem.now {α:Type} [GT α] (hm:Mem w0 hz w L) {cs:List Value} {x:α} (h:GT.rep hz cs x):GT.rep (hp w) cs x:=GT.mono hm.lez h
theorem Mem.get (hm:Mem w0 hz w L) (k:Nat) (hk:L[k]?=some c):∃ F,c.pr F (hp w)∧∀ b,F b→b<w.heap.size∧hz b=none:=by
 obtain ⟨Fs,h1,h2,h3⟩:=hm.chs
 exact ⟨Fs k,h1 k c hk,λb hb=>⟨(h3 k b hb).2,(h3 k b hb).1⟩⟩
theorem Mem.upd (hm:Mem w0 hz w L) (k:Nat) (hk:L[k]?=some c) (hs:rW w w')
  (H:∀ F,c.pr F (hp w)→(∀ b,F b→b<w.heap.size)→∃ F',(∀ b,F' b→F b∨w.heap.size≤b)∧(∀ b,F' b→b<w'.heap.size)∧c'.pr F' (hp w') ∧
   ∀ b,b<w.heap.size→¬ F b→w'.heap[b]?=w.heap[b]?):Mem w0 hz w' (L.set k c'):=by
 obtain ⟨Fs,h1,h2,h3⟩:=hm.chs
 obtain ⟨F',g1,g2,g3,g4⟩:=H (Fs k) (h1 k c hk) (λb hb=>(h3 k b hb).2)
 refine ⟨hm.same.trans hs,?_,λi=>if i=k then F' else Fs i,?_,?_,?_⟩
 ·intro b o hb
  have hlt:=hm.hz_lt hb
  have:=hm.lez b o hb
  unfold hp at this ⊢
  rw [g4 b hlt (λhF=>by rw [(h3 k b hF).1] at hb;cases hb)]
  exact this
 ·intro i d hi
  by_cases e:i=k
  ·subst e
   have hl:i<L.length:=(List.getElem?_eq_some_iff.1 hk).1
   rw [List.getElem?_set_self hl] at hi
   simp only [Option.some.injEq] at hi
   subst hi
   simpa using g3
  ·rw [List.getElem?_set_ne (Ne.symm e)] at hi
   simp only [e,if_false]
   refine d.loc _ _ _ (h1 i d hi) λb hb=>?_
   exact g4 b (h3 i b hb).2 (h2 i k b e hb)
 ·intro i j b hij hi hj
  by_cases e:i=k
  ·subst e
   simp only [if_true] at hi
   rw [if_neg (Ne.symm hij)] at hj
   rcases g1 b hi with h | h
   ·exact h2 _ j b hij h hj
   ·have:=(h3 j b hj).2;omega
  ·rw [if_neg e] at hi
   by_cases e2:j=k
   ·subst e2
    simp only [if_true] at hj
    rcases g1 b hj with h | h
    ·exact h2 i _ b hij hi h
    ·have:=(h3 i b hi).2;omega
   ·rw [if_neg e2] at hj
    exact h2 i j b hij hi hj
 ·intro i b hi
  by_cases e:i=k
  ·subst e
   simp only [if_true] at hi
   refine ⟨?_,g2 b hi⟩
   rcases g1 b hi with h | h
   ·exact (h3 _ b h).1
   ·exact hm.hz_new h
  ·rw [if_neg e] at hi
   exact ⟨(h3 i b hi).1,Nat.lt_of_lt_of_le (h3 i b hi).2 hs.size⟩
theorem Mem.more (hm:Mem w0 hz w L) (hs:rW w w') (hb:∀ b,b<w.heap.size→w'.heap[b]?=w.heap[b]?)
  (hc:∃ F,(∀ b,F b→w.heap.size≤b∧b<w'.heap.size)∧c.pr F (hp w')):Mem w0 hz w' (c::L):=by
 obtain ⟨Fs,h1,h2,h3⟩:=hm.chs
 obtain ⟨F,f1,f2⟩:=hc
 refine ⟨hm.same.trans hs,?_,λi=>match i with | 0=>F | i+1=>Fs i,?_,?_,?_⟩
 ·intro b o ho
  have hlt:=hm.hz_lt ho
  have:=hm.lez b o ho
  unfold hp at this ⊢
  rw [hb b hlt];exact this
 ·intro i d hi
  cases i with
  | zero=>simp at hi;subst hi;exact f2
  | succ i=>simp at hi;exact d.loc _ _ _ (h1 i d hi) λb hbF=>hb b (h3 i b hbF).2
 ·intro i j b hij hi hj
  cases i with
  | zero =>
   cases j with
   | zero=>exact hij rfl
   | succ j=>have:=(f1 b hi).1;have:=(h3 j b hj).2;omega
  | succ i =>
   cases j with
   | zero=>have:=(f1 b hj).1;have:=(h3 i b hi).2;omega
   | succ j=>exact h2 i j b (by omega) hi hj
 ·intro i b hi
  cases i with
  | zero=>exact ⟨hm.hz_new (f1 b hi).1,(f1 b hi).2⟩
  | succ i=>exact ⟨(h3 i b hi).1,Nat.lt_of_lt_of_le (h3 i b hi).2 hs.size⟩
theorem Mem.pick (hm:Mem w0 hz w L) (js:List Nat) (hn:js.Nodup) (hL:js.map (λj=>L[j]?)=L'.map some):Mem w0 hz w L':=by
 obtain ⟨Fs,h1,h2,h3⟩:=hm.chs
 have hlen:js.length=L'.length:=by have:=congrArg List.length hL;simpa using this
 refine ⟨hm.same,hm.lez,λi b=>∃ j,js[i]?=some j∧Fs j b,?_,?_,?_⟩
 ·intro i d hi
  have hil:i<js.length:=by rw [hlen];exact (List.getElem?_eq_some_iff.1 hi).1
  have e:=congrArg (λl=>l[i]?) hL
  simp only [List.getElem?_map,hi,Option.map_some,List.getElem?_eq_getElem hil] at e
  simp only [Option.some.injEq] at e
  exact d.mono _ _ _ (h1 _ d e) λb hb=>⟨js[i],List.getElem?_eq_getElem hil,hb⟩
 ·rintro i k b hik ⟨j,hj,hjb⟩ ⟨j',hj',hjb'⟩
  refine h2 j j' b (λe=>hik ?_) hjb hjb'
  subst e
  have a1:=List.getElem?_eq_some_iff.1 hj
  have a2:=List.getElem?_eq_some_iff.1 hj'
  obtain ⟨p,hp'⟩:=a1
  obtain ⟨q,hq'⟩:=a2
  rcases Nat.lt_trichotomy i k with hlt | heq | hgt
  ·exact absurd (hp'.trans hq'.symm) ((List.pairwise_iff_getElem.1 hn) i k p q hlt)
  ·exact heq
  ·exact absurd (hq'.trans hp'.symm) ((List.pairwise_iff_getElem.1 hn) k i q p hgt)
 ·rintro i b ⟨j,_,hjb⟩
  exact h3 j b hjb
theorem Mem.imp (hm:Mem w0 hz w L) (k:Nat) (hk:L[k]?=some c) (H:∀ F,c.pr F (hp w)→c'.pr F (hp w)):Mem w0 hz w (L.set k c') :=
 hm.upd k hk (rW.refl w) λF hF hlt=>⟨F,λ_ h=>.inl h,hlt,H F hF,λ_ _ _=>rfl⟩
theorem Mem.below' (hm:Mem w0 hz w L) (hb:Below w.heap.size w w'):Mem w0 hz w' L:=by
 have:=hm.more (c:=⟨λ_ _=>True,λ_ _ _ _ _=>trivial,λ_ _ _ _ _=>trivial⟩) (rW.of_below hb) hb.block ⟨λ_=>False,λ_ h=>h.elim,trivial⟩
 obtain ⟨h1,h3,Fs,g1,g2,g3⟩:=this
 exact ⟨h1,h3,λi=>Fs (i+1),λi d hi=>g1 (i+1) d (by simpa using hi),λi j b hij=>g2 (i+1) (j+1) b (by omega),λi b=>g3 (i+1) b⟩
theorem Mem.drew (hm:Mem w0 hz w L):Mem w0 hz w.drew L:=⟨⟨hm.same.os,hm.same.tape,hm.same.output,hm.same.size⟩,hm.lez,hm.chs⟩
theorem Mem.alloc (hm:Mem w0 hz w L) (cs:List Value) (T:TypeId):Mem w0 hz (w.alloc (.cells cs.toArray T)) (blk w.heap.size cs T::L) :=
 hm.more ⟨rfl, rfl, rfl, by simp⟩ (fun b hb => Below.heap_alloc w _ b hb)
  ⟨λb=>b=w.heap.size,λb hb=>by subst hb;simp,rfl,by simp only [hp];exact heap_alloc_new w _⟩
theorem Mem.merge {d:Ch} (hm:Mem w0 hz w L) (k j:Nat) (hkj:k≠j) (hk:L[k]?=some c) (hj:L[j]?=some d)
  (H:∀ F G,c.pr F (hp w)→d.pr G (hp w)→(∀ b,F b→¬ G b)→c'.pr (λb=>F b∨G b) (hp w)):Mem w0 hz w ((L.set k c').set j ⟨λ_ _=>True,λ_ _ _ _ _=>trivial,λ_ _ _ _ _=>trivial⟩):=by
 obtain ⟨Fs,h1,h2,h3⟩:=hm.chs
 refine ⟨hm.same,hm.lez,λi b=>(i≠j∧Fs i b)∨(i=k∧Fs j b),?_,?_,?_⟩
 ·intro i e hi
  by_cases e1:i=j
  ·subst e1
   have hl:i<(L.set k c').length:=by simpa using (List.getElem?_eq_some_iff.1 hj).1
   rw [List.getElem?_set_self hl] at hi
   simp only [Option.some.injEq] at hi
   subst hi
   trivial
  ·rw [List.getElem?_set_ne (Ne.symm e1)] at hi
   by_cases e2:i=k
   ·subst e2
    have hl:i<L.length:=(List.getElem?_eq_some_iff.1 hk).1
    rw [List.getElem?_set_self hl] at hi
    simp only [Option.some.injEq] at hi
    subst hi
    refine c'.mono _ _ _ (H _ _ (h1 i c hk) (h1 j d hj) (λb=>h2 i j b e1)) λb hb=>?_
    rcases hb with hb | hb
    ·exact .inl ⟨e1,hb⟩
    ·exact .inr ⟨rfl,hb⟩
   ·rw [List.getElem?_set_ne (Ne.symm e2)] at hi
    exact e.mono _ _ _ (h1 i e hi) λb hb=>.inl ⟨e1,hb⟩
 ·rintro i i' b hii (⟨a1,a2⟩ | ⟨rfl,a2⟩) (⟨b1,b2⟩ | ⟨rfl,b2⟩)
  ·exact h2 i i' b hii a2 b2
  ·exact h2 i j b a1 a2 b2
  ·exact h2 j i' b (Ne.symm b1) a2 b2
  ·exact hii rfl
 ·rintro i b (⟨_,hb⟩ | ⟨_,hb⟩)
  ·exact h3 i b hb
  ·exact h3 j b hb
theorem Mem.blk_cells {b:Nat} {cs:List Value} {T:TypeId} (hm:Mem w0 hz w L) (k:Nat) (hk:L[k]?=some (blk b cs T)):w.heap[b]?=some (.cells cs.toArray T (0,0))∧b<w.heap.size:=by
 obtain ⟨F,h1,h2⟩:=hm.get k hk
 exact ⟨h1.2,(h2 b h1.1).1⟩
theorem Mem.blk_cell {b i:Nat} {cs:List Value} {T:TypeId} {v:Value} (hm:Mem w0 hz w L) (k:Nat) (hk:L[k]?=some (blk b cs T)) (hi:cs[i]?=some v):w.cell? ⟨b,i,none⟩=some v:=by
 have:=(hm.blk_cells k hk).1
 simp [World.cell?,this,hi]
theorem Mem.blk_set {b i:Nat} {cs:List Value} {T:TypeId} {v:Value} (hm:Mem w0 hz w L) (k:Nat) (hk:L[k]?=some (blk b cs T)):Mem w0 hz (w.setCell ⟨b,i,none⟩ v) (L.set k (blk b (cs.set i v) T)) :=
 hm.upd k hk ⟨rfl,rfl,rfl,by simp⟩ λF hF hlt=>⟨F,λ_ h=>.inl h,λc hc=>by simpa using hlt c hc,⟨hF.1,by
  have:=heap_setCell_same w b i cs.toArray T v hF.2
  simpa [hp] using this⟩,λc _ hne=>heap_setCell_other w _ c v (λe=>hne (by subst e;exact hF.1))⟩
theorem Mem.take {L1 L2:List Ch} (hm:Mem w0 hz w L) (js ks:List Nat) (hn:(js++ks).Nodup) (h1:js.map (λj=>L[j]?)=L1.map some) (h2:ks.map (λj=>L[j]?)=L2.map some) :
  ∃ hz',kX.le hz hz'∧Mem w hz' w L1∧(∀ {α:Type} [GT α] {cs:List Value} {x:α} (i:Nat),L2[i]?=some (ow cs x)→GT.rep hz' cs x)∧∀ w' M,Mem w hz' w' M→Mem w0 hz w' (M++L2):=by
 classical
 have hmp:=hm.pick (js++ks) hn (L':=L1++L2) (by rw [List.map_append,List.map_append,h1,h2])
 clear h1 h2 hn hm
 obtain ⟨hs,hlez,Fs,f1,f2,f3⟩:=hmp
 have hcut:∀ b,(if ∃ i,i<L1.length∧Fs i b then none else hp w b)=none∨((¬ ∃ i,i<L1.length∧Fs i b)∧(if ∃ i,i<L1.length∧Fs i b then none else hp w b)=hp w b):=λb=>by
  by_cases h:∃ i,i<L1.length∧Fs i b
  ·exact .inl (if_pos h)
  ·exact .inr ⟨h,if_neg h⟩
 have hle:kX.le hz (λb=>if ∃ i,i<L1.length∧Fs i b then none else hp w b):=by
  intro b o hb
  show (if ∃ i,i<L1.length∧Fs i b then none else hp w b)=some o
  rw [if_neg]
  ·exact hlez b o hb
  ·rintro ⟨i,_,hF⟩
   rw [(f3 i b hF).1] at hb
   cases hb
 refine ⟨λb=>if ∃ i,i<L1.length∧Fs i b then none else hp w b,hle,⟨rW.refl w,?_,λi b=>i<L1.length∧Fs i b,?_,?_,?_⟩,?_,?_⟩
 ·intro b o hb
  rcases hcut b with h | ⟨_,h⟩
  ·exact absurd (hb.symm.trans h) (by simp)
  ·exact (hb.symm.trans h).symm
 ·intro i c hi
  have hil:i<L1.length:=(List.getElem?_eq_some_iff.1 hi).1
  exact c.mono _ _ _ (f1 i c (by rw [List.getElem?_append_left hil];exact hi)) λb hb=>⟨hil,hb⟩
 ·rintro i j b hij ⟨_,hi⟩ ⟨_,hj⟩
  exact f2 i j b hij hi hj
 ·rintro i b ⟨hi,hb⟩
  exact ⟨if_pos ⟨i,hi,hb⟩,(f3 i b hb).2⟩
 ·intro α _ cs x i hi
  have hown:=f1 (L1.length+i) _ (by rw [List.getElem?_append_right (by omega)];simpa using hi)
  refine GT.own_rep (GT.own_loc (F:=Fs (L1.length+i)) hown λb hb=>?_)
  show (if ∃ i,i<L1.length∧Fs i b then none else hp w b)=hp w b
  rw [if_neg]
  rintro ⟨j,hj,hjb⟩
  exact f2 j (L1.length+i) b (by omega) hjb hb
 ·intro w' M hM
  obtain ⟨gs,glez,Gs,g1,g2,g3⟩:=hM
  have hkeep:∀ i b,L1.length≤i→Fs i b→hp w' b=hp w b:=λi b hi hb=>by
   have hne:¬ ∃ i,i<L1.length∧Fs i b:=by
    rintro ⟨j,hj,hjb⟩
    exact f2 j i b (by omega) hjb hb
   have hlt:=(f3 i b hb).2
   have hsome:hp w b=some w.heap[b]:=Array.getElem?_eq_getElem hlt
   have:=glez b w.heap[b] (by show (if ∃ i,i<L1.length∧Fs i b then none else hp w b)=_;rw [if_neg hne];exact hsome)
   rw [this,hsome]
  refine ⟨hs.trans gs,kX.le_trans hle glez,λi b=>if i<M.length then Gs i b else L1.length≤i - M.length+L1.length∧Fs (i - M.length+L1.length) b,?_,?_,?_⟩
  ·intro i c hi
   by_cases him:i<M.length
   ·rw [List.getElem?_append_left him] at hi
    exact c.mono _ _ _ (g1 i c hi) λb hb=>by dsimp only;rw [if_pos him];exact hb
   ·rw [List.getElem?_append_right (by omega)] at hi
    have:=f1 (L1.length+(i - M.length)) c (by rw [List.getElem?_append_right (by omega)];simpa using hi)
    refine c.mono _ _ _ (c.loc _ _ _ this λb hb=>hkeep _ b (by omega) hb) λb hb=>?_
    dsimp only
    rw [if_neg him]
    exact ⟨by omega,by rw [Nat.add_comm];exact hb⟩
  ·intro i j b hij hi hj
   try dsimp only at hi hj
   have cross:∀ i j,i<M.length→Gs i b→L1.length≤j→Fs j b→False:=λi j _ hG hj hF=>by
    have h3:=(g3 i b hG).1
    have hne:¬ ∃ i,i<L1.length∧Fs i b:=by
     rintro ⟨k,hk,hkb⟩
     exact f2 k j b (by omega) hkb hF
    rw [if_neg hne] at h3
    have hlt:=(f3 j b hF).2
    have:hp w b=some w.heap[b]:=Array.getElem?_eq_getElem hlt
    rw [this] at h3
    cases h3
   by_cases him:i<M.length
   ·rw [if_pos him] at hi
    by_cases hjm:j<M.length
    ·rw [if_pos hjm] at hj
     exact g2 i j b hij hi hj
    ·rw [if_neg hjm] at hj
     exact cross i _ him hi hj.1 hj.2
   ·rw [if_neg him] at hi
    by_cases hjm:j<M.length
    ·rw [if_pos hjm] at hj
     exact cross j _ hjm hj hi.1 hi.2
    ·rw [if_neg hjm] at hj
     exact f2 _ _ b (by omega) hi.2 hj.2
  ·intro i b hi
   try dsimp only at hi
   by_cases him:i<M.length
   ·rw [if_pos him] at hi
    have h3:=g3 i b hi
    refine ⟨?_,h3.2⟩
    cases hzb:hz b with
    | none=>rfl
    | some o =>
     have:=(hle b o hzb).symm.trans h3.1
     cases this
   ·rw [if_neg him] at hi
    exact ⟨(f3 _ b hi.2).1,Nat.lt_of_lt_of_le (f3 _ b hi.2).2 gs.size⟩
theorem Mem.give {M:List Ch} (hm:Mem w0 hz w L) (hM:Mem w (hp w) w' M):Mem w0 hz w' (M++L):=by
 obtain ⟨gs,glez,Gs,g1,g2,g3⟩:=hM
 obtain ⟨hs,hlez,Fs,f1,f2,f3⟩:=hm
 have hkeep:∀ i b,Fs i b→hp w' b=hp w b:=λi b hb=>by
  have hlt:=(f3 i b hb).2
  have hsome:hp w b=some w.heap[b]:=Array.getElem?_eq_getElem hlt
  rw [glez b _ hsome,hsome]
 refine ⟨hs.trans gs,kX.le_trans hlez glez,λi b=>if i<M.length then Gs i b else Fs (i - M.length) b,?_,?_,?_⟩
 ·intro i c hi
  by_cases him:i<M.length
  ·rw [List.getElem?_append_left him] at hi
   exact c.mono _ _ _ (g1 i c hi) λb hb=>by dsimp only;rw [if_pos him];exact hb
  ·rw [List.getElem?_append_right (by omega)] at hi
   exact c.mono _ _ _ (c.loc _ _ _ (f1 _ c hi) λb hb=>hkeep _ b hb) λb hb=>by dsimp only;rw [if_neg him];exact hb
 ·intro i j b hij hi hj
  try dsimp only at hi hj
  have cross:∀ i j,Gs i b→Fs j b→False:=λi j hG hF=>by
   have hlt:=(f3 j b hF).2
   have:hp w b=some w.heap[b]:=Array.getElem?_eq_getElem hlt
   rw [(g3 i b hG).1] at this
   cases this
  by_cases him:i<M.length
  ·rw [if_pos him] at hi
   by_cases hjm:j<M.length
   ·rw [if_pos hjm] at hj;exact g2 i j b hij hi hj
   ·rw [if_neg hjm] at hj;exact cross i _ hi hj
  ·rw [if_neg him] at hi
   by_cases hjm:j<M.length
   ·rw [if_pos hjm] at hj;exact cross j _ hj hi
   ·rw [if_neg hjm] at hj;exact f2 _ _ b (by omega) hi hj
 ·intro i b hi
  try dsimp only at hi
  by_cases him:i<M.length
  ·rw [if_pos him] at hi
   have h3:=g3 i b hi
   refine ⟨?_,h3.2⟩
   cases hzb:hz b with
   | none=>rfl
   | some o =>
    have:=hlez b o hzb
    rw [h3.1] at this
    cases this
  ·rw [if_neg him] at hi
   exact ⟨(f3 _ b hi).1,Nat.lt_of_lt_of_le (f3 _ b hi).2 gs.size⟩
end
end Go.Wk
namespace Go.Wk
open Go Go.RowKit
def Rt (R:Value→World→Prop):Ending→World→Prop
 | .returned v,w=>R v w
 | _,_=>False
def Ef (P:Program) (a:Act) (w:World) (o:Oper) (R:Value→World→Prop):Prop :=
 ∀ (K:Act→World→Prop) (Q:Exit→Act→World→Prop),(∀ v w',R v w'→K (a.put o.dst v) w')→o.wp P a w K Q
section
variable {P:Program} {ops:Array Oper} {Q:Exit→Act→World→Prop} {a:Act} {w:World} {rest:List Oper} {o:Oper} {n:Nat} {l:Env} {d:Nat} {v:Value} {R:Value→World→Prop}
theorem Ef.mono {R':Value→World→Prop} (he:Ef P a w o R) (h:∀ v w',R v w'→R' v w'):Ef P a w o R' :=
 λK Q hk=>he K Q λv w' hR=>hk v w' (h v w' hR)
theorem pw {w':World} (hr:(execOp a.eval o).run P w=.ok (.value v) w') (hR:R v w'):Ef P a w o R:=λK Q hk=>by
 unfold Oper.wp
 rw [hr]
 exact hk v w' hR
theorem yw {w':World} (hr:(execOp a.eval o).run P w=.ok .skip w') (hR:R undef w'):Ef P a w o R:=λK Q hk=>by
 unfold Oper.wp
 rw [hr]
 exact hk undef w' hR
end
theorem pq (b o k:Nat):(⟨b,o,none⟩:Addr).add k=⟨b,o+k,none⟩:=by unfold Addr.add;split<;>simp_all
def lE (P:Program) (t:TypeId) (k off:Nat):Prop:=∀ b o w,(Instr.fieldAt t (.pointer (some ⟨b,o,none⟩)) k).run P w=.ok (.pointer (some ⟨b,o+off,none⟩)) w
theorem lE.mk {P:Program} {t:TypeId} {k s:Nat} {fs:Array Field} {f:Field} (hu:P.underlying t=some (.struct fs)) (hf:fs[k]?=some f) (hs:∀ w,(sizeOf f.type).run P w=.ok (s+1) w):lE P t k f.offset:=by
 intro b o w
 simp [Instr.fieldAt,run_underlying hu,hf,Instr.sureAddr,fieldPlace,hs,pq]
structure qK (P:Program) (t e s:Nat):Prop where
 und:P.underlying t=some (.slice e)
 size:∀ w,(sizeOf e).run P w=.ok s w
section
variable {P:Program} {a:Act} {w:World} {o:Oper} {n:Nat} {l:Env} {v:Value} {x y c:Operand} {t e s:TypeId}
theorem al0 {k b i off:Nat} (hF:lE P t k off) (ho:o.op=.fieldAddr t x k) (hx:ev l x=some (.pointer (some ⟨b,i,none⟩))) :
  Yl P l w o (.pointer (some ⟨b,i+off,none⟩)):=λn a hf=>by
 simp [execOp,ho,hf.eval hx,hF b i w]
theorem ak5 {b off len cap:Nat} {j:Int} {k:IntKind} (hT:qK P t e s) (ho:o.op=.indexAddr t x y) (hx:ev l x=some (.slice (some ⟨b,off,none⟩) len cap)) (hy:ev l y=some (.int k j)) (h0:0≤j) (hi:j.toNat<len) :
  Yl P l w o (.pointer (some ⟨b,off+j.toNat*s,none⟩)):=λn a hf=>by
 have h1:j<(len:Int):=by omega
 simp [execOp,ho,hf.eval hx,hf.eval hy,Instr.indexAt,asIntOf,run_underlying hT.und,h0,h1,hT.size,pq]
theorem am1 {p : Option Addr} {len cap : Nat} (ht : P.underlying t = some (.slice e)) (ho : o.op = .call { callee := .builtin .len, args := #[x], argTypes := #[t] }) (hx : ev l x = some (.slice p len cap)) :
  Yl P l w o (.int .i64 (len:Int)):=λn a hf=>by
 simp [execOp,ho,resolve,invoke,builtin,hf.eval hx,Builtin.len_,run_underlying ht,goInt]
theorem ah4 {s : ByteArray} (ht : P.underlying t = some .string) (ho : o.op = .call { callee := .builtin .len, args := #[x], argTypes := #[t] }) (hx : ev l x = some (.string s)) :
  Yl P l w o (.int .i64 (s.size:Int)):=λn a hf=>by
 simp [execOp,ho,resolve,invoke,builtin,hf.eval hx,Builtin.len_,run_underlying ht,goInt]
theorem as9 {b i:Nat} (ht:∀ w,(isAgg t).run P w=.ok false w) (ho:o.op=.load t x) (hx:ev l x=some (.pointer (some ⟨b,i,none⟩))) (hc:w.cell? ⟨b,i,none⟩=some v) :
  Yl P l w o v:=λn a hf=>by
 simp [execOp,ho,hf.eval hx,Instr.loadAt,Instr.sureAddr,loadVar,ht,hc]
theorem bp8 {b i:Nat} {cs:List Value} (ht:∀ w,(isAgg t).run P w=.ok true w) (hs:∀ w,(sizeOf t).run P w=.ok cs.length w) (ho:o.op=.load t x) (hx:ev l x=some (.pointer (some ⟨b,i,none⟩))) (hc:lq (hp w) b i cs) :
  Yl P l w o (.agg cs.toArray):=λn a hf=>by
 have:=run_loadCells_list (P:=P) w ⟨b,i,none⟩ cs (λj v hj=>by rw [pq];exact hc.cell hj)
 simp [execOp,ho,hf.eval hx,Instr.loadAt,Instr.sureAddr,loadVar,ht,hs,this]
end
section
variable {P:Program} {a:Act} {w w0:World} {hz:kX} {L:List Ch} {o:Oper} {n:Nat} {l:Env} {v:Value} {x y c:Operand} {t e s T:TypeId}
theorem mb {z:Value} {cs:List Value} (hm:Mem w0 hz w L) (hz':∀ w,(zeroValue t).run P w=.ok z w) (ho:o.op=.alloc t) (hc:z.cells=cs.toArray) :
  Ef P a w o (λv w'=>∃ b,v=.pointer (some ⟨b,0,none⟩)∧Mem w0 hz w' (blk b cs t::L)) :=
 pw (w':=w.alloc (.cells cs.toArray t)) (v:=.pointer (some ⟨w.heap.size,0,none⟩)) (by simp [execOp,ho,Instr.alloc,hz',newVar,newRow,hc]) ⟨_,rfl,hm.alloc cs t⟩
theorem cc5 {cs:List Value} (hf:Fr n l a) (hm:Mem w0 hz w L) (ho:o.op=.box t x) (hx:ev l x=some v) (hc:v.cells=cs.toArray) :
  Ef P a w o (λv w'=>∃ b,v=.pointer (some ⟨b,0,none⟩)∧Mem w0 hz w' (blk b cs t::L)) :=
 pw (w':=w.alloc (.cells cs.toArray t)) (v:=.pointer (some ⟨w.heap.size,0,none⟩)) (by simp [execOp,ho,hf.eval hx,Instr.box,newVar,newRow,hc]) ⟨_,rfl,hm.alloc cs t⟩
theorem nP {b i:Nat} {cs:List Value} (k:Nat) (hf:Fr n l a) (hm:Mem w0 hz w L) (hk:L[k]?=some (blk b cs T)) (hs:∀ w,(sizeOf t).run P w=.ok 1 w) (ho:o.op=.store t x y)
  (hx:ev l x=some (.pointer (some ⟨b,i,none⟩))) (hy:ev l y=some v) (h1:v.oneCell'=true) (hi:Nat.blt i cs.length=true) :
  Ef P a w o (λ_ w'=>Mem w0 hz w' (L.set k (blk b (cs.set i v) T))):=by
 have hi':i<cs.length:=by simpa [Nat.blt_eq] using hi
 have hcell:w.cell? ⟨b,i,none⟩=some cs[i]:=hm.blk_cell k hk (List.getElem?_eq_getElem hi')
 have hfr:w.frozen? ⟨b,i,none⟩=false:=by simp [World.frozen?,(hm.blk_cells k hk).1]
 have hcs:v.cells=#[v]:=by cases v<;>first | rfl | cases h1
 refine yw (w':=w.setCell ⟨b,i,none⟩ v) ?_ (hm.blk_set k hk)
 simp [execOp,ho,hf.eval hx,hf.eval hy,Instr.storeAt,Instr.sureAddr,storeVar,hcs,hs,storeCells,pq,run_store P w _ v _ h1,hcell,hfr]
def oy (cs:List Value) (o:Nat) (vs:List Value):List Value:=cs.take o++vs++cs.drop (o+vs.length)
theorem nH {b i:Nat} {cs vs cs':List Value} (k:Nat) (hf:Fr n l a) (hm:Mem w0 hz w L) (hk:L[k]?=some (blk b cs T)) (hs:∀ w,(sizeOf t).run P w=.ok vs.length w) (ho:o.op=.store t x y)
  (hx:ev l x=some (.pointer (some ⟨b,i,none⟩))) (hy:ev l y=some (.agg vs.toArray)) (h1:∀ v∈vs,v.oneCell'=true) (hi:Nat.ble (i+vs.length) cs.length=true) (hcs:oy cs i vs=cs') :
  Ef P a w o (λ_ w'=>Mem w0 hz w' (L.set k (blk b cs' T))):=by
 have hi':i+vs.length≤cs.length:=Nat.le_of_ble_eq_true hi
 have hb:=(hm.blk_cells k hk).1
 have hst:=run_storeCells_at P b i T vs 0 cs.toArray w hb (by simpa using hi') h1
 subst hcs
 refine yw (w':=w.setRow b (oy cs i vs).toArray) ?_ ?_
 ·simp [execOp,ho,hf.eval hx,hf.eval hy,Instr.storeAt,Instr.sureAddr,storeVar,Value.cells,hs,hst,oy]
 ·refine hm.upd k hk ⟨rfl,rfl,rfl,by simp⟩ λF hF hlt=>⟨F,λ_ h=>.inl h,λc hc=>by simpa using hlt c hc,⟨hF.1,setRow_heap w b _ _ T _ hb⟩,λc _ hne=>setRow_other w b c _ (λe=>hne (by subst e;exact hF.1))⟩
end
section
variable {α:Type} [GT α] {P:Program} {a:Act} {w w0:World} {hz:kX} {L:List Ch} {o:Oper} {n:Nat} {l:Env} {v sv:Value} {x y c:Operand} {t e s T:TypeId} {xs:List α}
theorem qU.at {h:kX} (hr:qU h sv xs) {i:Nat} (hi:i<xs.length) :
  ∃ b off cap,sv=.slice (some ⟨b,off,none⟩) xs.length cap∧∃ cs,lq h b (off+i*GT.sz α) cs∧GT.rep h cs xs[i]:=by
 rcases hr with ⟨_,rfl⟩ | ⟨b,off,len,cap,hv,hl,hc,hm,h3⟩
 ·simp at hi
 ·obtain ⟨cs,h1,h2⟩:=h3 i _ (List.getElem?_eq_getElem hi)
  exact ⟨b,off,cap,by rw [hl];exact hv,cs,h1,h2⟩
theorem qU.len {h:kX} (hr:qU h sv xs):∃ p cap,sv=.slice p xs.length cap∧xs.length≤140737488355328:=by
 rcases hr with ⟨rfl | ⟨p,cap,rfl⟩,rfl⟩ | ⟨b,off,len,cap,hv,hl,hc,hm,h3⟩
 ·exact ⟨none,0,rfl,by simp⟩
 ·exact ⟨some p,cap,rfl,by simp⟩
 ·exact ⟨_,cap,by rw [hl];exact hv,by omega⟩
theorem qU.cells {h:kX} {b off len cap:Nat} (hr:qU h (.slice (some ⟨b,off,none⟩) len cap) xs) :
  ∃ cs:List Value,cs.length=len*GT.sz α∧(∀ v∈cs,v.oneCell'=true)∧(∀ j v,cs[j]?=some v→∃ C T fz,h b=some (.cells C T fz)∧C[off+j]?=some v) ∧
   ∀ (i:Nat) (x:α),xs[i]?=some x→GT.rep h ((cs.drop (i*GT.sz α)).take (GT.sz α)) x:=by
 rcases hr with ⟨hv | ⟨p,c,hv⟩,rfl⟩ | ⟨b',off',len',cap',hv,hl,hc,hm,h3⟩
 ·cases hv
 ·cases hv
  exact ⟨[],by simp,by simp,by simp,by simp⟩
 ·simp only [Value.slice.injEq,Option.some.injEq,Addr.mk.injEq] at hv
  obtain ⟨⟨rfl,rfl,_⟩,rfl,rfl⟩:=hv
  subst hl
  clear hc hm
  induction xs generalizing off with
  | nil=>exact ⟨[],by simp,by simp,by simp,by simp⟩
  | cons x xs ih =>
   obtain ⟨c0,h0,r0⟩:=h3 0 x rfl
   obtain ⟨cs,g1,g2,g3,g4⟩:=ih (off:=off+GT.sz α) (λi y hy=>by
    obtain ⟨c,hc,hr⟩:=h3 (i+1) y (by simpa using hy)
    exact ⟨c,by rw [show off+GT.sz α+i*GT.sz α=off+(i+1)*GT.sz α by rw [Nat.add_mul];omega];exact hc,hr⟩)
   have hl0:=GT.len r0
   refine ⟨c0++cs,by simp [hl0,g1,Nat.add_mul];omega,?_,?_,?_⟩
   ·intro v hv
    rcases List.mem_append.1 hv with hv | hv
    ·exact GT.one r0 v hv
    ·exact g2 v hv
   ·intro j v hj
    by_cases hjl:j<c0.length
    ·rw [List.getElem?_append_left hjl] at hj
     obtain ⟨C,T,fz,e1,e2⟩:=h0
     exact ⟨C,T,fz,e1,by simpa using e2 j v hj⟩
    ·rw [List.getElem?_append_right (by omega)] at hj
     obtain ⟨C,T,fz,e1,e2⟩:=g3 _ v hj
     exact ⟨C,T,fz,e1,by rw [← e2];congr 1;omega⟩
   ·intro i y hy
    cases i with
    | zero =>
     simp at hy
     subst hy
     simpa [hl0] using r0
    | succ i =>
     have:=g4 i y (by simpa using hy)
     rw [show (i+1)*GT.sz α=c0.length+i*GT.sz α by rw [Nat.add_mul,hl0];omega,List.drop_append,List.drop_eq_nil_of_le (by omega)]
     simpa using this
end
end Go.Wk
namespace Go.Wk
open Go Go.RowKit
theorem bx5 {C D:Array Value} {o n:Nat} (hs:D.size=C.size) (h:∀ j,o≤j→j<o+n→D[j]?=C[j]?):seg D o n=seg C o n:=by
 apply List.ext_getElem?
 intro j
 by_cases hj:j<n
 ·rw [rb hj,rb hj,h _ (by omega) (by omega)]
 ·simp [seg,List.getElem?_take,hj]
theorem zV {cs:List Value} {o n:Nat}:seg cs.toArray o n=(cs.drop o).take n:=by simp [seg]
theorem wF {C:Array Value} {o n i s:Nat} (h:i+s≤n):seg C (o+i) s=((seg C o n).drop i).take s:=by
 apply List.ext_getElem?
 intro j
 by_cases hj:j<s
 ·rw [rb hj, List.getElem?_take_of_lt hj, List.getElem?_drop, rb (by omega)]
  congr 1;omega
 ·simp [seg,List.getElem?_take,hj]
theorem p8 {i j s:Nat} (h:i<j):i*s+s≤j*s:=by
 have:=Nat.mul_le_mul_right s (show i+1≤j from h)
 rwa [Nat.add_mul,Nat.one_mul] at this
section
variable {α:Type} [GT α] {F:Nat→Prop} {h h':kX} {b off len cap:Nat} {xs:List α}
theorem nG.put {C C':Array Value} {T:TypeId} {i:Nat} {x':α} {G:Nat→Prop} (ho:nG F h (.slice (some ⟨b,off,none⟩) len cap) xs) (hi:i<xs.length)
  (hC:h b=some (.cells C T (0,0))) (hC':h' b=some (.cells C' T (0,0))) (hsz:C'.size=C.size) (hout:∀ j,(j<off+i*GT.sz α∨off+i*GT.sz α+GT.sz α≤j)→C'[j]?=C[j]?)
  (hh:∀ c,F c→c≠b→h' c=h c) (hG:∀ c,G c→¬ F c) (hx:GT.own G h' (seg C' (off+i*GT.sz α) (GT.sz α)) x') :
  nG (λc=>F c∨G c) h' (.slice (some ⟨b,off,none⟩) len cap) (xs.set i x'):=by
 rcases ho with ⟨hv,_⟩ | ⟨b',off',len',cap',C0,T0,hv,hF,hb,hl,hc,hm,hs,fps,h1,h2,h3⟩
 ·cases hv
 ·simp only [Value.slice.injEq,Option.some.injEq,Addr.mk.injEq] at hv
  obtain ⟨⟨rfl,rfl,_⟩,rfl,rfl⟩:=hv
  rw [hC] at hb
  simp only [Option.some.injEq,Obj.cells.injEq] at hb
  obtain ⟨rfl,rfl,_⟩:=hb
  refine .inr ⟨_,_,_,_,C',T,rfl,.inl hF,hC',by simpa using hl,hc,hm,by rw [hsz];exact hs,λj=>if j=i then G else fps j,?_,?_,?_⟩
  ·intro j c hj
   by_cases e:j=i
   ·subst e;simp only [if_true] at hj;exact ⟨.inr hj,λe=>hG c hj (by rw [e];exact hF)⟩
   ·rw [if_neg e] at hj;exact ⟨.inl (h1 j c hj).1,(h1 j c hj).2⟩
  ·intro j k c hjk hj hk
   by_cases e:j=i
   ·subst e
    simp only [if_true] at hj
    rw [if_neg (Ne.symm hjk)] at hk
    exact hG c hj (h1 k c hk).1
   ·rw [if_neg e] at hj
    by_cases e2:k=i
    ·subst e2;simp only [if_true] at hk;exact hG c hk (h1 j c hj).1
    ·rw [if_neg e2] at hk;exact h2 j k c hjk hj hk
  ·intro j y hy
   by_cases e:j=i
   ·subst e
    rw [List.getElem?_set_self hi] at hy
    simp only [Option.some.injEq] at hy
    subst hy
    simpa using hx
   ·rw [List.getElem?_set_ne (Ne.symm e)] at hy
    dsimp only
    rw [if_neg e,bx5 hsz (C:=C)]
    ·exact GT.own_loc (h3 j y hy) λc hcj=>hh c (h1 j c hcj).1 (h1 j c hcj).2
    ·intro q hq1 hq2
     refine hout q ?_
     rcases Nat.lt_or_gt_of_ne e with hlt | hgt
     ·have:=p8 (s:=GT.sz α) hlt;omega
     ·have:=p8 (s:=GT.sz α) hgt;omega
theorem nG.at (ho:nG F h (.slice (some ⟨b,off,none⟩) len cap) xs) {i:Nat} (hi:i<xs.length) :
  ∃ C T G,h b=some (.cells C T (0,0))∧F b∧len=xs.length∧off+i*GT.sz α+GT.sz α≤C.size∧(∀ c,G c→F c∧c≠b)∧GT.own G h (seg C (off+i*GT.sz α) (GT.sz α)) xs[i]:=by
 rcases ho with ⟨hv,_⟩ | ⟨b',off',len',cap',C0,T0,hv,hF,hb,hl,hc,hm,hs,fps,h1,h2,h3⟩
 ·cases hv
 ·simp only [Value.slice.injEq,Option.some.injEq,Addr.mk.injEq] at hv
  obtain ⟨⟨rfl,rfl,_⟩,rfl,rfl⟩:=hv
  refine ⟨C0,T0,fps i,hb,hF,hl.symm,?_,h1 i,h3 i _ (List.getElem?_eq_getElem hi)⟩
  have:=p8 (s:=GT.sz α) (show i<cap by omega)
  omega
def xZ (fps:Nat→Nat→Prop) (h:kX) (cs:List Value) (xs:List α):Prop :=
 ∀ (i:Nat) (x:α),xs[i]?=some x→GT.own (fps i) h ((cs.drop (i*GT.sz α)).take (GT.sz α)) x
theorem nG.fresh {C:Array Value} {T:TypeId} {fps:Nat→Nat→Prop} {cs:List Value} (hb:h b=some (.cells C T (0,0))) (hl:xs.length=len) (hc:len≤cap) (hm:cap≤maxLen∧len≤140737488355328) (hs:off+cap*GT.sz α≤C.size)
  (hcs:seg C off (len*GT.sz α)=cs) (hF:F b) (h1:∀ i c,fps i c→F c∧c≠b) (h2:∀ i j c,i≠j→fps i c→¬ fps j c) (h3:xZ fps h cs xs) :
  nG F h (.slice (some ⟨b,off,none⟩) len cap) xs:=by
 refine .inr ⟨b,off,len,cap,C,T,rfl,hF,hb,hl,hc,hm,hs,fps,h1,h2,λi x hx=>?_⟩
 have hi:i<len:=by rw [← hl];exact (List.getElem?_eq_some_iff.1 hx).1
 have:=h3 i x hx
 subst hcs
 rwa [← wF (p8 hi)] at this
end
section
variable {α:Type} [Flat α]
theorem zW {fps:Nat→Nat→Prop} {h:kX} {cs:List Value} {xs:List α} (hcs:∀ (i:Nat) (x:α),xs[i]?=some x→(cs.drop (i*GT.sz α)).take (GT.sz α)=Flat.enc x):xZ fps h cs xs :=
 λi x hx=>Flat.own_iff.2 (hcs i x hx)
end
def Src (w:World) (s m:Nat) (x:Value) (news:List Value):Prop :=
 news.length=m*s∧(∀ v∈news,v.oneCell'=true)∧((x=.slice none 0 0∧m=0)∨∃ ad c,x=.slice (some ad) m c∧∀ (j:Nat) (u:Value),news[j]?=some u→w.cell? (ad.add j)=some u)
theorem Src.first {P:Program} {w w':World} {s m:Nat} {x:Value} {news:List Value} (hs:Src w s m x news) (hw:w'.heap=w.heap):(Builtin.firstCells s m x).run P w'=.ok news.toArray w':=by
 obtain ⟨h1,_,⟨rfl,rfl⟩ | ⟨ad,c,rfl,h3⟩⟩:=hs
 ·have : news = [] := List.eq_nil_of_length_eq_zero (by simpa using h1)
  subst this
  simp [Builtin.firstCells]
 ·exact run_firstCells_some (P:=P) w' s m ad m c news h1 (λj v hj=>by have:=h3 j v hj;simpa [World.cell?,hw] using this)
theorem Src.len {P:Program} {w w':World} {s m:Nat} {x:Value} {news:List Value} (hs:Src w s m x news):(Builtin.lenOf x).run P w'=.ok m w':=by
 obtain ⟨h1,_,⟨rfl,rfl⟩ | ⟨ad,c,rfl,h3⟩⟩:=hs<;>simp [Builtin.lenOf]
structure qw (P:Program) (t e s:Nat) (z:Value):Prop where
 und:P.underlying t=some (.slice e)
 info:∃ i,P.info? e=some i∧i.size=s∧i.bytes≤65536∧i.zero=some z
 zs:z.cells.size=s
 pos:0<s
theorem xV {w:World} {b off n:Nat} {C:Array Value} {T:TypeId} {fz:Nat × Nat} (hb:w.heap[b]?=some (.cells C T fz)):∀ (j:Nat) (u:Value),(seg C off n)[j]?=some u→w.cell? ((⟨b,off,none⟩:Addr).add j)=some u:=by
 intro j u hj
 rw [pq]
 exact (yZ (h:=hp w) (n:=n) (o:=off) hb).cell hj
section
variable {α:Type} [GT α] {P:Program} {w:World} {F:Nat→Prop} {sv x z:Value} {xs ys:List α} {t ty e m:Nat} {news:List Value}
theorem wu (hT:qw P t e (GT.sz α) z) (ho:nG F (hp w) sv xs) (hFw:∀ b,F b→b<w.heap.size) (hS:Src w (GT.sz α) m x news) (hm:m=ys.length)
  (fps:Nat→Nat→Prop) (hE:xZ fps (hp w) news ys) (hf1:∀ i c,fps i c→¬ F c∧c<w.heap.size) (hf2:∀ i j c,i≠j→fps i c→¬ fps j c)
  (hlen:xs.length+m≤2147483648) :
  ∃ v' w',(Builtin.append_ #[t,t] ty #[sv,x]).run P w=.ok v' w'∧rW w w'∧(∀ b,b<w.heap.size→¬ F b→w'.heap[b]?=w.heap[b]?) ∧
   ∃ F',(∀ b,F' b→F b∨(∃ i,fps i b)∨w.heap.size≤b)∧(∀ b,F' b→b<w'.heap.size)∧nG F' (hp w') v' (xs++ys):=by
 obtain ⟨i,hi,hsz,hby,hz⟩:=hT.info
 have hpos:=hT.pos
 have hnl:=hS.1
 have hml:(2147483648:Nat)≤maxLen:=by simp [maxLen]
 have grown:∀ (olds:List Value) (old:Nat) (gps:Nat→Nat→Prop),old<xs.length+m→olds.length=xs.length*GT.sz α→xZ gps (hp w) olds xs→(∀ i c,gps i c→F c)→(∀ i j c,i≠j→gps i c→¬ gps j c) →
   rW w (w.drew.alloc (.cells (olds.toArray++news.toArray++Builtin.zeroCells z.cells (grownCap w (xs.length+m) old e - (xs.length+m))) e)) ∧
   (∀ b,b<w.heap.size→¬ F b→(w.drew.alloc (.cells (olds.toArray++news.toArray++Builtin.zeroCells z.cells (grownCap w (xs.length+m) old e - (xs.length+m))) e)).heap[b]?=w.heap[b]?) ∧
   ∃ F',(∀ b,F' b→F b∨(∃ i,fps i b)∨w.heap.size≤b)∧(∀ b,F' b→b<(w.drew.alloc (.cells (olds.toArray++news.toArray++Builtin.zeroCells z.cells (grownCap w (xs.length+m) old e - (xs.length+m))) e)).heap.size) ∧
    nG F' (hp (w.drew.alloc (.cells (olds.toArray++news.toArray++Builtin.zeroCells z.cells (grownCap w (xs.length+m) old e - (xs.length+m))) e))) (.slice (some ⟨w.heap.size,0,none⟩) (xs.length+m) (grownCap w (xs.length+m) old e)) (xs++ys):=by
  intro olds old gps hold hol hoe hg1 hg2
  have hge:=grownCap_ge w (xs.length+m) old e
  have hcm:=grownCap_le_maxLen w (xs.length+m) old e (by omega)
  refine ⟨⟨rfl,rfl,rfl,by simp⟩,λb hb _=>Below.heap_alloc w.drew _ b hb,λb=>F b∨(∃ i,fps i b)∨b=w.heap.size,?_,?_,?_⟩
  ·rintro b (hb | hb | hb)
   ·exact .inl hb
   ·exact .inr (.inl hb)
   ·exact .inr (.inr (by omega))
  ·rintro b (hb | ⟨i,hb⟩ | hb)
   ·have:=hFw b hb;simp;omega
   ·have:=(hf1 i b hb).2;simp;omega
   ·subst hb;simp
  ·have hnew:∀ c,c<w.heap.size→hp (w.drew.alloc (.cells (olds.toArray++news.toArray++Builtin.zeroCells z.cells (grownCap w (xs.length+m) old e - (xs.length+m))) e)) c=hp w c :=
    λc hc=>Below.heap_alloc w.drew _ c hc
   refine nG.fresh (T:=e) (C:=olds.toArray++news.toArray++Builtin.zeroCells z.cells (grownCap w (xs.length+m) old e - (xs.length+m))) (cs:=olds++news) (fps:=λi=>if i<xs.length then gps i else fps (i - xs.length)) ?_ ?_ hge ⟨hcm,by omega⟩ ?_ ?_ ?_ ?_ ?_ ?_
   ·exact heap_alloc_new w.drew _
   ·simp [hm]
   ·simp only [Array.size_append,List.size_toArray,size_zeroCells,hT.zs,hol,hnl,← Nat.add_mul,Nat.zero_add]
    exact Nat.mul_le_mul_right _ (by omega)
   ·have : (olds ++ news).length = (xs.length + m) * GT.sz α := by rw [List.length_append, hol, hnl, Nat.add_mul]
    rw [← this]
    simp only [seg,Array.toList_append,List.drop_zero]
    exact List.take_left
   ·exact .inr (.inr rfl)
   ·intro i c hic
    by_cases hix:i<xs.length
    ·simp only [hix,if_true] at hic
     have:=hg1 i c hic
     exact ⟨.inl this,λe=>by have:=hFw c this;omega⟩
    ·simp only [hix,if_false] at hic
     exact ⟨.inr (.inl ⟨_,hic⟩),λe=>by have:=(hf1 _ c hic).2;omega⟩
   ·intro i j c hij hic hjc
    by_cases hix:i<xs.length<;>by_cases hjx:j<xs.length<;>simp only [hix,hjx,if_true,if_false] at hic hjc
    ·exact hg2 i j c hij hic hjc
    ·exact (hf1 _ c hjc).1 (hg1 i c hic)
    ·exact (hf1 _ c hic).1 (hg1 j c hjc)
    ·exact hf2 _ _ c (by omega) hic hjc
   ·intro i y hy
    by_cases hix:i<xs.length
    ·rw [List.getElem?_append_left hix] at hy
     simp only [hix,if_true]
     have h1:=hoe i y hy
     have hd:((olds++news).drop (i*GT.sz α)).take (GT.sz α)=(olds.drop (i*GT.sz α)).take (GT.sz α):=by
      have:=p8 (s:=GT.sz α) hix
      rw [List.drop_append_of_le_length (by omega),List.take_append_of_le_length (by simp;omega)]
     rw [hd]
     exact GT.own_loc h1 λc hc=>hnew c (hFw c (hg1 i c hc))
    ·rw [List.getElem?_append_right (by omega)] at hy
     simp only [hix,if_false]
     have h1:=hE _ y hy
     have hd:(olds++news).drop (i*GT.sz α)=news.drop ((i - xs.length)*GT.sz α):=by
      have e1:i*GT.sz α=olds.length+(i - xs.length)*GT.sz α:=by
       rw [hol,← Nat.add_mul];congr 1;omega
      rw [e1,List.drop_append,List.drop_eq_nil_of_le (by omega)]
      simp
     rw [hd]
     exact GT.own_loc h1 λc hc=>hnew c (hf1 _ c hc).2
 rcases ho with ⟨rfl,rfl⟩ | ⟨b,off,len,cap,C,T,rfl,hF,hb,hl,hc,hcm,hCs,gps,g1,g2,g3⟩
 ·by_cases h0:m=0
  ·subst h0
   have hy:ys=[]:=List.eq_nil_of_length_eq_zero hm.symm
   subst hy
   have hn:news=[]:=List.eq_nil_of_length_eq_zero (by simpa using hnl)
   subst hn
   refine ⟨.slice none 0 0,w,?_,rW.refl w,λ_ _ _=>rfl,F,λ_ h=>.inl h,hFw,.inl ⟨rfl,rfl⟩⟩
   have e1:=hS.len (P:=P) (w':=w)
   have e2:=hS.first (P:=P) (w':=w) rfl
   simp [Builtin.append_,run_underlying hT.und,sizeOf,typeInfo,hi,hsz,e1,e2]
  ·obtain ⟨_,_,hx⟩:=hS
   rcases hx with ⟨_,hx⟩ | ⟨ad,c,rfl,hx⟩
   ·exact absurd hx h0
   ·have hr := run_append_nil (P := P) w t ty e i z hT.und hi hz ad m c news (by rw [hsz]; exact hnl) hx (by omega) (by omega) (by
     have:m*i.bytes≤2147483648*65536:=Nat.mul_le_mul (by simpa using hlen) hby
     omega)
    have hg:=grown [] 0 (λ_ _=>False) (by simp;omega) (by simp) (by intro i x hx;simp at hx) (by simp) (by simp)
    simp only [List.length_nil,Nat.zero_add,Array.empty_append,List.nil_append] at hg
    exact ⟨_,_,hr,hg⟩
 ·subst hl
  by_cases hroom:xs.length+m≤cap
  ·have e1:=hS.len (P:=P) (w':=w)
   have e2:=hS.first (P:=P) (w':=w) rfl
   have hfit:off+xs.length*GT.sz α+news.length≤C.size:=by
    rw [hnl,Nat.add_assoc,← Nat.add_mul]
    have:=Nat.mul_le_mul_right (GT.sz α) hroom
    omega
   have hst:=run_storeCells_at P b (off+xs.length*GT.sz α) T news 0 C w hb (by simpa using hfit) hS.2.1
   simp only [Nat.add_zero] at hst
   refine ⟨.slice (some ⟨b,off,none⟩) (xs.length+m) cap,w.setRow b (C.toList.take (off+xs.length*GT.sz α)++news++C.toList.drop (off+xs.length*GT.sz α+news.length)).toArray,?_,?_,?_,λc=>F c∨∃ i,fps i c,?_,?_,?_⟩
   ·simp [Builtin.append_,run_underlying hT.und,sizeOf,typeInfo,hi,hsz,e1,e2,hroom,pq,hst]
   ·exact ⟨rfl,rfl,rfl,by simp⟩
   ·intro c _ hne
    exact setRow_other w b c _ (λe=>hne (by subst e;exact hF))
   ·rintro c (hc | hc)
    ·exact .inl hc
    ·exact .inr (.inl hc)
   ·rintro c (hc | ⟨i,hc⟩)
    ·simpa using hFw c hc
    ·simpa using (hf1 i c hc).2
   ·have hnew:∀ c,c≠b→hp (w.setRow b (C.toList.take (off+xs.length*GT.sz α)++news++C.toList.drop (off+xs.length*GT.sz α+news.length)).toArray) c=hp w c :=
     λc hc=>setRow_other w b c _ hc
    have hsize:(C.toList.take (off+xs.length*GT.sz α)++news++C.toList.drop (off+xs.length*GT.sz α+news.length)).toArray.size=C.size:=by
     simp;omega
    refine nG.fresh (T:=T) (C:=(C.toList.take (off+xs.length*GT.sz α)++news++C.toList.drop (off+xs.length*GT.sz α+news.length)).toArray) (cs:=seg C off (xs.length*GT.sz α)++news) (fps:=λi=>if i<xs.length then gps i else fps (i - xs.length)) ?_ ?_ hroom ⟨hcm.1,by omega⟩ ?_ ?_ ?_ ?_ ?_ ?_
    ·exact setRow_heap w b C _ T _ hb
    ·simp [hm]
    ·rw [hsize];exact hCs
    ·rw [Nat.add_mul,← hnl]
     simp only [seg]
     have hlt:(C.toList.take (off+xs.length*GT.sz α)).length=off+xs.length*GT.sz α:=by simp;omega
     rw [List.append_assoc,List.drop_append_of_le_length (by omega),List.drop_take]
     have hl2:(List.take (off+xs.length*GT.sz α - off) (List.drop off C.toList)).length=xs.length*GT.sz α:=by simp;omega
     rw [List.take_append,hl2,List.take_of_length_le (by omega)]
     simp [Nat.add_sub_cancel_left]
    ·exact .inl hF
    ·intro i c hic
     by_cases hix:i<xs.length
     ·simp only [hix,if_true] at hic
      exact ⟨.inl (g1 i c hic).1,(g1 i c hic).2⟩
     ·simp only [hix,if_false] at hic
      exact ⟨.inr ⟨_,hic⟩,λe=>(hf1 _ c hic).1 (by rw [e];exact hF)⟩
    ·intro i j c hij hic hjc
     by_cases hix:i<xs.length<;>by_cases hjx:j<xs.length<;>simp only [hix,hjx,if_true,if_false] at hic hjc
     ·exact g2 i j c hij hic hjc
     ·exact (hf1 _ c hjc).1 (g1 i c hic).1
     ·exact (hf1 _ c hic).1 (g1 j c hjc).1
     ·exact hf2 _ _ c (by omega) hic hjc
    ·have hsl : (seg C off (xs.length * GT.sz α)).length = xs.length * GT.sz α := zA (by omega)
     intro i y hy
     by_cases hix:i<xs.length
     ·rw [List.getElem?_append_left hix] at hy
      simp only [hix,if_true]
      have h1:=g3 i y hy
      have hle:=p8 (s:=GT.sz α) hix
      rw [wF hle] at h1
      rw [List.drop_append_of_le_length (by omega),List.take_append_of_le_length (by simp [hsl];omega)]
      exact GT.own_loc h1 λc hc=>hnew c (g1 i c hc).2
     ·rw [List.getElem?_append_right (by omega)] at hy
      simp only [hix,if_false]
      have h1:=hE _ y hy
      have hd:(seg C off (xs.length*GT.sz α)++news).drop (i*GT.sz α)=news.drop ((i - xs.length)*GT.sz α):=by
       have e1:i*GT.sz α=(seg C off (xs.length*GT.sz α)).length+(i - xs.length)*GT.sz α:=by
        rw [hsl,← Nat.add_mul];congr 1;omega
       rw [e1,List.drop_append,List.drop_eq_nil_of_le (by omega)]
       simp
      rw [hd]
      exact GT.own_loc h1 λc hc=>hnew c (λe=>(hf1 _ c hc).1 (by rw [e];exact hF))
  ·have hsl:(seg C off (xs.length*GT.sz α)).length=xs.length*GT.sz α:=zA (by
    have:=Nat.mul_le_mul_right (GT.sz α) hc;omega)
   obtain ⟨_,_,hx⟩:=hS
   rcases hx with ⟨_,hx⟩ | ⟨ad,c,rfl,hx⟩
   ·omega
   ·have hr := run_append_grow (P := P) w t ty e i z hT.und hi hz ⟨b, off, none⟩ xs.length cap (seg C off (xs.length * GT.sz α)) (by rw [hsz]; exact hsl) (xV hb) ad m c news (by rw [hsz]; exact hnl) hx (by omega) (by omega) (growslice_fits (by omega) (by
     have:(xs.length+m)*i.bytes≤2147483648*65536:=Nat.mul_le_mul hlen hby
     omega))
    have hg:=grown (seg C off (xs.length*GT.sz α)) cap gps (by omega) hsl (λi y hy=>by
     have h1:=g3 i y hy
     rwa [wF (p8 (show i<xs.length from (List.getElem?_eq_some_iff.1 hy).1))] at h1) (λi c hic=>(g1 i c hic).1) g2
    exact ⟨_,_,hr,hg⟩
end
end Go.Wk
namespace Go.Wk
open Go Go.RowKit
section
variable {α:Type} [GT α] {w0 w:World} {hz:kX} {L:List Ch} {sv:Value} {xs:List α}
theorem Mem.ow_rep {cs:List Value} {x:α} (hm:Mem w0 hz w L) (k:Nat) (hk:L[k]?=some (ow cs x)):GT.rep (hp w) cs x :=
 let ⟨_,h1,_⟩:=hm.get k hk
 GT.own_rep h1
theorem kT {h:kX} (hr:GT.rep h [sv] xs):∃ p cap,sv=.slice p xs.length cap∧xs.length≤140737488355328:=(nF.1 hr).len
theorem ca3 {h:kX} (hr:GT.rep h [sv] xs) {i:Nat} (hi:i<xs.length) :
  ∃ b off cap,sv=.slice (some ⟨b,off,none⟩) xs.length cap∧∃ cs,lq h b (off+i*GT.sz α) cs∧GT.rep h cs xs[i]:=(nF.1 hr).at hi
end
def Con (P:Program) (f:FuncId) (args:List Value) (w:World) (R:Value→World→Prop):Prop:=Calls P f args.toArray w (Rt R)
def evs (l:Env):List Operand→Option (List Value)
 | []=>some []
 | x::r=>match ev l x,evs l r with
  | some v,some vs=>some (v::vs)
  | _,_=>none
theorem Fr.evals {n:Nat} {l:Env} {a:Act} (hf:Fr n l a):∀ {xs:List Operand} {vs:List Value},evs l xs=some vs→xs.map a.eval=vs
 | [],vs,h=>by simp [evs] at h;simp [h]
 | x::r,vs,h=>by
  simp only [evs] at h
  cases hx:ev l x with
  | none=>simp [hx] at h
  | some v =>
   cases hr:evs l r with
   | none=>simp [hx,hr] at h
   | some us =>
    simp only [hx,hr,Option.some.injEq] at h
    subst h
    simp [hf.eval hx,hf.evals hr]
section
variable {P:Program} {a:Act} {w w0:World} {hz:kX} {L:List Ch} {o:Oper} {n:Nat} {l:Env} {v:Value} {x y c:Operand} {t e s T:TypeId}
theorem lK {f : FuncId} {as : List Operand} {vs : List Value} {tys : Array TypeId} {R : Value → World → Prop} (hf : Fr n l a) (ho : o.op = .call { callee := .value (.func f), args := as.toArray, argTypes := tys })
  (hc:∀ args w,(callFunc f args).run P w=.ok (.enter f args) w) (ha:evs l as=some vs) (h:Con P f vs w R):Ef P a w o R:=λK Q hk=>by
 have hargs:Array.map a.eval as.toArray=vs.toArray:=by rw [List.map_toArray,hf.evals ha]
 unfold Oper.wp
 have hr:(execOp a.eval o).run P w=.ok (.enter f vs.toArray) w:=by
  simp only [execOp,ho,resolve,Act.eval,hargs,Deferred.ofValue]
  simp [invoke,hc]
 rw [hr]
 exact Calls.mono h λe w' he=>by
  cases e with
  | returned u=>exact hk u w' he
  | panicked ch=>exact he.elim
  | outgrown=>exact he.elim
end
theorem az8 {P:Program} {f:FuncId} {fn:Func} {c:Code} {args:List Value} {w:World} {R:Value→World→Prop} {n:Nat} {l:Env}
  (hf:P.funcs[f]?=some fn) (hb:fn.body=some c) (hn:fn.ntmps=n) (hl:∀ t v,lk l t=some v→args[t]?=some v) (hle:Nat.ble args.length n=true)
  (h:∀ a,Fr n l a→c.wk P (bodyPost P fn (Rt R)) a w):Con P f args w R :=
 ba3 hf hb (h _ (by
  have:args.length≤n:=Nat.le_of_ble_eq_true hle
  exact Fr.start (by simp [hn];omega) (λt v ht=>by simpa using hl t v ht)))
def bl5:Env→List Value→Prop
 | [],_=>True
 | p::r,args=>args[p.1]?=some p.2∧bl5 r args
theorem bl5.get:∀ {l:Env} {args:List Value},bl5 l args→∀ t v,lk l t=some v→args[t]?=some v
 | [],_,_,_,_,h=>by simp [lk] at h
 | p::r,args,⟨h1,h2⟩,t,v,h=>by
  simp only [lk] at h
  by_cases e:Nat.beq p.1 t=true
  ·rw [e] at h
   simp only [cond_true,Option.some.injEq] at h
   rw [← Nat.eq_of_beq_eq_true e,← h];exact h1
  ·rw [Bool.not_eq_true] at e;rw [e] at h
   exact bl5.get h2 t v h
section
variable {P:Program} {fn:Func} {R:Value→World→Prop} {a:Act} {w w0:World} {hz:kX} {L:List Ch} {n:Nat} {l:Env} {v v1 v2 v3:Value} {t t1 t2 t3:Nat}
theorem Fr.getD (hf:Fr n l a) (h:lk l t=some v):a.tmps.getD t undef=v:=by
 have:=hf.get t v h
 simp [Array.getD_eq_getD_getElem?,this]
theorem bq0 (hf:Fr n l a) (hr:fn.results=#[.tmp t]) (ht:lk l t=some v) (h:R v w):bodyPost P fn (Rt R) .ret a w :=
 ⟨hf.defers,v,by rw [results_tmp hr,hf.getD ht],h⟩
theorem br4 (hf:Fr n l a) (hr:fn.results=#[]) (h:R (.tuple #[]) w):bodyPost P fn (Rt R) .normal a w :=
 ⟨hf.defers,.tuple #[],by rw [results_none hr],h⟩
theorem uh {b T ty:Nat} {cs:List Value} (hb:w.heap[b]?=some (.cells cs.toArray T (0,0))) (ht:∀ w,(isAgg ty).run P w=.ok true w) (hs:∀ w,(sizeOf ty).run P w=.ok cs.length w) :
  (loadVar ty ⟨b,0,none⟩).run P w=.ok (.agg cs.toArray) w:=by
 have:=run_loadCells_list (P:=P) w ⟨b,0,none⟩ cs (λj v hj=>by rw [pq];simp [World.cell?,hb,hj])
 simp [loadVar,ht,hs,this]
theorem bb5 {b T ty:Nat} {cs:List Value} (k:Nat) (hf:Fr n l a) (hr:fn.results=#[.cell t ty]) (hm:Mem w0 hz w L) (hk:L[k]?=some (blk b cs T)) (ht:lk l t=some (.pointer (some ⟨b,0,none⟩)))
  (hg:∀ w,(isAgg ty).run P w=.ok true w) (hs:∀ w,(sizeOf ty).run P w=.ok cs.length w) (h:R (.agg cs.toArray) w):bodyPost P fn (Rt R) .ret a w:=by
 refine ⟨hf.defers,.agg cs.toArray,?_,h⟩
 have hl:=uh (hm.blk_cells k hk).1 hg hs
 simp [results,hr,hf.get _ _ ht,asAddr,hl]
theorem bi4 (hf:Fr n l a) (hr:fn.results=#[.tmp t1,.tmp t2]) (h1:lk l t1=some v1) (h2:lk l t2=some v2) (h:R (.tuple #[v1,v2]) w):bodyPost P fn (Rt R) .ret a w :=
 ⟨hf.defers,.tuple #[v1,v2],by rw [results_tmp2 hr,hf.getD h1,hf.getD h2],h⟩
theorem af9 {b T ty:Nat} {cs:List Value} (k:Nat) (hf:Fr n l a) (hr:fn.results=#[.cell t ty,.tmp t2]) (hm:Mem w0 hz w L) (hk:L[k]?=some (blk b cs T)) (ht:lk l t=some (.pointer (some ⟨b,0,none⟩)))
  (hg:∀ w,(isAgg ty).run P w=.ok true w) (hs:∀ w,(sizeOf ty).run P w=.ok cs.length w) (h2:lk l t2=some v2) (h:R (.tuple #[.agg cs.toArray,v2]) w):bodyPost P fn (Rt R) .ret a w:=by
 refine ⟨hf.defers,.tuple #[.agg cs.toArray,v2],?_,h⟩
 have hl:=uh (hm.blk_cells k hk).1 hg hs
 simp [results,hr,hf.get _ _ ht,hf.get _ _ h2,asAddr,hl]
end
def bz9 {α:Type} [GT α] (w w':World) (cs:List Value) (x:α):Prop :=
 Below w.heap.size w w'∧∃ F,(∀ b,F b→w.heap.size≤b∧b<w'.heap.size)∧GT.own F (hp w') cs x
theorem Mem.fresh {α:Type} [GT α] {w0 w w':World} {hz:kX} {L:List Ch} {cs:List Value} {x:α} (hm:Mem w0 hz w L) (h:bz9 w w' cs x):Mem w0 hz w' (ow cs x::L) :=
 hm.more (rW.of_below h.1) h.1.block h.2
def qo {S X:Type} (body:S→Option (S ⊕ X)):Nat→S→Option X
 | 0,_=>none
 | n+1,s=>match body s with
  | none=>none
  | some (.inl s')=>qo body n s'
  | some (.inr x)=>some x
theorem wa {S X:Type} {body:S→Option (S ⊕ X)} {x:X}:∀ {n m:Nat} {s:S},n≤m→qo body n s=some x→qo body m s=some x
 | 0,_,_,_,h=>by simp [qo] at h
 | n+1,0,_,hnm,_=>by omega
 | n+1,m+1,s,hnm,h=>by
  simp only [qo] at h ⊢
  cases hb:body s with
  | none=>simp [hb] at h
  | some r =>
   cases r with
   | inl s'=>simp only [hb] at h ⊢;exact wa (by omega) h
   | inr y=>simp only [hb] at h ⊢;exact h
open Classical in
noncomputable def lH {S X:Type} (body:S→Option (S ⊕ X)) (s:S):Option X :=
 if h:∃ n x,qo body n s=some x then some h.choose_spec.choose else none
theorem rP {S X:Type} {body:S→Option (S ⊕ X)} {s:S} {x:X}:lH body s=some x↔∃ n,qo body n s=some x:=by
 unfold lH
 constructor
 ·intro h
  split at h
  ·rename_i hh
   simp only [Option.some.injEq] at h
   exact ⟨hh.choose,by rw [← h];exact hh.choose_spec.choose_spec⟩
  ·cases h
 ·rintro ⟨n,hn⟩
  have hh:∃ n x,qo body n s=some x:=⟨n,x,hn⟩
  rw [dif_pos hh]
  have h1:=hh.choose_spec.choose_spec
  have h2:=wa (Nat.le_max_left hh.choose n) h1
  have h3:=wa (Nat.le_max_right hh.choose n) hn
  rw [h2] at h3
  exact h3
theorem wt {S X:Type} (body:S→Option (S ⊕ X)) (s:S) :
  lH body s=match body s with
   | none=>none
   | some (.inl s')=>lH body s'
   | some (.inr x)=>some x:=by
 cases hb:body s with
 | none =>
  cases h:lH body s with
  | none=>rfl
  | some x =>
   obtain ⟨n,hn⟩:=rP.1 h
   cases n<;>simp [qo,hb] at hn
 | some r =>
  cases r with
  | inr x=>exact rP.2 ⟨1,by simp [qo,hb]⟩
  | inl s' =>
   simp only
   cases h:lH body s' with
   | some x =>
    obtain ⟨n,hn⟩:=rP.1 h
    exact rP.2 ⟨n+1,by simp [qo,hb,hn]⟩
   | none =>
    cases h2:lH body s with
    | none=>rfl
    | some x =>
     obtain ⟨n,hn⟩:=rP.1 h2
     cases n with
     | zero=>simp [qo] at hn
     | succ n =>
      simp only [qo,hb] at hn
      rw [rP.2 ⟨n,hn⟩] at h
      cases h
theorem bb3 {S X:Type} {P:Program} {c:Code} {Q:Exit→Act→World→Prop} {a:Act} {w:World} (body:S→Option (S ⊕ X)) (I:S→Act→World→Prop) {s:S} {x:X}
  (hx:lH body s=some x) (h0:I s a w)
  (hr:∀ s a w r,I s a w→body s=some r→(∀ y,r=.inr y→y=x)→c.wk P (Exit.then (λa' w'=>∃ s',r=.inl s'∧I s' a' w') Q) a w):(Code.loop c).wk P Q a w:=by
 obtain ⟨n,hn⟩:=rP.1 hx
 have key:∀ m s a w,qo body m s=some x→I s a w→c.wk P (Exit.then (λa' w'=>∃ m' s',m=m'+1∧qo body m' s'=some x∧I s' a' w') Q) a w:=by
  intro m s a w hm hI
  cases m with
  | zero=>simp [qo] at hm
  | succ m =>
   simp only [qo] at hm
   cases hb:body s with
   | none=>simp [hb] at hm
   | some r =>
    have:=hr s a w r hI hb (by
     rintro y rfl
     simp only [hb,Option.some.injEq] at hm
     exact hm)
    refine Code.wk_mono ?_ this
    intro e a' w' h
    cases e with
    | normal =>
     obtain ⟨s',rfl,hI'⟩:=h
     simp only [hb] at hm
     exact ⟨m,s',rfl,hm,hI'⟩
    | _=>exact h
 refine ak4 (λm a w=>∃ s,qo body m s=some x∧I s a w) ⟨s,hn,h0⟩ ?_
 rintro m a w ⟨s,hm,hI⟩
 refine Code.wk_mono (λe a' w' h=>?_) (key m s a w hm hI)
 cases e with
 | normal =>
  obtain ⟨m',s',rfl,h1,h2⟩:=h
  exact ⟨m',Nat.lt_succ_self _,s',h1,h2⟩
 | _=>exact h
end Go.Wk
namespace Go.Wk
open Go Go.RowKit
def kn {α:Type} (xs:List α) (j:Int):Option α:=if 0≤j then xs[j.toNat]? else none
def ch3 {α:Type} (xs:List α) (j:Int) (x:α):Option (List α):=if 0≤j∧j.toNat<xs.length then some (xs.set j.toNat x) else none
def lD {α:Type} (xs ys:List α):Option (List α):=if xs.length+ys.length≤2147483648 then some (xs++ys) else none
def aj7 {α:Type} (z:α) (n:Int):Option (List α):=if 0≤n∧n≤2147483648 then some (List.replicate n.toNat z) else none
theorem rB {α:Type} {xs:List α} {j:Int} {x:α}:kn xs j=some x↔0≤j∧xs[j.toNat]?=some x:=by
 unfold kn;by_cases h:0≤j<;>simp [h]
theorem kb {α:Type} {xs ys zs:List α}:lD xs ys=some zs↔xs.length+ys.length≤2147483648∧xs++ys=zs:=by
 unfold lD;by_cases h:xs.length+ys.length≤2147483648<;>simp only [h,if_true,if_false,Option.some.injEq,true_and,false_and];simp
theorem am9 {α:Type} {z:α} {n:Int} {ys:List α}:aj7 z n=some ys↔(0≤n∧n≤2147483648)∧List.replicate n.toNat z=ys:=by
 unfold aj7;by_cases h:0≤n∧n≤2147483648<;>simp only [h,if_true,if_false,Option.some.injEq,true_and,false_and];simp
section
variable {α:Type} [GT α] {sv:Value} {xs:List α} {h:kX}
theorem af4 (hr:GT.rep h [sv] xs) {i:Nat} {x:α} (hx:xs[i]?=some x) :
  ∃ b off cap,sv=.slice (some ⟨b,off,none⟩) xs.length cap∧i<xs.length∧∃ cs,lq h b (off+i*GT.sz α) cs∧GT.rep h cs x:=by
 obtain ⟨hi,rfl⟩:=List.getElem?_eq_some_iff.1 hx
 obtain ⟨b,off,cap,h1,cs,h2,h3⟩:=ca3 hr hi
 exact ⟨b,off,cap,h1,hi,cs,h2,h3⟩
theorem yz {b off len cap:Nat} (hr:GT.rep h [.slice (some ⟨b,off,none⟩) len cap] xs) {i:Nat} {x:α} (hx:xs[i]?=some x) :
  i<len∧∃ cs,lq h b (off+i*GT.sz α) cs∧GT.rep h cs x:=by
 obtain ⟨b',off',cap',h1,hi,cs,h2,h3⟩:=af4 hr hx
 simp only [Value.slice.injEq,Option.some.injEq,Addr.mk.injEq] at h1
 obtain ⟨⟨rfl,rfl,_⟩,rfl,rfl⟩:=h1
 exact ⟨hi,cs,h2,h3⟩
end
theorem ac0 {z:Array Value} {n s i:Nat} (hz:z.size=s) (hi:i<n):seg (madeCells z (n*s)) (0+i*s) s=z.toList:=by
 apply List.ext_getElem?
 intro j
 by_cases hj:j<s
 ·rw [rb hj]
  have h1:=p8 (s:=s) hi
  have h2:0+i*s+j<n*s:=by omega
  have h3:(0+i*s+j) % z.size=j:=by rw [hz,Nat.zero_add,Nat.mul_comm,Nat.mul_add_mod];exact Nat.mod_eq_of_lt hj
  have h4:j<z.size:=by omega
  simp only [madeCells,Array.getElem?_map]
  rw [Array.getElem?_eq_getElem (by simpa using h2)]
  simp only [Array.getElem_range,Option.map_some,h3]
  simp [h4]
 ·simp [seg,List.getElem?_take,hj]
  omega
section
variable {α:Type} [GT α] {P:Program} {a:Act} {w w0:World} {hz:kX} {L:List Ch} {o:Oper} {n:Nat} {l:Env} {v sv z:Value} {x y c:Operand} {t e s T:TypeId} {xs:List α}
theorem bx8 {x0:α} {kl kc:IntKind} {ln cp:Int} (hT:qw P t e (GT.sz α) z) (h0:∀ h,GT.own (λ_=>False) h z.cells.toList x0) (hf:Fr n l a) (hm:Mem w0 hz w L) (ho:o.op=.makeSlice t x y)
  (hx:ev l x=some (.int kl ln)) (hy:ev l y=some (.int kc cp)) (hl0:0≤ln) (hlc:ln≤cp) (hc:cp≤2147483648) :
  Ef P a w o (λv w'=>Mem w0 hz w' (ow [v] (List.replicate ln.toNat x0)::L)):=by
 obtain ⟨i,hi,hsz,hby,hz'⟩:=hT.info
 have hbc:(i.bytes:Int)*cp≤281474976710656:=by
  obtain ⟨m,rfl⟩:=Int.eq_ofNat_of_zero_le (show 0≤cp by omega)
  have:i.bytes*m≤65536*2147483648:=Nat.mul_le_mul hby (by omega)
  have h2:((i.bytes*m:Nat):Int)≤281474976710656:=by omega
  rwa [Int.natCast_mul] at h2
 have hr:=run_make (P:=P) w t e i z hT.und hi hz' kl kc ln cp hl0 hlc hbc (by omega)
 rw [hsz] at hr
 refine pw (w':=w.alloc (.cells (madeCells z.cells (cp.toNat*GT.sz α)) e)) (v:=.slice (some ⟨w.heap.size,0,none⟩) ln.toNat cp.toNat) (by simp [execOp,ho,hf.eval hx,hf.eval hy,hr]) ?_
 refine hm.more ⟨rfl,rfl,rfl,by simp⟩ (λb hb=>Below.heap_alloc w _ b hb) ⟨λb=>b=w.heap.size,λb hb=>by subst hb;simp,?_⟩
 refine mK.2 (nG.fresh (T:=e) (C:=madeCells z.cells (cp.toNat*GT.sz α)) (fps:=λ_ _=>False) (heap_alloc_new w _) (by simp) (by omega) ⟨by simp [maxLen];omega,by omega⟩ (by simp [size_madeCells]) rfl rfl (λ_ _ h=>h.elim) (λ_ _ _ _ h=>h.elim) ?_)
 intro j y hj
 have hjl:j<ln.toNat:=by have:=(List.getElem?_eq_some_iff.1 hj).1;simpa using this
 have hy:y=x0:=by
  rw [List.getElem?_replicate] at hj
  simp [hjl] at hj
  exact hj.symm
 subst hy
 rw [← wF (p8 hjl),show (0:Nat)+j*GT.sz α=0+j*GT.sz α from rfl,ac0 hT.zs (by omega)]
 exact h0 _
theorem kS {len:Nat} {parts:Array (Nat × Operand)} {vs:Array (Nat × Value)} {cs:List Value} (hT:qw P t e s z) (hf:Fr n l a) (hm:Mem w0 hz w L) (ho:o.op=.buildSlice t len parts)
  (hv:(parts.toList.map λp=>(ev l p.2).map λv=>(p.1,v))=vs.toList.map some) (hfill:Instr.fill (λi=>some (i*s,s)) ((Array.range (len*s)).map (z.cells[· % z.cells.size]!)) vs.toList=some cs.toArray) (hlen:Nat.ble 1 (len*s)=true) (hle:Nat.ble (len*s) 16777216=true) :
  Ef P a w o (λv w'=>∃ b,v=.slice (some ⟨b,0,none⟩) len len∧Mem w0 hz w' (blk b cs e::L)):=by
 obtain ⟨i,hi,hsz,hby,hz'⟩:=hT.info
 have h1:=Nat.le_of_ble_eq_true hlen
 have h2:=Nat.le_of_ble_eq_true hle
 have hparts:(parts.map λp=>(p.1,a.eval p.2))=vs:=by
  apply Array.ext'
  rw [Array.toList_map]
  have:∀ (ps:List (Nat × Operand)) (us:List (Nat × Value)),(ps.map λp=>(ev l p.2).map λv=>(p.1,v))=us.map some→ps.map (λp=>(p.1,a.eval p.2))=us:=by
   intro ps
   induction ps with
   | nil=>intro us h;cases us<;>simp_all
   | cons p ps ih =>
    intro us h
    cases us with
    | nil=>simp at h
    | cons u us =>
     simp only [List.map_cons,List.cons.injEq] at h
     obtain ⟨ha,hb⟩:=h
     cases hp:ev l p.2 with
     | none=>simp [hp] at ha
     | some v =>
      simp only [hp,Option.map_some,Option.some.injEq] at ha
      simp [hf.eval hp,ha,ih us hb]
  exact this _ _ hv
 refine pw (w':=w.alloc (.cells cs.toArray e)) (v:=.slice (some ⟨w.heap.size,0,none⟩) len len) ?_ ⟨_,rfl,hm.alloc cs e⟩
 have hn0:¬ len*s=0:=by omega
 have hn1:¬ 16777216<len*s:=by omega
 simp only [execOp,ho,Instr.buildSlice,Sem.run_bind,run_underlying hT.und,Result.andThen_ok,hparts]
 simp [sizeOf,typeInfo,hi,hsz,hn0,hn1,zeroValue,hz',hfill,newRow]
end
section
variable {α:Type} [Flat α] {P:Program} {a:Act} {w w0:World} {hz:kX} {L:List Ch} {o:Oper} {n:Nat} {l:Env} {v sv z:Value} {x y c:Operand} {t e s T:TypeId} {xs ys:List α}
theorem tL:∀ {xs:List α} {i:Nat} {x:α},xs[i]?=some x→((xs.flatMap Flat.enc).drop (i*GT.sz α)).take (GT.sz α)=Flat.enc x
 | [],i,x,h=>by simp at h
 | y::ys,i,x,h=>by
  have hl:(Flat.enc y).length=GT.sz α:=GT.len (h:=λ_=>none) (Flat.rep_iff.2 rfl)
  cases i with
  | zero=>simp at h;subst h;simp [hl]
  | succ i =>
   have:=tL (xs:=ys) (i:=i) (x:=x) (by simpa using h)
   rw [List.flatMap_cons,show (i+1)*GT.sz α=(Flat.enc y).length+i*GT.sz α by rw [hl,Nat.add_mul];omega,List.drop_append,List.drop_eq_nil_of_le (by omega)]
   simpa using this
theorem rm:∀ (xs:List α),(xs.flatMap Flat.enc).length=xs.length*GT.sz α
 | []=>by simp
 | y::ys=>by
  have hl:(Flat.enc y).length=GT.sz α:=GT.len (h:=λ_=>none) (Flat.rep_iff.2 rfl)
  simp [rm ys,hl,Nat.add_mul,Nat.add_comm]
theorem ba9 (xs:List α):∀ v∈xs.flatMap Flat.enc,v.oneCell'=true:=by
 intro v hv
 obtain ⟨x,_,hx⟩:=List.mem_flatMap.1 hv
 exact GT.one (h:=λ_=>none) (Flat.rep_iff.2 rfl) v hx
theorem Mem.lit {b len:Nat} {cs:List Value} (hm:Mem w0 hz w L) (k:Nat) (hk:L[k]?=some (blk b cs e)) (hcs:xs.flatMap Flat.enc=cs) (hl:xs.length=len) (hmx:Nat.ble len 16777216=true) :
  Mem w0 hz w (L.set k (ow [.slice (some ⟨b,0,none⟩) len len] xs)):=by
 have h2:=Nat.le_of_ble_eq_true hmx
 refine hm.imp k hk λF hF=>?_
 subst hcs
 refine mK.2 (nG.fresh (T:=e) (C:=(xs.flatMap Flat.enc).toArray) (fps:=λ_ _=>False) hF.2 hl (Nat.le_refl _) ⟨by simp [maxLen];omega,by omega⟩ (by simp only [List.size_toArray,Nat.zero_add];rw [rm,hl];exact Nat.le_refl _) rfl hF.1 (λ_ _ h=>h.elim) (λ_ _ _ _ h=>h.elim) ?_)
 refine zW λi y hy=>?_
 have:seg (xs.flatMap Flat.enc).toArray 0 (len*GT.sz α)=xs.flatMap Flat.enc:=by
  rw [zV,List.drop_zero,List.take_of_length_le]
  rw [rm,hl];exact Nat.le_refl _
 rw [this]
 exact tL hy
theorem ae8 {w:World} (hr:GT.rep (hp w) [v] xs):Src w (GT.sz α) xs.length v (xs.flatMap Flat.enc):=by
 refine ⟨rm xs,ba9 xs,?_⟩
 rcases nF.1 hr with ⟨rfl | ⟨p,cap,rfl⟩,rfl⟩ | ⟨b,off,len,cap,rfl,hl,hc,hm,h3⟩
 ·exact .inl ⟨rfl,rfl⟩
 ·exact .inr ⟨p,cap,rfl,λj u hu=>by simp at hu⟩
 ·subst hl
  refine .inr ⟨_,cap,rfl,?_⟩
  obtain ⟨cs,g1,_,g3,g4⟩:=qU.cells (nF.1 hr)
  have:xs.flatMap Flat.enc=cs:=by
   apply List.ext_getElem?
   intro j
   by_cases hj:j<xs.length*GT.sz α
   ·have hpos:0<GT.sz α:=by
     rcases Nat.eq_zero_or_pos (GT.sz α) with h | h
     ·simp [h] at hj
     ·exact h
    have hi:j / GT.sz α<xs.length:=(Nat.div_lt_iff_lt_mul hpos).2 hj
    have e1:=tL (List.getElem?_eq_getElem hi)
    have e2:=Flat.rep_iff.1 (g4 _ _ (List.getElem?_eq_getElem hi))
    have e3:=congrArg (λl=>l[j % GT.sz α]?) (e1.trans e2.symm)
    have hlt:=Nat.mod_lt j hpos
    simp only [List.getElem?_take_of_lt hlt,List.getElem?_drop] at e3
    rwa [show j / GT.sz α*GT.sz α+j % GT.sz α=j by rw [Nat.mul_comm];exact Nat.div_add_mod j _] at e3
   ·rw [List.getElem?_eq_none (by rw [rm];omega),List.getElem?_eq_none (by omega)]
  rw [this]
  intro j u hj
  obtain ⟨C,T,fz,e1,e2⟩:=g3 j u hj
  rw [pq]
  simp only [hp] at e1
  simp [World.cell?,e1,e2]
theorem lr (k : Nat) (hT : qw P t e (GT.sz α) z) (hf : Fr n l a) (hm : Mem w0 hz w L) (hk : L[k]? = some (ow [sv] xs)) (hys : GT.rep (hp w) [v] ys) (ho : o.op = .call { callee := .builtin .append, args := #[x, y], argTypes := #[t, t] })
  (hx:ev l x=some sv) (hy:ev l y=some v) (hlen:xs.length+ys.length≤2147483648) :
  Ef P a w o (λv' w'=>Mem w0 hz w' (L.set k (ow [v'] (xs++ys)))):=by
 obtain ⟨F,hF,hFw⟩:=hm.get k hk
 obtain ⟨v',w',hr,hs,hout,F',f1,f2,f3⟩:=wu (ty:=o.type) hT (mK.1 hF) (λb hb=>(hFw b hb).1) (ae8 hys) rfl (λ_ _=>False) (zW λi x hx=>tL hx) (λ_ _ h=>h.elim) (λ_ _ _ _ h=>h.elim) hlen
 refine pw (w':=w') (v:=v') ?_ ?_
 ·simp [execOp,ho,resolve,invoke,builtin,hf.eval hx,hf.eval hy,hr]
 ·refine hm.upd k hk hs λG hG hGw=>?_
  obtain ⟨v2,w2,hr2,hs2,hout2,F2,p1,p2,p3⟩:=wu (ty:=o.type) hT (mK.1 hG) hGw (ae8 hys) rfl (λ_ _=>False) (zW λi x hx=>tL hx) (λ_ _ h=>h.elim) (λ_ _ _ _ h=>h.elim) hlen
  rw [hr] at hr2
  simp only [Result.ok.injEq] at hr2
  obtain ⟨rfl,rfl⟩:=hr2
  refine ⟨F2,λb hb=>?_,p2,mK.2 p3,hout2⟩
  rcases p1 b hb with h | ⟨_,h⟩ | h
  ·exact .inl h
  ·exact h.elim
  ·exact .inr h
theorem qz {cs vs:List Value} {o j:Nat} (ho:o+vs.length≤cs.length):(oy cs o vs)[j]?=if o≤j∧j<o+vs.length then vs[j - o]? else cs[j]?:=by
 unfold oy
 have hl:(cs.take o).length=o:=by simp;omega
 by_cases h1:j<o
 ·rw [if_neg (by omega),List.append_assoc,List.getElem?_append_left (by omega),List.getElem?_take_of_lt h1]
 ·by_cases h2:j<o+vs.length
  ·rw [if_pos (by omega),List.append_assoc,List.getElem?_append_right (by omega),hl,List.getElem?_append_left (by omega)]
  ·rw [if_neg (by omega), List.getElem?_append_right (by simp; omega), List.getElem?_drop]
   congr 1
   simp;omega
theorem re {cs vs:List Value} {o:Nat} (ho:o+vs.length≤cs.length):(oy cs o vs).length=cs.length:=by
 simp [oy];omega
theorem Mem.setRow {b off len cap i j:Nat} {x0 x1:α} {vs:List Value} {C:Array Value} {T':TypeId} (k:Nat) (hm:Mem w0 hz w L) (hk:L[k]?=some (ow [.slice (some ⟨b,off,none⟩) len cap] xs)) (hx:xs[i]?=some x0)
  (hj:j+vs.length≤GT.sz α) (he:oy (Flat.enc x0) j vs=Flat.enc x1) (hC:w.heap[b]?=some (.cells C T' (0,0))) :
  Mem w0 hz (w.setRow b (oy C.toList (off+i*GT.sz α+j) vs).toArray) (L.set k (ow [.slice (some ⟨b,off,none⟩) len cap] (xs.set i x1))):=by
 obtain ⟨hi,hxi⟩:=List.getElem?_eq_some_iff.1 hx
 refine hm.upd k hk ⟨rfl,rfl,rfl,by simp⟩ λF hF hFw=>?_
 have ho:=mK.1 hF
 obtain ⟨C2,T2,G,q1,q2,q3,q4,q5,q6⟩:=ho.at hi
 have:hp w b=some (.cells C T' (0,0)):=hC
 rw [this] at q1
 simp only [Option.some.injEq,Obj.cells.injEq] at q1
 obtain ⟨rfl,rfl,_⟩:=q1
 have hl0:(Flat.enc x0).length=GT.sz α:=GT.len (h:=λ_=>none) (Flat.rep_iff.2 rfl)
 have hle:off+i*GT.sz α+j+vs.length≤C.toList.length:=by simp;omega
 have hb':=setRow_heap w b C (oy C.toList (off+i*GT.sz α+j) vs).toArray T' (0,0) hC
 refine ⟨F,λ_ h=>.inl h,λc hc=>by simpa using hFw c hc,?_,λc _ hne=>setRow_other w b c _ (λe=>hne (by subst e;exact q2))⟩
 have hput := nG.put (h' := hp (w.setRow b (oy C.toList (off + i * GT.sz α + j) vs).toArray)) (G := fun _ => False) (x' := x1) ho hi hC hb' (by simp [re hle]) (by
  intro q hq
  simp only [List.getElem?_toArray,qz hle]
  rw [if_neg (by omega)]
  simp) (λc _ hne=>setRow_other w b c _ hne) (λ_ h=>h.elim) (Flat.own_iff.2 (by
   rw [← he]
   apply List.ext_getElem?
   intro q
   have hseg:=Flat.own_iff.1 q6
   by_cases hq:q<GT.sz α
   ·rw [rb hq, List.getElem?_toArray, qz hle, qz (by omega)]
    have e0:(Flat.enc x0)[q]?=C[off+i*GT.sz α+q]?:=by rw [← hxi,← hseg,rb hq]
    by_cases hc:j≤q∧q<j+vs.length
    ·rw [if_pos (by omega),if_pos hc];congr 1;omega
    ·rw [if_neg (by omega),if_neg hc,e0];simp
   ·rw [List.getElem?_eq_none (by simp [seg];omega),List.getElem?_eq_none (by rw [re (by omega)];omega)]))
 exact mK.2 (by
  rcases hput with hput | ⟨b1,off1,len1,cap1,C1,T1,e1,e2,e3⟩
  ·exact .inl hput
  ·obtain ⟨r1,r2,r3,r4,r5,fps,r6,r7,r8⟩:=e3
   exact .inr ⟨b1,off1,len1,cap1,C1,T1,e1,by simpa using e2,r1,r2,r3,r4,r5,fps,λi c hc=>by simpa using r6 i c hc,r7,r8⟩)
theorem az0 {b off len cap i j:Nat} {x0 x1:α} {vs:List Value} {ty:TypeId} (k:Nat) (hf:Fr n l a) (hm:Mem w0 hz w L) (hk:L[k]?=some (ow [.slice (some ⟨b,off,none⟩) len cap] xs)) (hx0:xs[i]?=some x0)
  (ho:o.op=.store ty x y) (hs:∀ w,(sizeOf ty).run P w=.ok vs.length w) (hx:ev l x=some (.pointer (some ⟨b,off+i*GT.sz α+j,none⟩))) (hy:ev l y=some v) (hv:v.cells=vs.toArray) (h1:∀ u∈vs,u.oneCell'=true)
  (hj:Nat.ble (j+vs.length) (GT.sz α)=true) (he:oy (Flat.enc x0) j vs=Flat.enc x1) :
  Ef P a w o (λ_ w'=>Mem w0 hz w' (L.set k (ow [.slice (some ⟨b,off,none⟩) len cap] (xs.set i x1)))):=by
 have hj':=Nat.le_of_ble_eq_true hj
 obtain ⟨hi,hxi⟩:=List.getElem?_eq_some_iff.1 hx0
 obtain ⟨F,hF,hFw⟩:=hm.get k hk
 obtain ⟨C,T',G,q1,q2,q3,q4,q5,q6⟩:=(mK.1 hF).at hi
 have hst:=run_storeCells_at P b (off+i*GT.sz α+j) T' vs 0 C w q1 (by simp;omega) h1
 refine yw (w':=w.setRow b (oy C.toList (off+i*GT.sz α+j) vs).toArray) ?_ (Mem.setRow k hm hk hx0 hj' he q1)
 simp [execOp,ho,hf.eval hx,hf.eval hy,Instr.storeAt,Instr.sureAddr,storeVar,hv,hs,hst,oy]
end
end Go.Wk
namespace Go.Wk
open Go Go.RowKit
section
variable {P:Program} {ops:Array Oper} {Q K':Exit→Act→World→Prop} {K next:Act→World→Prop} {a:Act} {w:World} {x y c:Code} {id i:Nat} {l:List Oper}
theorem al1 {c:Code} (K:Act→World→Prop) (h1:c.wk P (Exit.then K Q) a w) (h2:∀ a w,K a w→Q .normal a w):c.wk P Q a w :=
 Code.wk_mono (λe a w h=>by cases e<;>first | exact h2 _ _ h | exact h) h1
theorem bu7 {n:Nat} {l:Env} {b:Bool} {o:Operand} (hf:Fr n l a) (hc:ev l o=some (.bool b)) (hb:b=true) (h:x.wk P Q a w):(Code.cond o x y).wk P Q a w :=
 au0 (t:=true) (by rw [hf.eval hc,hb]) h
theorem bw7 {n:Nat} {l:Env} {b:Bool} {o:Operand} (hf:Fr n l a) (hc:ev l o=some (.bool b)) (hb:b=false) (h:y.wk P Q a w):(Code.cond o x y).wk P Q a w :=
 au0 (t:=false) (by rw [hf.eval hc,hb]) h
end
theorem bnd {α β:Type} {o:Option α} {f:α→Option β} {b:β} (h:Option.bind o f=some b):∃ a,o=some a∧f a=some b:=Option.bind_eq_some_iff.1 h
def forN {S X:Type} (body:Int→S→Option (S ⊕ X)):Nat→Int→S→Option (S ⊕ X)
 | 0,_,s=>some (.inl s)
 | k+1,i,s=>match body i s with
  | none=>none
  | some (.inl s')=>forN body k (i+1) s'
  | some (.inr x)=>some (.inr x)
theorem zB {S X:Type} {P:Program} {c:Code} {Q:Exit→Act→World→Prop} {a:Act} {w:World} (body:Int→S→Option (S ⊕ X)) (I:Int→S→Act→World→Prop) (i0 lim:Int) {s0:S} {r:S ⊕ X}
  (hx:forN body (lim - i0).toNat i0 s0=some r) (h0:I i0 s0 a w)
  (hr:∀ i s a w,I i s a w→i0≤i→i<lim→∀ q,body i s=some q→(∀ y,q=.inr y→r=.inr y)→c.wk P (Exit.then (λa' w'=>∃ s',q=.inl s'∧I (i+1) s' a' w') Q) a w)
  (he:∀ i s a w,I i s a w→i0≤i→lim≤i→r=.inl s→c.wk P (Exit.then (λ_ _=>False) Q) a w):(Code.loop c).wk P Q a w:=by
 refine ak4 (λm a w=>∃ i s,(lim - i).toNat=m∧i0≤i∧forN body m i s=some r∧I i s a w) ⟨i0,s0,rfl,Int.le_refl _,hx,h0⟩ ?_
 rintro m a w ⟨i,s,hm,hi,hf,hI⟩
 cases m with
 | zero =>
  simp only [forN,Option.some.injEq] at hf
  refine Code.wk_mono (λe a' w' h=>?_) (he i s a w hI hi (by omega) hf.symm)
  cases e with
  | normal=>exact h.elim
  | _=>exact h
 | succ m =>
  simp only [forN] at hf
  cases hb:body i s with
  | none=>simp [hb] at hf
  | some q =>
   refine Code.wk_mono (fun e a' w' h => ?_) (hr i s a w hI hi (by omega) q hb (by
    rintro y rfl
    simp only [hb,Option.some.injEq] at hf
    exact hf.symm))
   cases e with
   | normal =>
    obtain ⟨s',rfl,hI'⟩:=h
    simp only [hb] at hf
    exact ⟨m,Nat.lt_succ_self _,i+1,s',by omega,by omega,hf,hI'⟩
   | _=>exact h
def w64 (n:Int):Int:=IntKind.i64.wrap n
theorem lV {n:Int} (h1:-9223372036854775808≤n) (h2:n<9223372036854775808):w64 n=n:=by
 unfold w64;rw [IntKind.wrap_i64];omega
section
variable {P:Program} {l:Env} {w:World} {o:Oper} {x y:Operand} {t t':TypeId} {i j:Int}
theorem bo8 (ho:o.op=.binOp .add t x y t') (hx:ev l x=some (.int .i64 i)) (hy:ev l y=some (.int .i64 j)) (h1:-9223372036854775808≤i+j) (h2:i+j<9223372036854775808):Yl P l w o (.int .i64 (i+j)):=by
 have:=bi2 (P:=P) (w:=w) ho hx hy
 rwa [show IntKind.i64.wrap (i+j)=i+j from lV h1 h2] at this
theorem bl1 (ho:o.op=.binOp .sub t x y t') (hx:ev l x=some (.int .i64 i)) (hy:ev l y=some (.int .i64 j)) (h1:-9223372036854775808≤i - j) (h2:i - j<9223372036854775808):Yl P l w o (.int .i64 (i - j)):=by
 have:=ar2 (P:=P) (w:=w) ho hx hy
 rwa [show IntKind.i64.wrap (i - j)=i - j from lV h1 h2] at this
theorem bv0 (ho:o.op=.binOp .add t x y t') (hx:ev l x=some (.int .i64 i)) (hy:ev l y=some (.int .i64 j)):Yl P l w o (.int .i64 (w64 (i+j))):=bi2 ho hx hy
theorem bx4 (ho:o.op=.binOp .sub t x y t') (hx:ev l x=some (.int .i64 i)) (hy:ev l y=some (.int .i64 j)):Yl P l w o (.int .i64 (w64 (i - j))):=ar2 ho hx hy
theorem bw5 (ho:o.op=.binOp .mul t x y t') (hx:ev l x=some (.int .i64 i)) (hy:ev l y=some (.int .i64 j)):Yl P l w o (.int .i64 (w64 (i*j))):=bs6 ho hx hy
end
section
variable {α:Type} [GT α] {w0 w:World} {hz h:kX} {L:List Ch} {sv:Value} {xs:List α}
theorem pU:GT.rep h [.slice none 0 0] ([]:List α):=nF.2 (.inl ⟨.inl rfl,rfl⟩)
theorem bn1 (hr:GT.rep h [sv] xs):xs.length≤140737488355328:=let ⟨_,_,_,h⟩:=kT hr;h
theorem ki (hr:GT.rep h [sv] xs):sv.oneCell'=true:=GT.one hr _ (List.mem_singleton.2 rfl)
theorem Mem.nilow (hm:Mem w0 hz w L):Mem w0 hz w (ow [.slice none 0 0] ([]:List α)::L) :=
 hm.more (rW.refl w) (λ_ _=>rfl) ⟨λ_=>False,λ_ h=>h.elim,mK.2 (.inl ⟨rfl,rfl⟩)⟩
theorem Mem.blk_at {b:Nat} {cs:List Value} {T:TypeId} (hm:Mem w0 hz w L) (k:Nat) (hk:L[k]?=some (blk b cs T)):lq (hp w) b 0 cs :=
 ⟨cs.toArray,T,(0,0),(hm.blk_cells k hk).1,λj v hj=>by simpa using hj⟩
theorem ke:∀ v∈([]:List Value),v.oneCell'=true:=λ_ h=>by cases h
theorem kL {v:Value} {vs:List Value} (h:v.oneCell'=true) (hs:∀ u∈vs,u.oneCell'=true):∀ u∈v::vs,u.oneCell'=true:=λu hu=>by
 rcases List.mem_cons.1 hu with rfl | hu
 ·exact h
 ·exact hs u hu
end
section
variable {P:Program} {l:Env} {w:World} {o:Oper} {x:Operand} {a:Addr}
theorem kj (ho:o.op=.nilCheck x) (hx:ev l x=some (.pointer (some a))):Yl P l w o (.pointer (some a)):=λn a' hf=>by
 simp [execOp,ho,hf.eval hx]
theorem ao0 {fn:Fn} {captured:Array Operand} {cs:List Value} (ho:o.op=.makeFunc fn #[] captured) (hc:evs l captured.toList=some cs):Yl P l w o (.func fn #[] cs.toArray):=λn a' hf=>by
 have:=hf.evals hc
 have e:captured.map a'.eval=cs.toArray:=by
  apply Array.ext'
  rw [Array.toList_map,this]
 simp [execOp,ho,Instr.makeFunc,e]
end
end Go.Wk
namespace Go.Wk
open Go Go.RowKit
section
variable {P:Program} {ops:Array Oper} {Q:Exit→Act→World→Prop} {md:Region.Mode} {S:World→Prop} {ns:List Nat}
def bu0 (P:Program) (md:Region.Mode) (ops:Array Oper) (Q:Exit→Act→World→Prop) (S:World→Prop) (ns:List Nat):Nat→Array Bool→Act→World→Prop
 | 0,listed,a,w=>Region.ready md ops listed=[]∧Q .normal a w
 | fuel+1,listed,a,w =>
  (Region.ready md ops listed=[]→Q .normal a w) ∧
  ∀ i∈Region.ready md ops listed,wpOp P ops Q i (λa' w'=>(ns.contains i=true→S w')∧bu0 P md ops Q S ns fuel (listed.setIfInBounds i true) a' w') a w
def yp (md:Region.Mode) (ops:Array Oper):Nat→Nat→Nat→Bool
 | 0,_,_=>false
 | n+1,j,i=>match ops[j]? with
  | some oj=>oj.after.any (λe=>Region.binds md e&&(e.on == i||yp md ops n e.on i))
  | none=>false
def zm (md:Region.Mode) (ops:Array Oper) (listed:Array Bool):Prop :=
 ∀ k,listed.getD k false=true→∀ ok,ops[k]?=some ok→∀ e∈ok.after,Region.binds md e=true→listed.getD e.on false=true
theorem wV {listed:Array Bool} (hc:zm md ops listed):∀ (n j i:Nat),(∀ oj,ops[j]?=some oj→∀ e∈oj.after,Region.binds md e=true→listed.getD e.on false=true)→yp md ops n j i=true→listed.getD i false=true
 | 0,_,_,_,h=>by simp [yp] at h
 | n+1,j,i,hj,h=>by
  unfold yp at h
  cases hoj:ops[j]? with
  | none=>simp [hoj] at h
  | some oj =>
   simp only [hoj] at h
   obtain ⟨e,he,hb⟩:=Array.any_eq_true'.1 h
   simp only [Bool.and_eq_true,Bool.or_eq_true,beq_iff_eq] at hb
   have hl:=hj oj hoj e he hb.1
   rcases hb.2 with h' | h'
   ·rw [← h'];exact hl
   ·exact wV hc n e.on i (λok hok=>hc e.on hl ok hok) h'
theorem xE {listed:Array Bool} {j k:Nat} (h:listed.getD k false=true):(listed.setIfInBounds j true).getD k false=true:=by
 simp only [Array.getD_eq_getD_getElem?,Array.getElem?_setIfInBounds] at h ⊢
 by_cases e:j=k
 ·subst e
  by_cases hl:j<listed.size<;>simp_all
 ·simpa [e] using h
theorem aj9 {listed:Array Bool} {j k:Nat} (h:(listed.setIfInBounds j true).getD k false=true):k=j∨listed.getD k false=true:=by
 by_cases e:j=k
 ·exact .inl e.symm
 ·right
  simp only [Array.getD_eq_getD_getElem?,Array.getElem?_setIfInBounds] at h ⊢
  simpa [e] using h
theorem tz {listed:Array Bool} {j:Nat} (hc:zm md ops listed) (hj:j∈Region.ready md ops listed):zm md ops (listed.setIfInBounds j true):=by
 intro k hk ok hok e he hb
 rcases aj9 hk with rfl | h
 ·obtain ⟨_,oj,hoj,hall⟩:=mem_ready.1 hj
  rw [hok] at hoj
  simp only [Option.some.injEq] at hoj
  subst hoj
  exact xE (hall e he hb)
 ·exact xE (hc k h ok hok e he hb)
def bg7 (md:Region.Mode) (ops:Array Oper) (ns:List Nat):List (Bool × Nat)→Array Bool→Bool
 | [],listed=>(Region.ready md ops listed).isEmpty
 | (true, i) :: r, listed => Region.free md ops listed i && (Region.ready md ops listed).contains i &&
   ((List.range ops.size).all λj=>j == i||ns.contains j||yp md ops ops.size j i||yp md ops ops.size i j)&&bg7 md ops ns r (listed.setIfInBounds i true)
 | (false,i)::r,listed=>(Region.ready md ops listed == [i])&&bg7 md ops ns r (listed.setIfInBounds i true)
def wpS (P:Program) (ops:Array Oper) (S:World→Prop) (ns:List Nat) (Q:Exit→Act→World→Prop):List (Bool × Nat)→Act→World→Prop
 | [],a,w=>Q .normal a w
 | (true,i)::r,a,w=>∃ o v,ops[i]?=some o∧YieldsIf P ops S o v a∧S w∧wpS P ops S ns Q r (a.put o.dst v) w
 | (false,i)::r,a,w=>wpOp P ops Q i (λa' w'=>(ns.contains i=true→S w')∧wpS P ops S ns Q r a' w') a w
def cd2 (ops:Array Oper) (ns:List Nat) (σ:List (Bool × Nat)):Bool :=
 Region.noSelect ops&&(σ.length == ops.size)&&bg7 .any ops ns σ (Array.replicate ops.size false)
variable {a:Act} {w:World} {o:Oper} {n:Nat} {l:Env} {d i:Nat} {v:Value} {R:Value→World→Prop} {r:List (Bool × Nat)}
theorem aq7 {K:Act→World→Prop} (ho:ops[i]?=some o) (hw:Region.wanted o (yielded ops a.tmps)=true) (h:o.wp P a w K Q):wpOp P ops Q i K a w:=by
 unfold wpOp
 rw [ho]
 simp only [hw,if_true]
 exact .inl h
end
section
variable {α:Type} [Flat α] {h:kX} {xs:List α}
theorem lj {b off len cap i:Nat} {x:α} {cs:List Value} (hr:GT.rep h [.slice (some ⟨b,off,none⟩) len cap] xs) (hx:xs[i]?=some x) (hcs:Flat.enc x=cs):lq h b (off+i*GT.sz α) cs:=by
 obtain ⟨_,cs',h1,h2⟩:=yz hr hx
 rw [← hcs,← Flat.rep_iff.1 h2]
 exact h1
theorem nb {sv:Value} (hr:GT.rep h [sv] xs) {i:Nat} {x:α} (hx:xs[i]?=some x):∃ b off cap,sv=.slice (some ⟨b,off,none⟩) xs.length cap:=by
 obtain ⟨b,off,cap,h1,_⟩:=af4 hr hx
 exact ⟨b,off,cap,h1⟩
end
theorem lU {α:Type} [GT α] {h:kX} {xs:List α} {sv:Value} (hr:GT.rep h [sv] xs) {i:Nat} {x:α} (hx:xs[i]?=some x):∃ b off cap,sv=.slice (some ⟨b,off,none⟩) xs.length cap:=by
 obtain ⟨b,off,cap,h1,_⟩:=af4 hr hx
 exact ⟨b,off,cap,h1⟩
theorem bp4 {α:Type} {xs:List α} {i n:Nat} {x:α} (hx:xs[i]?=some x) (hl:xs.length=n):i<n:=by
 rw [← hl];exact (List.getElem?_eq_some_iff.1 hx).1
theorem ab5 {α:Type} [GT α] {h:kX} {xs:List α} {p:Option Addr} {m c:Nat} (hr:GT.rep h [.slice p m c] xs):xs.length=m:=by
 obtain ⟨p',c',h1,_⟩:=kT hr
 simp only [Value.slice.injEq] at h1
 exact h1.2.1.symm
theorem lO {α:Type} {xs:List α} {i:Nat} {x:α} (hx:xs[i]?=some x):i<xs.length:=(List.getElem?_eq_some_iff.1 hx).1
def yR (P:Program) (fv:Value) (args:List Value) (w:World) (R:Value→World→Prop):Prop :=
 ∃ k cs,fv=.func (.func k) #[] (List.toArray cs)∧(∀ as w,(callFunc k as).run P w=.ok (.enter k as) w)∧Con P k (args++cs) w R
section
variable {P:Program} {ops:Array Oper} {Q:Exit→Act→World→Prop} {S:World→Prop} {ns:List Nat} {a:Act} {w w0:World} {hz:kX} {L:List Ch} {o:Oper} {n:Nat} {l:Env} {d i:Nat} {v:Value} {x y:Operand} {R:Value→World→Prop} {r:List (Bool × Nat)} {t e:TypeId}
theorem tn {fv : Value} {as : List Operand} {vs : List Value} {tys : Array TypeId} (hf : Fr n l a) (ho : o.op = .call { callee := .value x, args := as.toArray, argTypes := tys })
  (hx:ev l x=some fv) (ha:evs l as=some vs) (h:yR P fv vs w R):Ef P a w o R:=λK Q hk=>by
 obtain ⟨k,cs,rfl,hc,hcon⟩:=h
 have hargs:Array.map a.eval as.toArray=vs.toArray:=by rw [List.map_toArray,hf.evals ha]
 unfold Oper.wp
 have hr:(execOp a.eval o).run P w=.ok (.enter k (vs++cs).toArray) w:=by
  simp only [execOp,ho,resolve,hf.eval hx,hargs,Deferred.ofValue]
  simp [invoke,hc]
 rw [hr]
 exact Calls.mono hcon λe w' he=>by
  cases e with
  | returned u=>exact hk u w' he
  | panicked ch=>exact he.elim
  | outgrown=>exact he.elim
theorem Mem.old_cell {b i T:Nat} {cs:List Value} {fz:Nat × Nat} (hm:Mem w0 (hp w0) w L) (hb:w0.heap[b]?=some (.cells cs.toArray T fz)) (hi:cs[i]?=some v):w.cell? ⟨b,i,none⟩=some v:=by
 have:=hm.below.block b (Array.getElem?_eq_some_iff.1 hb).1
 rw [hb] at this
 simp [World.cell?,this,hi]
theorem Mem.blk_later {b T:Nat} {cs:List Value} {w':World} (hm:Mem w0 hz w L) (k:Nat) (hk:L[k]?=some (blk b cs T)) (hB:Below w.heap.size w w'):w'.heap[b]?=some (.cells cs.toArray T (0,0)):=by
 have h:=(hm.blk_cells k hk).1
 rw [hB.block b (Array.getElem?_eq_some_iff.1 h).1,h]
theorem be7 {w w':World} (hB:Below w.heap.size w w'):kX.le (hp w) (hp w'):=λb o h=>by
 have:=hB.block b (bd2 h)
 unfold hp at h ⊢
 rw [this,h]
theorem yK {α:Type} [GT α] {w w':World} {cs:List Value} {x:α} (hr:GT.rep (hp w) cs x) (hB:Below w.heap.size w w'):GT.rep (hp w') cs x:=GT.mono (be7 hB) hr
theorem nZ {α:Type} [GT α] {z:Value} (hT:qw P t e (GT.sz α) z) (hm:Mem w0 hz w L) (ho:o.op=.buildSlice t 0 #[]) :
  Ef P a w o (λv w'=>Mem w0 hz w' (ow [v] ([]:List α)::L)):=by
 obtain ⟨i,hi,hsz,hby,hz'⟩:=hT.info
 refine pw (w':=w.alloc (.cells #[] e)) (v:=.slice (some ⟨w.heap.size,0,none⟩) 0 0) ?_ ?_
 ·simp [execOp,ho,Instr.buildSlice,run_underlying hT.und,sizeOf,typeInfo,hi,Instr.fill,newRow]
  simp [Array.range_zero']
 ·refine hm.more ⟨rfl, rfl, rfl, by simp⟩ (fun b hb => Below.heap_alloc w _ b hb) ⟨fun b => b = w.heap.size, fun b hb => by subst hb; simp, ?_⟩
  exact mK.2 (nG.fresh (T:=e) (C:=#[]) (fps:=λ_ _=>False) (cs:=[]) (heap_alloc_new w _) rfl (Nat.le_refl _) ⟨by simp [maxLen],by omega⟩ (by simp) (by simp [seg]) rfl (λ_ _ h=>h.elim) (λ_ _ _ _ h=>h.elim) (λi x hx=>by simp at hx))
end
theorem zx {n:Nat} {l:Env} {a:Act} (hf:Fr n l a):∀ {ps:List (Nat × Operand)} {us:List (Nat × Value)},(ps.map λp=>(ev l p.2).map λv=>(p.1,v))=us.map some→ps.map (λp=>(p.1,a.eval p.2))=us
 | [],us,h=>by cases us<;>simp_all
 | p::ps,us,h=>by
  cases us with
  | nil=>simp at h
  | cons u us =>
   simp only [List.map_cons,List.cons.injEq] at h
   obtain ⟨ha,hb⟩:=h
   cases hp:ev l p.2 with
   | none=>simp [hp] at ha
   | some v =>
    simp only [hp,Option.map_some,Option.some.injEq] at ha
    simp [hf.eval hp,ha,zx hf hb]
theorem kr {P:Program} {l:Env} {w:World} {o:Oper} {t:TypeId} {parts:Array (Nat × Operand)} {vs:List (Nat × Value)} {cs:Array Value} (ho:o.op=.build t parts)
  (hv:(parts.toList.map λp=>(ev l p.2).map λv=>(p.1,v))=vs.map some) (hb:P.built t vs=some cs):Yl P l w o (.agg cs):=λn a hf=>by
 have hparts:(parts.map λp=>(p.1,a.eval p.2))=vs.toArray:=by
  apply Array.ext'
  rw [Array.toList_map]
  exact zx hf hv
 simp only [execOp,ho,hparts]
 simp [Go.run_build w t vs.toArray cs (by simpa using hb)]
theorem obS {α β:Type _} {a:α} {f:α→Option β}:(some a).bind f=f a:=rfl
theorem lgE {α:Type _} {l:List α} {i:Nat} {a:α}:l[i]?=some a↔∃ h:i<l.length,l[i]=a:=List.getElem?_eq_some_iff
theorem osI {α:Type _} (a b:α):(some a=some b)=(a=b):=Option.some.injEq a b
abbrev tV (s:Str):Value:=.string ⟨s.b.toArray⟩
end Go.Wk
