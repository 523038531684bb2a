/- A part of a proof: general laws of walks, no statement of the seat. -/
import Derived.Test.YtkihhabnfheieaaGreatWkY
import Derived.Maps.RangeRun
import Derived.Shelf.Sort.Plain
import Derived.Shelf.Slices.In.SortNone
import Derived.Shelf.Slices.CompactI
import Derived.Lib.RowBridge
import Derived.Scope
import Derived.WideKeyEntry
import Derived.RangeFuncRecord
import Derived.RangeFuncLeaves
import Derived.RangeFuncSeq
import Derived.TacticsIn
import Derived.Laws.AppendOwn
import Derived.Test.YtkihhabnfheieaaGreatWkI
namespace Go.Wk
open Go Go.RowKit
structure jw (β:Type) where
 es:List (Int × β)
 so:es.Pairwise (λa b=>a.1<b.1)
 deriving DecidableEq
instance {β:Type}:Inhabited (jw β):=⟨⟨[],.nil⟩⟩
namespace jw
variable {β:Type}
def get (m:jw β) (k:Int):Option β:=rn m.es k
def mk0:jw β:=⟨[],.nil⟩
def i (m:jw β) (k:Int) (v:β):jw β :=
 ⟨m.es.filter (λp=>decide (p.1<k))++(k,v)::m.es.filter (λp=>decide (k<p.1)),by
  refine List.pairwise_append.2 ⟨m.so.filter _,List.pairwise_cons.2 ⟨λp hp=>by simpa using (List.mem_filter.1 hp).2,m.so.filter _⟩,λa M b H=>?_⟩
  have K:a.1<k:=by simpa using (List.mem_filter.1 M).2
  rcases List.mem_cons.1 H with e | H
  ·subst e;exact K
  ·have N : k < b.1 := by simpa using (List.mem_filter.1 H).2
   omega⟩
def del (m:jw β) (k:Int):jw β:=⟨m.es.filter (λp=>decide (p.1≠k)),m.so.filter _⟩
def keys (m:jw β):List Int:=m.es.map (·.1)
def len (m:jw β):Int:=(m.es.length:Int)
theorem nodup (m:jw β):(m.es.map (·.1)).Nodup:=by
 refine (List.pairwise_map.2 (m.so.imp ?_));intro a b h;show a.1≠b.1;omega
end jw
section
variable {β:Type}
theorem lx {es:List (Int × β)} (H:(es.map (·.1)).Nodup) {k:Int} {v:β}:rn es k=some v↔(k,v)∈es:=by
 unfold rn;constructor
 ·intro h;cases K:ny k es 0 with
  | none=>rw [K] at h;simp at h
  | some q =>
   obtain ⟨i,u⟩:=q;rw [K] at h;simp at h;subst h;obtain ⟨_,O⟩:=pC K;exact List.mem_of_getElem? O
 ·intro h;cases K:ny k es 0 with
  | none=>exact absurd rfl (qA.1 K _ h)
  | some q =>
   obtain ⟨i,u⟩:=q;obtain ⟨_,O⟩:=pC K;have h4:=List.mem_of_getElem? O;simp only [Option.map_some,osI]
   have key:∀ (l:List (Int × β)),(l.map (·.1)).Nodup->(k,u)∈l->(k,v)∈l->u=v:=by
    intro l
    induction l with
    | nil=>intro _ h;simp at h
    | cons p l W =>
     intro H h1 h2;rw [List.map_cons,List.nodup_cons] at H;rcases List.mem_cons.1 h1 with N | N<;>rcases List.mem_cons.1 h2 with M | M
     ·rw [<- N] at M;simpa using M.symm
     ·exact absurd (List.mem_map.2 ⟨_,M,rfl⟩) (by rw [<- N] at H;exact H.1)
     ·exact absurd (List.mem_map.2 ⟨_,N,rfl⟩) (by rw [<- M] at H;exact H.1)
     ·exact W H.2 N M
   exact key es H h4 h
theorem w3 {es H:List (Int × β)} (hp:H.Perm es) (M:(es.map (·.1)).Nodup) (k:Int):rn H k=rn es k:=by
 have K:(H.map (·.1)).Nodup:=(hp.map _).nodup_iff.2 M;cases h:rn es k with
 | none =>
  cases h':rn H k with
  | none=>rfl
  | some v=>rw [lx K] at h';rw [(lx M).2 (hp.mem_iff.1 h')] at h;cases h
 | some v=>rw [lx M] at h;rw [lx K];exact hp.mem_iff.2 h
theorem bh7 {k:Int} {v:β}:∀ {es:List (Int × β)} {i:Nat} {u:β},(es.map (·.1)).Nodup->es[i]?=some (k,u)->(es.set i (k,v)).Perm ((k,v)::es.filter (λp=>decide (p.1≠k)))
 | [],i,u,_,h=>by simp at h
 | p::es,0,u,hn,h=>by
  simp at h;subst h;rw [List.map_cons,List.nodup_cons] at hn
  have:es.filter (λp=>decide (p.1≠k))=es:=List.filter_eq_self.2 λq M=>by
   have:q.1≠k:=λe=>hn.1 (List.mem_map.2 ⟨q,M,e⟩)
   simpa using this
  rw [List.filter_cons,if_neg (by simp),this];exact List.Perm.refl _
 | p::es,i+1,u,hn,h=>by
  rw [List.map_cons,List.nodup_cons] at hn;have h':es[i]?=some (k,u):=by simpa using h
  have H:p.1≠k:=λe=>hn.1 (List.mem_map.2 ⟨_,List.mem_of_getElem? h',e.symm⟩)
  have K:=bh7 (v:=v) hn.2 h';simp only [List.set_cons_succ,List.filter_cons,H,ne_eq,not_false_eq_true,decide_true,if_true];exact (K.cons p).trans (List.Perm.swap _ _ _)
theorem xv {k:Int} {v:β} {es:List (Int × β)} (K:(es.map (·.1)).Nodup):(ah0 es k v).Perm ((k,v)::es.filter (λp=>decide (p.1≠k))):=by
 unfold ah0;cases H:ny k es 0 with
 | none =>
  have h:=qA.1 H
  have:es.filter (λp=>decide (p.1≠k))=es:=List.filter_eq_self.2 λq H=>by
   have:q.1≠k:=λe=>h q H e.symm
   simpa using this
  simp only [this];exact List.perm_append_singleton _ _
 | some q =>
  obtain ⟨i,u⟩:=q;obtain ⟨_,M⟩:=pC H;exact bh7 K M
theorem al5 {k:Int}:∀ {es:List (Int × β)} {i:Nat} {u:β},(es.map (·.1)).Nodup->es[i]?=some (k,u)->es.eraseIdx i=es.filter (λp=>decide (p.1≠k))
 | [],i,u,_,h=>by simp at h
 | p::es,0,u,hn,h=>by
  simp at h;subst h;rw [List.map_cons,List.nodup_cons] at hn
  have:es.filter (λp=>decide (p.1≠k))=es:=List.filter_eq_self.2 λq K=>by
   have:q.1≠k:=λe=>hn.1 (List.mem_map.2 ⟨q,K,e⟩)
   simpa using this
  rw [List.filter_cons,if_neg (by simp),this];rfl
 | p::es,i+1,u,hn,h=>by
  rw [List.map_cons,List.nodup_cons] at hn;have h':es[i]?=some (k,u):=by simpa using h
  have H:p.1≠k:=λe=>hn.1 (List.mem_map.2 ⟨_,List.mem_of_getElem? h',e.symm⟩)
  simp only [List.eraseIdx_cons_succ,List.filter_cons,H,ne_eq,not_false_eq_true,decide_true,if_true];rw [al5 hn.2 h']
theorem av5 {α γ:Type} (f:α->γ):∀ (l:List α) (i:Nat),(l.eraseIdx i).map f=(l.map f).eraseIdx i
 | [],i=>by simp
 | x::l,0=>by simp
 | x::l,i+1=>by simp [av5 f l i]
theorem jw.ins_perm (m:jw β) (k:Int) (v:β):((k,v)::m.es.filter (λp=>decide (p.1≠k))).Perm (m.i k v).es:=by
 refine List.Perm.trans ?_ List.perm_middle.symm;refine List.Perm.cons _ ?_;have h:=List.filter_append_perm (λp:Int × β=>decide (p.1<k)) (m.es.filter (λp=>decide (p.1≠k)));refine h.symm.trans ?_;rw [List.filter_filter,List.filter_filter]
 have H:m.es.filter (λp=>decide (p.1<k)&&decide (p.1≠k))=m.es.filter (λp=>decide (p.1<k)):=List.filter_congr λp _=>by
  by_cases h:p.1<k<;>simp [h];omega
 have N:m.es.filter (λp=>!decide (p.1<k)&&decide (p.1≠k))=m.es.filter (λp=>decide (k<p.1)):=List.filter_congr λp _=>by
  rcases Int.lt_trichotomy p.1 k with h | h | h
  ·have : ¬ k < p.1 := by omega
   simp [h,this]
  ·simp [h]
  ·have M : ¬ p.1 < k := by omega
   have K:p.1≠k:=by omega
   simp [h,M,K]
 rw [H,N]
end
class MV (β:Type) where
 venc:β->Value
 inj:∀ a b,venc a=venc b->a=b
instance:MV Bool:=⟨.bool,λa b h=>by simpa using h⟩
instance:MV Int:=⟨.int .i64,λa b h=>by simpa using h⟩
def vf {β:Type} [MV β] (h:kR) (r:Nat) (m:jw β):Prop :=
 ∃ (E:Array MapEntry) (H:Nat) (es:List (Int × β)),h r=some (.map E H)/\MapKept.Stamped E H/\E.toList.map (λe=>(e.key,e.val))=es.map (λp:Int × β=>(Value.int .i64 p.1,MV.venc p.2))/\es.Perm m.es
instance {β:Type} [MV β]:GT (jw β) where
 sz:=1
 rep h cs m:=∃ v,cs=[v]/\((v=.map none/\m.es=[])\/∃ r,v=.map (some r)/\vf h r m)
 own F h cs m:=∃ v,cs=[v]/\((v=.map none/\m.es=[])\/∃ r,v=.map (some r)/\F r/\vf h r m)
 len:=by rintro h cs m ⟨v,rfl,_⟩;rfl
 mono:=by
  rintro h h' cs m hh ⟨v,rfl,hr⟩
  refine ⟨v,rfl,?_⟩
  rcases hr with hr | ⟨r,hv,E,c,es,h1,h2⟩
  ·exact .inl hr
  ·exact .inr ⟨r,hv,E,c,es,hh _ _ h1,h2⟩
 own_rep:=by
  rintro F h cs m ⟨v,rfl,hr⟩
  refine ⟨v,rfl,?_⟩
  rcases hr with hr | ⟨r,hv,_,h1⟩
  ·exact .inl hr
  ·exact .inr ⟨r,hv,h1⟩
 own_loc:=by
  rintro F h h' cs m ⟨v,rfl,hr⟩ hh
  refine ⟨v,rfl,?_⟩
  rcases hr with hr | ⟨r,hv,hF,E,c,es,h1,h2⟩
  ·exact .inl hr
  ·exact .inr ⟨r,hv,hF,E,c,es,(hh r hF).trans h1,h2⟩
 own_mono:=by
  rintro F F' h cs m hF ⟨v,rfl,hr⟩
  refine ⟨v,rfl,?_⟩
  rcases hr with hr | ⟨r,hv,h1,h2⟩
  ·exact .inl hr
  ·exact .inr ⟨r,hv,hF r h1,h2⟩
 one:=by
  rintro h cs m ⟨v,rfl,hr⟩ u hu
  simp at hu
  subst hu
  rcases hr with ⟨rfl,_⟩ | ⟨r,rfl,_⟩<;>rfl
section
variable {β:Type} [MV β] {P:Program} {a:Act} {w w0:World} {hz:kR} {L:List Ch} {o:Oper} {n:Nat} {l:Env} {x y z:Operand} {t kt vt:TypeId} {r:Nat} {m:jw β} {v:Value}
theorem tW {h:kR}:GT.rep h [v] m↔((v=.map none/\m.es=[])\/∃ r,v=.map (some r)/\vf h r m):=by
 constructor
 ·rintro ⟨u,K,H⟩;simp at K;subst K;exact H
 ·intro H;exact ⟨v,rfl,H⟩
theorem wX {F:Nat->Prop} {h:kR}:GT.own F h [v] m↔((v=.map none/\m.es=[])\/∃ r,v=.map (some r)/\F r/\vf h r m):=by
 constructor
 ·rintro ⟨u,K,H⟩;simp at K;subst K;exact H
 ·intro H;exact ⟨v,rfl,H⟩
theorem wW {F:Nat->Prop} {h:kR} (H:GT.own F h [.map (some r)] m):F r/\vf h r m:=by
 rcases wX.1 H with ⟨e,_⟩ | ⟨_,e,M,K⟩
 ·cases e
 ·cases e;exact ⟨M,K⟩
theorem keys_nodup {E:Array MapEntry} {es:List (Int × β)} (H:E.toList.map (λe=>(e.key,e.val))=es.map (λp=>(Value.int .i64 p.1,MV.venc p.2))) (hp:es.Perm m.es):(es.map (·.1)).Nodup:=(hp.map _).nodup_iff.2 m.nodup
theorem cy9 (K:Mem w0 hz w L) (M:o.op=.makeMap t none) :
  Ef P a w o (λv w'=>∃ r,v=.map (some r)/\Mem w0 hz w' (ow [.map (some r)] (jw.mk0:jw β)::L)) :=
 nR (w' := w.alloc (.map #[] 0)) (v := .map (some w.heap.size)) (by simp [execOp, M, Instr.makeMap])
  ⟨_,rfl,K.more ⟨rfl,rfl,rfl,by simp⟩ (λb H=>Below.heap_alloc w _ b H) ⟨λb=>b=w.heap.size,λb H=>by subst H;simp,wX.2 (.inr ⟨_,rfl,rfl,#[],0,[],heap_alloc_new w _,MapKept.stamped_empty 0,by simp,.nil⟩)⟩⟩
theorem aj7 {key:Int} {zv:Value} (N:P.underlying kt=some (.int .i64)) (ht:P.underlying t=some (.map kt vt)) (K:∀ w,(zeroValue vt).run P w=.ok zv w) (hr:GT.rep (hp w) [v] m) (O:o.op=.lookup t x y false)
  (hx:ev l x=some v) (W:ev l y=some (.int .i64 key)):Yl P l w o ((m.get key).elim zv MV.venc):=λn a M=>by
 rcases tW.1 hr with ⟨rfl,he⟩ | ⟨r,rfl,E,_,es,h1,_,h3,h4⟩
 ·have hc:=(o8 N).check 9999 true key w;have H:=qI (venc:=MV.venc (β:=β)) (o8 N) (E:=[]) (es:=[]) rfl key w;simp only [execOp,O,M.eval hx,M.eval W,Instr.lookup];simp [run_underlying ht,hc,H,K,jw.get,he,rn,ny]
 ·have H:=qI (o8 N) h3 key w;have hc:=(o8 N).check 9999 E.isEmpty key w;simp only [execOp,O,M.eval hx,M.eval W,Instr.lookup];simp [run_underlying ht,MapKept.run_getObj_map h1,hc,H];unfold jw.get;rw [<- w3 h4 m.nodup];unfold rn;cases ny key es 0 with
  | none=>simp [K]
  | some q=>simp
theorem cf3 {key:Int} {zv:Value} (N:P.underlying kt=some (.int .i64)) (ht:P.underlying t=some (.map kt vt)) (K:∀ w,(zeroValue vt).run P w=.ok zv w) (hr:GT.rep (hp w) [v] m) (O:o.op=.lookup t x y true)
  (hx:ev l x=some v) (W:ev l y=some (.int .i64 key)):Yl P l w o (.tuple #[(m.get key).elim zv MV.venc,.bool (m.get key).isSome]):=λn a M=>by
 rcases tW.1 hr with ⟨rfl,he⟩ | ⟨r,rfl,E,_,es,h1,_,h3,h4⟩
 ·have hc:=(o8 N).check 9999 true key w;have H:=qI (venc:=MV.venc (β:=β)) (o8 N) (E:=[]) (es:=[]) rfl key w;simp only [execOp,O,M.eval hx,M.eval W,Instr.lookup];simp [run_underlying ht,hc,H,K,jw.get,he,rn,ny]
 ·have H:=qI (o8 N) h3 key w;have hc:=(o8 N).check 9999 E.isEmpty key w;simp only [execOp,O,M.eval hx,M.eval W,Instr.lookup];simp [run_underlying ht,MapKept.run_getObj_map h1,hc,H];unfold jw.get;rw [<- w3 h4 m.nodup];unfold rn;cases ny key es 0 with
  | none=>simp [K]
  | some q=>simp
theorem cb8 (M:P.underlying t=some (.map kt vt)) (hr:GT.rep (hp w) [v] m) (K:o.op=.call { callee:=.builtin .len,args:=#[x],argTypes:=#[t] }) (N:ev l x=some v):Yl P l w o (.int .i64 m.len):=λn a H=>by
 rcases tW.1 hr with ⟨rfl,O⟩ | ⟨r,rfl,E,_,es,h1,_,h3,h4⟩
 ·simp [execOp,K,resolve,invoke,builtin,H.eval N,Builtin.len_,run_underlying M,goInt,jw.len,O]
 ·have W:E.size=m.es.length:=by
   have:=congrArg List.length h3;simp at this;rw [this,h4.length_eq]
  simp [execOp,K,resolve,invoke,builtin,H.eval N,Builtin.len_,run_underlying M,goInt,jw.len,MapKept.run_getObj_map h1,W]
theorem bh6 {key:Int} {u:β} {E:Array MapEntry} {H:Nat} {es:List (Int × β)} (hK:P.underlying kt=some (.int .i64)) (ht:P.underlying t=some (.map kt vt)) (hb:w.heap[r]?=some (.map E H)) (hs:MapKept.Stamped E H)
  (W:E.toList.map (λe=>(e.key,e.val))=es.map (λp=>(Value.int .i64 p.1,MV.venc p.2))) :
  ∃ E' K,(Instr.mapUpdate t (.map (some r)) (.int .i64 key) (MV.venc u)).run P w=.ok () { w with heap:=w.heap.setIfInBounds r (.map E' K) }/\MapKept.Stamped E' K/\E'.toList.map (λe=>(e.key,e.val))=(ah0 es key u).map (λp=>(Value.int .i64 p.1,MV.venc p.2)):=by
 have N:=qI (o8 hK) W key w;have hc:=(o8 hK).check 9999 false key w;unfold ah0;cases hq:ny key es 0 with
 | none =>
  rw [hq] at N;refine ⟨E.push { key:=.int .i64 key,val:=MV.venc u,born:=H },H+1,?_,?_,?_⟩
  ·simp [Instr.mapUpdate,run_underlying ht,MapKept.run_getObj_map hb,hc,N,MapKept.run_setObj_map _ hb]
  ·refine MapKept.stamped_push hs λe O h=>?_
   have h1:(e.key,e.val)∈es.map (λp=>(Value.int .i64 p.1,MV.venc p.2)):=by rw [<- W];exact List.mem_map.2 ⟨e,O,rfl⟩
   obtain ⟨p,hp,h2⟩:=List.mem_map.1 h1;simp only [Prod.mk.injEq] at h2;rw [h] at h2;have:p.1=key:=by simpa using h2.1
   exact qA.1 hq p hp this.symm
  ·simp [W]
 | some q =>
  obtain ⟨i,_⟩:=q;rw [hq] at N;obtain ⟨_,h3⟩:=pC hq;rw [Nat.sub_zero] at h3;have a0:E.toList.length=es.length:=by have:=congrArg List.length W;simpa using this
  have hi:=(lgE.1 h3).1
  have M:(E[i]?).map (·.key)=some (.int .i64 key):=by
   have:=congrArg (λl=>l[i]?) W;simp only [List.getElem?_map,h3,Option.map_some] at this;cases O:E[i]? with
   | none=>rw [<- Array.getElem?_toList] at O;rw [O] at this;simp at this
   | some e=>rw [<- Array.getElem?_toList] at O;rw [O] at this;simp at this;simp [this.1]
  refine ⟨E.modify i λe=>{ e with key:=.int .i64 key,val:=MV.venc u },H,?_,?_,?_⟩
  ·simp [Instr.mapUpdate,run_underlying ht,MapKept.run_getObj_map hb,hc,N,M,Instr.keyThatStays,(o8 hK).bits,MapKept.run_setObj_map _ hb]
  ·refine MapKept.stamped_modify hs i _ (λ_ _=>rfl) λe _ O=>?_
   rw [O] at M;simpa using M.symm
  ·apply List.ext_getElem?;intro j;have hj:=congrArg (λl=>l[j]?) W;simp only [List.getElem?_map] at hj;simp only [List.getElem?_map,Array.getElem?_toList,Array.getElem?_modify,List.getElem?_set];by_cases e:i=j
   ·subst e;simp only [if_true,hi];have:i<E.size:=by simpa using (by rw [<- a0] at hi;exact hi:i<E.toList.length)
    simp [this]
   ·simp only [e,if_false];rw [<- hj,Array.getElem?_toList]
theorem cx2 {key : Int} {u : β} {b : Bool} (k : Nat) (hK : P.underlying kt = some (.int .i64)) (ht : P.underlying t = some (.map kt vt)) (O : Fr n l a) (hm : Mem w0 hz w L) (hk : L[k]? = some (ow [.map (some r)] m)) (ho : o.op = if b then .insert t x y z else .mapUpdate t x y z)
  (hx:ev l x=some (.map (some r))) (hy:ev l y=some (.int .i64 key)) (hv:ev l z=some (MV.venc u)) :
  Ef P a w o (λ_ w'=>Mem w0 hz w' (L.set k (ow [.map (some r)] (m.i key u)))):=by
 obtain ⟨_,N,_⟩:=hm.get k hk;obtain ⟨_,E,_,es,h1,h2,h3,h4⟩:=wW N;obtain ⟨E',H,h5,h6,h7⟩:=bh6 (u:=u) hK ht h1 h2 h3 (key:=key);have K:=(Array.getElem?_eq_some_iff.1 h1).1;refine sd (w':={ w with heap:=w.heap.setIfInBounds r (.map E' H) }) ?_ ?_
 ·cases b<;>simp [execOp,ho,O.eval hx,O.eval hy,O.eval hv,h5]
 ·refine hm.upd k hk ⟨rfl, rfl, rfl, by simp⟩ fun F hF W => ⟨F, fun _ h => .inl h, fun c hc => by simpa using W c hc, wX.2 (.inr ⟨r, rfl, (wW hF).1, E', H, ah0 es key u, ?_, h6, h7, ?_⟩), fun c _ M => ?_⟩
  ·simp [hp,K]
  ·refine (xv (keys_nodup h3 h4)).trans (List.Perm.trans ?_ (m.ins_perm key u));exact (h4.filter _).cons _
  ·have : r ≠ c := fun e => M (by subst e; exact (wW hF).1)
   simp [Array.getElem?_setIfInBounds,this]
theorem cs7 {key:Int} (k:Nat) (hK:P.underlying kt=some (.int .i64)) (ht:P.underlying t=some (.map kt vt)) (hf:Fr n l a) (hm:Mem w0 hz w L) (hk:L[k]?=some (ow [.map (some r)] m)) {ts:Array TypeId} (a1:ts[0]?=some t)
  (ho:o.op=.call { callee:=.builtin .delete,args:=#[x,y],argTypes:=ts }) (hx:ev l x=some (.map (some r))) (hy:ev l y=some (.int .i64 key)) :
  Ef P a w o (λ_ w'=>Mem w0 hz w' (L.set k (ow [.map (some r)] (m.del key)))):=by
 obtain ⟨_,a4,_⟩:=hm.get k hk;obtain ⟨_,E,H,es,W,h2,h3,h4⟩:=wW a4;have a2:=(Array.getElem?_eq_some_iff.1 W).1;have M:=qI (o8 hK) h3 key w;have hc:=(o8 hK).check 9999 E.isEmpty key w;have hn:=keys_nodup h3 h4
 have N:∀ (O:Array MapEntry) (K:List (Int × β)),MapKept.Stamped O H->O.toList.map (λe=>(e.key,e.val))=K.map (λp=>(Value.int .i64 p.1,MV.venc p.2))->K=es.filter (λp=>decide (p.1≠key)) ->
   Mem w0 hz { w with heap:=w.heap.setIfInBounds r (.map O H) } (L.set k (ow [.map (some r)] (m.del key))):=λO K h6 h7 h8=>by
  refine hm.upd k hk ⟨rfl,rfl,rfl,by simp⟩ λF hF a5=>⟨F,λ_ h=>.inl h,λc hc=>by simpa using a5 c hc,wX.2 (.inr ⟨r,rfl,(wW hF).1,O,H,K,?_,h6,h7,?_⟩),λc _ a3=>?_⟩
  ·simp [hp,a2]
  ·rw [h8];exact h4.filter _
  ·have : r ≠ c := fun e => a3 (by subst e; exact (wW hF).1)
   simp [Array.getElem?_setIfInBounds,this]
 cases hq:ny key es 0 with
 | none =>
  rw [hq] at M;refine nR (v:=.tuple #[]) (w':={ w with heap:=w.heap.setIfInBounds r (.map E H) }) ?_ (N E es h2 h3 ?_)
  ·simp [execOp,ho,resolve,invoke,builtin,hf.eval hx,hf.eval hy,Builtin.delete_,a1,run_underlying ht,MapKept.run_getObj_map W,hc,M,MapKept.run_setObj_map _ W]
  ·exact (List.filter_eq_self.2 λq a6=>by
    have:q.1≠key:=λe=>qA.1 hq q a6 e.symm
    simpa using this).symm
 | some q =>
  obtain ⟨i,_⟩:=q;rw [hq] at M;obtain ⟨_,h5⟩:=pC hq;rw [Nat.sub_zero] at h5;have a0:E.toList.length=es.length:=by have:=congrArg List.length h3;simpa using this
  have hi:=(lgE.1 h5).1;refine nR (v:=.tuple #[]) (w':={ w with heap:=w.heap.setIfInBounds r (.map (E.eraseIdxIfInBounds i) H) }) ?_ (N _ (es.eraseIdx i) (MapKept.stamped_erase h2 i) ?_ (al5 hn h5))
  ·simp [execOp,ho,resolve,invoke,builtin,hf.eval hx,hf.eval hy,Builtin.delete_,a1,run_underlying ht,MapKept.run_getObj_map W,hc,M,MapKept.run_setObj_map _ W]
  ·have : i < E.size := by simpa using (by rw [<- a0] at hi; exact hi : i < E.toList.length)
   rw [Array.eraseIdxIfInBounds,dif_pos this];simp only [Array.toList_eraseIdx,av5,h3]
def owm (v:Value) (m:jw β):Ch where
 pr F h:=∃ r,v=.map (some r)/\F r/\vf h r m
 loc:=λF h h' ⟨r,K,H,E,c,es,N,M⟩ O=>⟨r,K,H,E,c,es,(O r H).trans N,M⟩
 mono:=λF F' h ⟨r,K,N,M⟩ H=>⟨r,K,H r N,M⟩
theorem xw {F:Nat->Prop} {h:kR} (H:(owm v m).pr F h):GT.own F h [v] m:=wX.2 (.inr H)
theorem az1 {F:Nat->Prop} {h:kR} (H:GT.own F h [.map (some r)] m):(owm (.map (some r)) m).pr F h:=⟨r,rfl,wW H⟩
theorem Mem.owm_ow (H:Mem w0 hz w L) (k:Nat) (K:L[k]?=some (owm v m)):Mem w0 hz w (L.set k (ow [v] m)):=H.imp k K λ_ h=>xw h
theorem Mem.owm_rep (H:Mem w0 hz w L) (k:Nat) (K:L[k]?=some (owm v m)):GT.rep (hp w) [v] m:=by
 obtain ⟨F,M,_⟩:=H.get k K;exact GT.own_rep (xw M)
theorem ve (H:Mem w0 hz w L) (k:Nat) (K:L[k]?=some (owm v m)):∃ r,v=.map (some r):=by
 obtain ⟨F,⟨r,h,_⟩,_⟩:=H.get k K;exact ⟨r,h⟩
theorem set_set {α:Type} (l:List α) (k:Nat) (x y:α):(l.set k x).set k y=l.set k y:=by simp
theorem am3 (M:Mem w0 hz w L) (O:o.op=.makeMap t none):Ef P a w o (λv w'=>Mem w0 hz w' (owm v (jw.mk0:jw β)::L)):=λK Q N =>
 cy9 (β:=β) M O K Q λv w' ⟨r,W,H⟩=>N v w' (by subst W;exact H.imp 0 rfl λ_ h=>az1 h)
theorem v7 {key : Int} {u : β} {b : Bool} (k : Nat) (hK : P.underlying kt = some (.int .i64)) (ht : P.underlying t = some (.map kt vt)) (hf : Fr n l a) (W : Mem w0 hz w L) (M : L[k]? = some (owm v m)) (ho : o.op = if b then .insert t x y z else .mapUpdate t x y z)
  (hx:ev l x=some v) (hy:ev l y=some (.int .i64 key)) (hv:ev l z=some (MV.venc u)):Ef P a w o (λ_ w'=>Mem w0 hz w' (L.set k (owm v (m.i key u)))):=by
 obtain ⟨r,rfl⟩:=ve W k M;have H:=(lgE.1 M).1;have N:(L.set k (ow [.map (some r)] m))[k]?=some (ow [.map (some r)] m):=List.getElem?_set_self H;intro K Q O;refine cx2 (u:=u) k hK ht hf (W.owm_ow k M) N ho hx hy hv K Q λv' w' h=>O v' w' ?_
 rw [set_set] at h;have:=h.imp (c':=owm (.map (some r)) (m.i key u)) k (List.getElem?_set_self H) λ_ h=>az1 h
 rwa [set_set] at this
theorem cc3 {key:Int} (k:Nat) (hK:P.underlying kt=some (.int .i64)) (ht:P.underlying t=some (.map kt vt)) (hf:Fr n l a) (hm:Mem w0 hz w L) (M:L[k]?=some (owm v m)) {ts:Array TypeId} (N:ts[0]?=some t)
  (ho:o.op=.call { callee:=.builtin .delete,args:=#[x,y],argTypes:=ts }) (hx:ev l x=some v) (hy:ev l y=some (.int .i64 key)):Ef P a w o (λ_ w'=>Mem w0 hz w' (L.set k (owm v (m.del key)))):=by
 obtain ⟨r,rfl⟩:=ve hm k M;have H:=(lgE.1 M).1;have O:(L.set k (ow [.map (some r)] m))[k]?=some (ow [.map (some r)] m):=List.getElem?_set_self H;intro K Q W;refine cs7 k hK ht hf (hm.owm_ow k M) O N ho hx hy K Q λv' w' h=>W v' w' ?_
 rw [set_set] at h;have:=h.imp (c':=owm (.map (some r)) (m.del key)) k (List.getElem?_set_self H) λ_ h=>az1 h
 rwa [set_set] at this
end
end Go.Wk
namespace Go.Wk
open Go Go.RowKit
section
variable {α S:Type}
def lM (body:α->S->Option S):List α->S->Option S
 | [],s=>some s
 | p::es,s=>Option.bind (body p s) (lM body es)
def bw1 (body:α->S->Option S):Prop:=∀ p q s,Option.bind (body p s) (body q)=Option.bind (body q s) (body p)
theorem af0 {body:α->S->Option S} (hc:bw1 body) {es H:List α} (hp:es.Perm H):∀ s,lM body es s=lM body H s:=by
 induction hp with
 | nil=>intro s;rfl
 | cons x _ O=>intro s;simp only [lM];congr 1;funext t;exact O t
 | swap x y l =>
  intro s;simp only [lM];have:=hc y x s;have N:∀ (o:Option S) (f:S->Option S) (g:S->Option S),Option.bind o (λt=>Option.bind (f t) g)=Option.bind (Option.bind o f) g:=λo f g=>by cases o<;>rfl
  show Option.bind (body y s) (λt=>Option.bind (body x t) (lM body l))=Option.bind (body x s) (λt=>Option.bind (body y t) (lM body l));rw [N,N,this]
 | trans _ _ K M=>intro s;exact (K s).trans (M s)
theorem vb {body:α->S->Option S}:∀ (es H:List α) (s:S),lM body (es++H) s=Option.bind (lM body es s) (lM body H)
 | [],H,s=>rfl
 | p::es,H,s=>by
  simp only [List.cons_append,lM];cases body p s with
  | none=>rfl
  | some t=>exact vb es H t
end
theorem bv7 (E:Array MapEntry) (seen:Array Nat) (b:Nat):(leftOf E (seen.push b)).toList=((leftOf E seen).toList).filter (λx=>x.born != b):=by
 unfold leftOf;simp only [Array.toList_filter,List.filter_filter];apply List.filter_congr;intro x _;rw [Bool.eq_iff_iff];simp;exact And.comm
theorem ad3 {e:MapEntry}:∀ {l:List MapEntry},(l.map (·.born)).Nodup->e∈l->l.Perm (e::l.filter (λx=>x.born != e.born))
 | [],_,h=>by simp at h
 | x::l,hn,h=>by
  rw [List.map_cons,List.nodup_cons] at hn;rcases List.mem_cons.1 h with rfl | h
  ·have:l.filter (λx=>x.born != e.born)=l:=List.filter_eq_self.2 λy K=>by
    have:y.born≠e.born:=λh'=>hn.1 (List.mem_map.2 ⟨y,K,h'⟩)
    simpa using this
   simp [this]
  ·have H:x.born≠e.born:=λh'=>hn.1 (List.mem_map.2 ⟨e,h,h'.symm⟩)
   rw [List.filter_cons,if_pos (by simpa using H)];exact ((ad3 hn.2 h).cons x).trans (List.Perm.swap _ _ _)
section
variable {β S:Type} [MV β]
noncomputable def dec (e:MapEntry) (z:Int × β):Int × β:=by
 classical exact if h:∃ p:Int × β,(e.key,e.val)=(Value.int .i64 p.1,MV.venc p.2) then h.choose else z
theorem bq1 {e:MapEntry} {z p:Int × β} (h:(e.key,e.val)=(Value.int .i64 p.1,MV.venc p.2)):dec e z=p:=by
 have H:∃ p:Int × β,(e.key,e.val)=(Value.int .i64 p.1,MV.venc p.2):=⟨p,h⟩;unfold dec;rw [dif_pos H];have K:=h.symm.trans H.choose_spec
 generalize H.choose=q at K ⊢
 simp only [Prod.mk.injEq,Value.int.injEq,true_and] at K;exact Prod.ext K.1.symm (MV.inj _ _ K.2.symm)
theorem cc1 {P:Program} {c:Code} {Q:Exit->Act->World->Prop} {a:Act} {w:World} (body:Int × β->S->Option S) (M:bw1 body) {m:jw β} {E:Array MapEntry} {a3:Nat} {es:List (Int × β)}
  (aD:MapKept.Stamped E a3) (hE:E.toList.map (λe=>(e.key,e.val))=es.map (λp=>(Value.int .i64 p.1,MV.venc p.2))) (a0:es.Perm m.es) (J:Array Nat->S->Act->World->Prop) {s0 r:S}
  (hx:lM body m.es s0=some r) (h0:J #[] s0 a w)
  (hr:∀ seen s a w,J seen s a w->(leftOf E seen).size≠0->(∀ e∈(leftOf E seen).toList,∃ p N,(e.key,e.val)=(Value.int .i64 p.1,MV.venc p.2)/\body p s=some N) ->
   c.wk P (Exit.then (λa' w'=>∃ e∈(leftOf E seen).toList,∃ p N,(e.key,e.val)=(Value.int .i64 p.1,MV.venc p.2)/\body p s=some N/\J (seen.push e.born) N a' w') Q) a w)
  (he:∀ seen a w,J seen r a w->(leftOf E seen).size=0->c.wk P (Exit.then (λ_ _=>False) Q) a w):(Code.loop c).wk P Q a w:=by
 have a2:∀ e∈E.toList,∃ p:Int × β,(e.key,e.val)=(Value.int .i64 p.1,MV.venc p.2):=λe h=>by
  have h1:(e.key,e.val)∈es.map (λp=>(Value.int .i64 p.1,MV.venc p.2)):=by rw [<- hE];exact List.mem_map.2 ⟨e,h,rfl⟩
  obtain ⟨p,_,h2⟩:=List.mem_map.1 h1;exact ⟨p,h2.symm⟩
 rcases Nat.eq_zero_or_pos E.size with hz | hz
 ·have aA:E=#[]:=Array.eq_empty_of_size_eq_zero hz;subst aA;have:es=[]:=by simpa using hE.symm
  subst this;have aE:m.es=[]:=List.nil_perm.1 a0;rw [aE] at hx;simp only [lM,osI] at hx;subst hx;refine ai4 (S:=Unit) (X:=Empty) (λ_ _=>some (.inl ())) (λ_ _ a w=>J #[] s0 a w) 0 0 (s0:=()) (r:=.inl ()) rfl h0 (λ_ _ _ _ _ h1 h2=>by omega) (λ_ _ a w hJ _ _ _=>he #[] a w hJ (by simp [leftOf]))
 ·obtain ⟨e0, aB⟩ : ∃ e, e ∈ E.toList := ⟨E[0], by simp⟩;obtain ⟨z,_⟩:=a2 e0 aB
  have K:E.toList.map (λe=>dec e z)=es:=by
   have h1:∀ (l:List MapEntry) (fs:List (Int × β)),l.map (λe=>(e.key,e.val))=fs.map (λp=>(Value.int .i64 p.1,MV.venc p.2))->l.map (λe=>dec e z)=fs:=by
    intro l
    induction l with
    | nil=>intro fs h;simpa using h.symm
    | cons e l ih =>
     intro fs h;cases fs with
     | nil=>simp at h
     | cons p fs =>
      rw [List.map_cons,List.map_cons,List.cons.injEq] at h;rw [List.map_cons,bq1 h.1,ih fs h.2]
   exact h1 _ _ hE
  have a6:∀ k (i:Int),kO (S:=Unit) (X:=Empty) (λ_ _=>some (.inl ())) k i ()=some (.inl ()):=by
   intro k
   induction k with
   | zero=>intro i;rfl
   | succ k ih=>intro i;simp only [kO];exact ih _
  have a4:∀ (seen:Array Nat) e,e∈(leftOf E seen).toList->e∈E.toList:=λseen e h=>(mem_left h).1
  have a5:∀ seen:Array Nat,((leftOf E seen).toList.map (·.born)).Nodup:=λseen=>by
   unfold leftOf;rw [Array.toList_filter];exact (List.filter_sublist.map _).nodup aD.2.1
  refine ai4 (S:=Unit) (X:=Empty) (λ_ _=>some (.inl ())) (λi _ a w=>∃ seen s,J seen s a w/\∃ dn:List (Int × β),(dn.length:Int)=i/\lM body dn s0=some s/\(dn++(leftOf E seen).toList.map (λe=>dec e z)).Perm m.es) 0 (E.size:Int) (s0:=()) (r:=.inl ()) (a6 _ _) ?_ ?_ ?_
  ·refine ⟨#[],s0,h0,[],rfl,rfl,?_⟩;have:(leftOf E #[]).toList=E.toList:=by unfold leftOf;rw [Array.toList_filter];exact List.filter_eq_self.2 λx _=>by simp
   rw [List.nil_append,this,K];exact a0
  ·rintro i _ a w ⟨seen,s,hJ,dn,h1,h2,h3⟩ aG a8 q hq _;cases hq;have H:=h3.length_eq;rw [<- a0.length_eq,<- K] at H;simp at H;have O:(leftOf E seen).size≠0:=by omega
   have a7:∀ e∈(leftOf E seen).toList,∃ p N,(e.key,e.val)=(Value.int .i64 p.1,MV.venc p.2)/\body p s=some N:=λe a1=>by
    obtain ⟨p,hp⟩:=a2 e (a4 _ _ a1);have a9:=ad3 (a5 seen) a1
    have aF:(dn++(p::((leftOf E seen).toList.filter (λx=>x.born != e.born)).map (λe=>dec e z))).Perm m.es:=by
     refine List.Perm.trans (List.Perm.append_left _ ?_) h3;have:=(a9.map (λe=>dec e z)).symm;rw [List.map_cons,bq1 hp] at this;exact this
    have W:lM body (dn++(p::((leftOf E seen).toList.filter (λx=>x.born != e.born)).map (λe=>dec e z))) s0=some r:=by rw [af0 M aF];exact hx
    rw [vb,h2,obS] at W;simp only [lM] at W;cases hb:body p s with
    | none=>rw [hb] at W;cases W
    | some N=>exact ⟨p,N,hp,hb⟩
   refine Code.wk_mono (λex a' w' h=>?_) (hr seen s a w hJ O a7);cases ex with
   | normal =>
    obtain ⟨e,a1,p,N,hp,hb,aC⟩:=h;refine ⟨(),rfl,seen.push e.born,N,aC,dn++[p],by simp;omega,by rw [vb,h2,obS];simp [lM,hb],?_⟩;rw [bv7,List.append_assoc];refine List.Perm.trans (List.Perm.append_left _ ?_) h3;have:=((ad3 (a5 seen) a1).map (λe=>dec e z)).symm;rw [List.map_cons,bq1 hp] at this;exact this
   | _=>exact h
  ·rintro i _ a w ⟨seen,s,hJ,dn,h1,h2,h3⟩ aG a8 _;have H:=h3.length_eq;rw [<- a0.length_eq,<- K] at H;simp at H;have O:(leftOf E seen).size=0:=by omega
   have hl:(leftOf E seen).toList=[]:=by simpa using Array.eq_empty_of_size_eq_zero O
   rw [hl,List.map_nil,List.append_nil] at h3
   have:s=r:=by
    rw [af0 M h3,hx] at h2;exact (Option.some.inj h2).symm
   subst this;exact he seen a w hJ O
end
section
variable {β S:Type} [MV β] {P:Program} {ops:Array Oper} {a:Act} {w w0:World} {hz:kR} {L:List Ch} {o:Oper} {n d:Nat} {l:Env} {x:Operand} {t kt vt ty:TypeId} {v:Value} {m:jw β} {b:Nat} {seen:Array Nat}
def itc (hz:kR) (v:Value) (b:Nat) (seen:Array Nat):Ch where
 pr F h:=F b/\((v=.map none/\h b=some (.mapIter none 0 seen 0))\/∃ r E H,v=.map (some r)/\hz r=some (.map E H)/\h b=some (.mapIter (some r) H seen H))
 loc F h h' hp hh:=⟨hp.1,by rw [hh b hp.1];exact hp.2⟩
 mono F F' h hp hF:=⟨hF b hp.1,hp.2⟩
theorem zY (N:Fr n l a) (M:Mem w0 hz w L) (ht:P.underlying t=some (.map kt vt)) (hr:GT.rep hz [v] m) (O:o.op=.range t x) (hx:ev l x=some v) :
  Ef P a w o (λv' w'=>∃ b,v'=.pointer (some ⟨b,0,none⟩)/\Mem w0 hz w' (itc hz v b #[]::L)):=by
 rcases tW.1 hr with ⟨rfl,_⟩ | ⟨r,rfl,E,H,es,W,_,_,_⟩
 ·refine nR (w' := w.alloc (.mapIter none 0 #[] 0)) (v := .pointer (some ⟨w.heap.size, 0, none⟩)) ?_ ⟨_, rfl, M.more ⟨rfl, rfl, rfl, by simp⟩ (fun b K => Below.heap_alloc w _ b K) ⟨fun b => b = w.heap.size, fun b K => by subst K; simp, rfl, .inl ⟨rfl, heap_alloc_new w _⟩⟩⟩;simp [execOp,O,N.eval hx,Instr.range,run_underlying ht]
 ·refine nR (w' := w.alloc (.mapIter (some r) H #[] H)) (v := .pointer (some ⟨w.heap.size, 0, none⟩)) ?_ ⟨_, rfl, M.more ⟨rfl, rfl, rfl, by simp⟩ (fun b K => Below.heap_alloc w _ b K) ⟨fun b => b = w.heap.size, fun b K => by subst K; simp, rfl, .inr ⟨r, E, H, rfl, W, heap_alloc_new w _⟩⟩⟩;have K:w.heap[r]?=some (.map E H):=M.lez _ _ W;simp [execOp,O,N.eval hx,Instr.range,run_underlying ht,MapKept.run_getObj_map K]
def ch8 (hz:kR) (v:Value) (seen:Array Nat) (body:Int × β->S->Option S) (s:S):Prop :=
 ∃ r E H,v=.map (some r)/\hz r=some (.map E H)/\MapKept.Stamped E H/\(leftOf E seen).size≠0/\∀ e∈(leftOf E seen).toList,∃ p K,(e.key,e.val)=(Value.int .i64 p.1,MV.venc p.2)/\body p s=some K
def ba4 (hz:kR) (v:Value) (seen:Array Nat):Prop :=
 v=.map none\/∃ r E H,v=.map (some r)/\hz r=some (.map E H)/\MapKept.Stamped E H/\(leftOf E seen).size=0
def Got (hz:kR) (v:Value) (seen:Array Nat) (K:Nat) (p:Int × β):Prop :=
 ∃ r E H e,v=.map (some r)/\hz r=some (.map E H)/\MapKept.Stamped E H/\e∈(leftOf E seen).toList/\K=e.born/\(e.key,e.val)=(Value.int .i64 p.1,MV.venc p.2)
def Rnd (hz:kR) (v:Value) (seen:Array Nat) (body:Int × β->S->Option S) (s:S) (J:Array Nat->S->Act->World->Prop) (a:Act) (w:World):Prop :=
 ∃ K p H,Got hz v seen K p/\body p s=some H/\J (seen.push K) H a w
theorem bo4 (K:Mem w0 hz w L) (q:Nat) (N:L[q]?=some (itc hz v b seen)):(v=.map none/\w.heap[b]?=some (.mapIter none 0 seen 0))\/∃ r E H,v=.map (some r)/\hz r=some (.map E H)/\w.heap[r]?=some (.map E H)/\w.heap[b]?=some (.mapIter (some r) H seen H):=by
 obtain ⟨F,hF,_⟩:=K.get q N;rcases hF.2 with h | ⟨r,E,H,O,M,W⟩
 ·exact .inl h
 ·exact .inr ⟨r,E,H,O,M,K.lez _ _ M,W⟩
theorem aj0 {body:Int × β->S->Option S} {s:S} (q:Nat) (hf:Fr n l a) (hm:Mem w0 hz w L) (hq:L[q]?=some (itc hz v b seen)) (a5:ch8 hz v seen body s) (ho:o.op=.next x false) (hx:ev l x=some (.pointer (some ⟨b,0,none⟩))) :
  Ef P a w o (λv' w'=>∃ bn p W,v'=.tuple #[.bool true,.int .i64 p.1,MV.venc p.2]/\body p s=some W/\Got hz v seen bn p/\Mem w0 hz w' (L.set q (itc hz v b (seen.push bn)))):=by
 obtain ⟨r,E,H,rfl,h1,h2,h3,h4⟩:=a5;rcases bo4 hm q hq with ⟨e,_⟩ | ⟨_,_,_,e,g1,g2,g3⟩
 ·cases e
 cases e;rw [h1] at g1;cases g1;rcases run_next_at (P:=P) w o.type b r H H seen E H g3 g2 h2.1 (Nat.le_refl _) with ⟨h0,_⟩ | ⟨e,he,w1,M,O⟩
 ·exact absurd h0 h3
 obtain ⟨p,W,hp,hb⟩:=h4 e he;have a3:e.key=.int .i64 p.1:=congrArg Prod.fst hp;have a4:e.val=MV.venc p.2:=congrArg Prod.snd hp;refine nR (v:=.tuple #[.bool true,e.key,e.val]) (w':=ChangeMaps.setBlock w1 b (.mapIter (some r) H (seen.push e.born) H)) (by simp [execOp,ho,hf.eval hx,O]) ⟨e.born,p,W,by rw [a3,a4],hb,⟨r,E,H,e,rfl,h1,h2,he,rfl,hp⟩,?_⟩;have a0:=(Array.getElem?_eq_some_iff.1 g3).1;have K:w1.heap=w.heap:=by rcases M with rfl | rfl<;>rfl
 have N:tT w (ChangeMaps.setBlock w1 b (.mapIter (some r) H (seen.push e.born) H)) :=
  ⟨by rcases M with h | h<;>rw [h]<;>rfl,by rcases M with h | h<;>rw [h]<;>rfl,by rcases M with h | h<;>rw [h]<;>rfl,by simp [ChangeMaps.setBlock,K]⟩
 refine hm.upd q hq N λF hF a2=>⟨F,λ_ h=>.inl h,λc hc=>by have:=a2 c hc;simpa [ChangeMaps.setBlock,K] using this,⟨hF.1,.inr ⟨r,E,H,rfl,h1,?_⟩⟩,λc _ a1=>?_⟩
 ·simp [hp,ChangeMaps.setBlock,K,a0,Go.Wk.hp]
 ·have : b ≠ c := fun e => a1 (by subst e; exact hF.1)
  simp [ChangeMaps.setBlock,K,Array.getElem?_setIfInBounds,this]
theorem ai0 (q:Nat) (hm:Mem w0 hz w L) (hq:L[q]?=some (itc hz v b seen)) (M:ba4 hz v seen) (O:o.op=.next x false) (W:ev l x=some (.pointer (some ⟨b,0,none⟩))):Yl P l w o (.tuple #[.bool false]):=λn a N=>by
 rcases bo4 hm q hq with ⟨e,K⟩ | ⟨_,_,_,e,K,g2,g3⟩
 ·have:(Instr.next (.pointer (some ⟨b,0,none⟩)) false o.type).run P w=.ok (.tuple #[.bool false]) w:=by
   simp [Instr.next,getObj,Sem.run_bind,Sem.run,K,Result.andThen]
  simp [execOp,O,N.eval W,this]
 ·subst e;rcases M with e | ⟨r,E,_,e,h1,h2,h3⟩
  ·cases e
  cases e;rw [h1] at K;cases K;rcases run_next_at (P:=P) w o.type b _ _ _ seen _ _ g3 g2 h2.1 (Nat.le_refl _) with ⟨_,H⟩ | ⟨e,he,_⟩
  ·simp [execOp,O,N.eval W,H]
  ·have:=Array.eq_empty_of_size_eq_zero h3;rw [this] at he;simp at he
theorem zl {N:Nat} {p:Int × β} (q:Nat) (hm:Mem w0 hz w L) (hq:L[q]?=some (itc hz v b (seen.push N))) (hg:Got hz v seen N p) (ho:o.op=.entry x) (hx:ev l x=some (.pointer (some ⟨b,0,none⟩))):Yl P l w o (.tuple #[.int .i64 p.1,MV.venc p.2]):=λn a hf=>by
 obtain ⟨r,E,H,e,rfl,h1,h2,h3,rfl,O⟩:=hg;rcases bo4 hm q hq with ⟨e,_⟩ | ⟨_,_,_,e',W,g2,g3⟩
 ·cases e
 cases e';rw [h1] at W;cases W;have K:e.key=.int .i64 p.1:=congrArg Prod.fst O;have M:e.val=MV.venc p.2:=congrArg Prod.snd O;have:=run_entry_at (P:=P) w b r H seen E H e g3 g2 (mem_left h3).1 h2.2.1;simp [execOp,ho,hf.eval hx,this,K,M]
variable {ρ:Type} {c:Code} {Q:Exit->Act->World->Prop} {r:ρ} {s0:S}
theorem cs5 {kk:S->Option ρ} {body:Int × β->S->Option S} (K:bw1 body) (W:GT.rep hz [v] m) (J:Array Nat->S->Act->World->Prop) (h0:∀ a,Fr n l a->J #[] s0 a w)
  (hr:∀ seen s a w,J seen s a w->ch8 hz v seen body s->c.wk P (uc (Rnd hz v seen body s J) Q) a w)
  (he:∀ seen s a w,J seen s a w->ba4 hz v seen->kk s=some r->c.wk P (uc (λ_ _=>False) Q) a w):G (Option.bind (lM body m.es s0) kk) r n l ((Code.loop c).wk P Q) w:=λhq a hf=>by
 obtain ⟨s1,hx,hk⟩:=bnd hq;rcases tW.1 W with ⟨rfl,M⟩ | ⟨rr,rfl,E,H,es,h1,h2,h3,h4⟩
 ·rw [M] at hx;simp only [lM,osI] at hx;subst hx;refine ai4 (S:=Unit) (X:=Empty) (λ_ _=>some (.inl ())) (λ_ _ a w=>J #[] s0 a w) 0 0 (s0:=()) (r:=.inl ()) rfl (h0 a hf) (λ_ _ _ _ _ h1 h2=>by omega) (λ_ _ a w N _ _ _=>Code.wk_mono uu (he #[] s0 a w N (.inl rfl) hk))
 ·refine cc1 body K h2 h3 h4 J hx (h0 a hf) (λseen s a w N a0 O=>?_) (λseen a w N a1=>Code.wk_mono uu (he seen s1 a w N (.inr ⟨rr,E,H,rfl,h1,h2,a1⟩) hk));refine Code.wk_mono (λe _ w' h=>?_) (hr seen s a w N ⟨rr,E,H,rfl,h1,h2,a0,O⟩);cases e with
  | normal =>
   obtain ⟨_,p,s',⟨_,_,_,e2,q1,q2,_,q4,rfl,q6⟩,hb,a2⟩:=h;cases q1;rw [h1] at q2;cases q2;exact ⟨e2,q4,p,s',q6,hb,a2⟩
  | _=>exact h
theorem gSw {σ τ:Type} {m':Option σ} {H:σ} {N:Option τ} {M:τ} {φ:Act->World->Prop} (h:m'=some H) (k:G m' H n l φ w):G N M n l φ w:=λ_ a K=>k h a K
theorem gZr {body:Int × β->S->Option S} {s H M:S} {K:Nat} {p:Int × β} {J:Array Nat->S->Act->World->Prop} (W:Got hz v seen K p) (O:body p s=some M) (k:∀ a,Fr n l a->J (seen.push K) H a w):G (some H) M n l (Rnd hz v seen body s J) w:=λe a N=>by
 cases e;exact ⟨K,p,H,W,O,k a N⟩
theorem cg1 {q e:Nat} {H:Array Field} {f:Field} {cs:Array Value} {u:Value} (ht:P.underlying t=some (.struct H)) (N:H[q]?=some f) (O:f.type=e) (W:∀ w,(isAgg e).run P w=.ok false w) (M:o.op=.field t x q) (hx:ev l x=some (.agg cs)) (hv:cs[f.offset]?=some u):Yl P l w o u:=λn a K=>by
 subst O;simp [execOp,M,K.eval hx,Instr.field,run_underlying ht,N,asAgg,part,W,hv]
theorem cb9 {β:Type} (m:jw β) (a b:Int) (u:β):(m.i a u).i b u=(m.i b u).i a u:=by
 have key:∀ (K H:jw β),K.es.Perm H.es->K=H:=λK H h=>by
  have:K.es=H.es:=by
   have W:=K.so;have N:=H.so;refine List.Perm.eq_of_pairwise (le:=λa b=>a.1<b.1) (λx y _ _ _ _=>by omega) W N h
  cases K;cases H;simp at this;subst this;rfl
 by_cases e:a=b
 ·subst e;rfl
 refine key _ _ ?_;have p1:=λ(m:jw β) (k:Int)=>(m.ins_perm k u).symm
 refine (p1 (m.i a u) b).trans (List.Perm.trans ?_ (p1 (m.i b u) a).symm);have O:=((p1 m a).filter (λp=>decide (p.1≠b))).cons (b,u);have q2:=((p1 m b).filter (λp=>decide (p.1≠a))).cons (a,u);refine O.trans (List.Perm.trans ?_ q2.symm);have M:decide ((a,u).1≠b)=true:=by simpa using e
 have hb:decide ((b,u).1≠a)=true:=by simpa using Ne.symm e
 rw [List.filter_cons,if_pos M,List.filter_cons,if_pos hb,List.filter_filter,List.filter_filter];have:(λp:Int × β=>decide (p.1≠b)&&decide (p.1≠a))=λp=>decide (p.1≠a)&&decide (p.1≠b):=by funext p;exact Bool.and_comm _ _
 rw [this];exact List.Perm.swap _ _ _
theorem ca2 {β γ:Type} {u:γ}:bw1 (λ(p:Int × β) (s:jw γ)=>some (s.i p.1 u)):=λp q s=>by
 show some ((s.i p.1 u).i q.1 u)=some ((s.i q.1 u).i p.1 u);rw [cb9]
end
end Go.Wk
namespace Go.Wk
open Go Go.RowKit Go.Shelf
def rY (xs:List Int):List Int:=xs.mergeSort λx y=>decide (x<=y)
theorem aw9 (xs:List Int):(rY xs).length=xs.length:=List.length_mergeSort xs
section
variable {P:Program} {ρ:Ren} {w0:World} {hz:kR} {v:Value} {xs:List Int}
theorem bn0 {xs:List Int} {j:Nat} (h:j<xs.length):xs.toArray[j]! = xs[j]:=by
 rw [getElem!_pos _ _ (by simpa using h)];simp
theorem bq8 {w:World} {L:List Ch} {b off cap n:Nat} {os:Array Obj} {ys zs:List Int} {pre:Nat} (hm:Mem w0 hz w L) (k:Nat) (hk:L[k]?=some (ow [.slice (some ⟨b,off,none⟩) xs.length cap] xs)) (aE:zs.length=xs.length) (hy:ys <+: zs) :
  Mem w0 hz (Sort.grow (Sort.putRow (Value.int .i64) (Sort.ahead w n) b off zs.toArray) os) (L.set k (ow [.slice (some ⟨b,off,none⟩) ys.length cap] ys)):=by
 obtain ⟨F,hF,_⟩:=hm.get k hk;have a8:l8 F (hp w) (.slice (some ⟨b,off,none⟩) xs.length cap) xs:=ke.1 hF;rcases a8 with ⟨e,_⟩ | ⟨_,_,_,_,C,T,e,_,hb,_,hc,aA,a1,fps,_,_,_⟩
 ·cases e
 cases e;have aD:=hy.length_le;have aC:off+cap<=C.size:=by simpa [show GT.sz Int=1 from rfl] using a1
 have a0:w.heap[b]?=some (.cells C T (0,0)):=hb;have a5:=(Array.getElem?_eq_some_iff.1 a0).1
 have K:(Sort.grow (Sort.putRow (Value.int .i64) (Sort.ahead w n) b off zs.toArray) os).heap[b]?=some (.cells (Sort.putCells (Value.int .i64) off zs.toArray C) T (0,0)):=by
  rw [Sort.heap_grow_old _ _ (by simpa [Sort.ahead] using a5)];simp [Sort.putRow,Sort.mapBlock,Sort.ahead,Array.getElem?_modify,a0,Sort.onCells]
 have O:(Sort.putCells (Value.int .i64) off zs.toArray C).size=C.size:=by simp [Sort.putCells]
 have M:∀ N,(ow [.slice (some ⟨b,off,none⟩) xs.length cap] xs).pr N (hp w)->N b:=λN H=>by
  have W:l8 N (hp w) (.slice (some ⟨b,off,none⟩) xs.length cap) xs:=ke.1 H;rcases W with ⟨e,_⟩ | ⟨b2,_,_,_,_,_,e,a2,_⟩
  ·cases e
  ·cases e;exact a2
 refine hm.upd k hk ⟨rfl,rfl,rfl,by simp [Sort.ahead]⟩ λN H _=>⟨λc=>c=b,λc hc=>by subst hc;exact .inl (M N H),λc hc=>by subst hc;simp [Sort.ahead];omega,ke.2 (.inr ⟨b,off,ys.length,cap,Sort.putCells (Value.int .i64) off zs.toArray C,T,rfl,rfl,K,rfl,by omega,⟨aA.1,by omega⟩,by rw [O];exact a1,λ_ _=>False,λ_ _ h=>h.elim,λ_ _ _ _ h=>h.elim,λi x hx=>?_⟩),λc hc a7=>?_⟩
 ·have hi:i<ys.length:=(lgE.1 hx).1
  have a6:zs[i]?=some x:=by
   obtain ⟨t,rfl⟩:=hy;rw [List.getElem?_append_left hi];exact hx
  have a9:i<zs.length:=by omega
  have a3:zs[i]=x:=(lgE.1 a6).2;refine Flat.own_iff.2 ?_;show seg _ (off+i*1) 1=[.int .i64 x]
  have aB:(Sort.putCells (Value.int .i64) off zs.toArray C)[off+i]?=some (.int .i64 x):=by
   simp only [Sort.putCells,Array.getElem?_mapIdx];have:off+i<C.size:=by omega
   rw [Array.getElem?_eq_getElem this,Option.map_some,if_pos ⟨by omega,by simp;omega⟩,show off+i - off=i by omega,bn0 a9,a3]
  have aF:(seg (Sort.putCells (Value.int .i64) off zs.toArray C) (off+i*1) 1).length=1:=xq (by rw [O];omega);apply List.ext_getElem?;intro j;cases j with
  | zero =>
   have h5:hp (Sort.grow (Sort.putRow (Value.int .i64) (Sort.ahead w n) b off zs.toArray) os) b=some (.cells (Sort.putCells (Value.int .i64) off zs.toArray C) T (0,0)):=K;obtain ⟨_,T',_,e1,e2⟩:=qF (o:=off+i*1) (n:=1) h5;have e3:=e2 0 _ (List.getElem?_eq_getElem (by omega));rw [h5] at e1;cases e1;rw [List.getElem?_eq_getElem (by omega)];rw [show off+i*1+0=off+i by omega,aB] at e3;simpa using e3.symm
  | succ j=>rw [List.getElem?_eq_none (by omega),List.getElem?_eq_none (by simp)]
 ·have a4 : b ≠ c := fun e => a7 (by subst e; exact M N H)
  rw [Sort.heap_grow_old _ _ (by simpa [Sort.ahead] using hc)];simp [Sort.putRow,Sort.mapBlock,Sort.ahead,Array.getElem?_modify,a4]
theorem aw1 {w:World} {L:List Ch} {b off cap:Nat} (hm:Mem w0 hz w L) (k:Nat) (hk:L[k]?=some (ow [.slice (some ⟨b,off,none⟩) xs.length cap] xs)):Sort.Holds (Value.int .i64) w b off xs.toArray/\b<w.heap.size/\xs.length<=cap/\xs.length<=140737488355328:=by
 obtain ⟨F,hF,_⟩:=hm.get k hk;have M:l8 F (hp w) (.slice (some ⟨b,off,none⟩) xs.length cap) xs:=ke.1 hF;rcases M with ⟨e,_⟩ | ⟨_,_,_,_,C,T,e,_,N,_,hc,O,_,fps,_,_,g3⟩
 ·cases e
 cases e;have H:w.heap[b]?=some (.cells C T (0,0)):=N;refine ⟨λj hj=>?_,(Array.getElem?_eq_some_iff.1 H).1,hc,O.2⟩;have K:j<xs.length:=by simpa using hj
 have h1:=g3 j xs[j] (List.getElem?_eq_getElem K);have h2:seg C (off+j*1) 1=[.int .i64 xs[j]]:=Flat.own_iff.1 h1;have h3:(seg C (off+j*1) 1)[0]?=some (.int .i64 xs[j]):=by rw [h2];rfl
 obtain ⟨_,T',_,W,e2⟩:=qF (o:=off+j*1) (n:=1) N;rw [N] at W;cases W;have:=e2 0 _ h3;rw [bn0 K];have h4:C[off+j]?=some (.int .i64 xs[j]):=by simpa using this
 exact ⟨by simp [World.cell?,H,h4],by simp [World.frozen?,H]⟩
theorem bj7 {w:World} {L:List Ch} (K:Mem w0 hz w L) (k:Nat) (M:L[k]?=some (ow [v] xs)):(v=.slice none 0 0/\xs=[])\/∃ b off cap,v=.slice (some ⟨b,off,none⟩) xs.length cap:=by
 obtain ⟨F,O,_⟩:=K.get k M;have H:l8 F (hp w) v xs:=ke.1 O;rcases H with h | ⟨b,off,len,cap,C,T,rfl,_,_,N,_⟩
 ·exact .inl h
 ·exact .inr ⟨b,off,cap,by rw [N]⟩
theorem sI {α:Type} {l:List α} {k:Nat} {x:α} (h:l[k]?=some x):l.set k x=l:=by
 obtain ⟨H,K⟩:=lgE.1 h;rw [<- K];exact List.set_getElem_self H
theorem bg1 {w:World} {L:List Ch} (M:Go.Proofs.Lays.n189 P ρ) (H:Mem w0 hz w L) (k:Nat) (K:L[k]?=some (ow [v] xs)):Con P (ρ.f 189) [v] w λN w'=>N=.tuple #[]/\Mem w0 hz w' (L.set k (ow [v] (rY xs))):=by
 rcases bj7 H k K with ⟨rfl,rfl⟩ | ⟨b,off,cap,rfl⟩
 ·refine Calls.mono (Go.Proofs.Any.slices_Sort_int_none M none 0 w) λe w' h=>?_
  obtain ⟨rfl,rfl⟩:=h;exact ⟨rfl,by rw [show rY []=[] by simp [rY],sI K];exact H⟩
 ·obtain ⟨W,O,_,_⟩:=aw1 H k K;refine Calls.mono (Go.Proofs.Any.slices_Sort_int M b off cap xs w W O (by omega)) λe w' h=>?_
  obtain ⟨rfl,n,os,rfl⟩:=h;refine ⟨rfl,?_⟩;have:=bq8 (n:=n) (os:=os) (ys:=rY xs) (zs:=rY xs) (pre:=0) H k K (aw9 xs) (List.prefix_refl _);rw [aw9] at this;exact this
theorem bi0 {w:World} {L:List Ch} (M:Go.Proofs.Lays2.n20 P ρ) (H:Mem w0 hz w L) (k:Nat) (K:L[k]?=some (ow [v] xs)):Con P (ρ.f 20) [v] w λN w'=>Mem w0 hz w' (L.set k (ow [N] (Lib.compact xs))):=by
 rcases bj7 H k K with ⟨rfl,rfl⟩ | ⟨b,off,cap,rfl⟩
 ·refine Calls.mono (Go.Proofs.Any.slices_Compact_int_empty M none 0 w) λe w' h=>?_
  obtain ⟨rfl,rfl⟩:=h;show Mem w0 hz w' (L.set k (ow [.slice none 0 0] (Lib.compact [])));rw [show Lib.compact ([]:List Int)=[] from rfl,sI K];exact H
 ·obtain ⟨W,_,h3,_⟩:=aw1 H k K;have O:(Lib.compact xs).length<=xs.length:=Lib.compact_length_le xs;refine Calls.mono (Go.Proofs.Any.slices_Compact_int M b off cap xs w W (by omega) h3) λe w' h=>?_
  obtain ⟨rfl,n,rfl⟩:=h;have:=bq8 (n:=n) (os:=#[]) (ys:=Lib.compact xs) (zs:=Lib.compact xs++List.replicate (xs.length - (Lib.compact xs).length) 0) (pre:=0) H k K (by simp;omega) (List.prefix_append _ _);rw [Sort.grow_empty] at this;exact this
end
end Go.Wk
namespace Go.Wk
open Go Go.RowKit
theorem bp3 {xs ys:List Int} (h:xs.Perm ys):rY xs=rY ys:=by
 have H:(rY xs).Perm (rY ys):=(List.mergeSort_perm xs _).trans (h.trans (List.mergeSort_perm ys _).symm);have tr:∀ a b c:Int,decide (a<=b)=true->decide (b<=c)=true->decide (a<=c)=true:=λa b c H _=>by simp at *;omega
 have K:∀ a b:Int,(decide (a<=b)||decide (b<=a))=true:=λa b=>by simp;omega
 exact List.Perm.eq_of_pairwise (le:=λa b=>a<=b) (λx y _ _ _ _=>by omega) ((List.pairwise_mergeSort tr K xs).imp λh=>by simpa using h) ((List.pairwise_mergeSort tr K ys).imp λh=>by simpa using h) H
theorem cd6 {xs:List Int} (h:xs.Pairwise (·<·)):rY xs=xs:=by
 have tr:∀ a b c:Int,decide (a<=b)=true->decide (b<=c)=true->decide (a<=c)=true:=λa b c _ _=>by simp at *;omega
 have H:∀ a b:Int,(decide (a<=b)||decide (b<=a))=true:=λa b=>by simp;omega
 exact List.Perm.eq_of_pairwise (le:=λa b=>a<=b) (λx y _ _ _ _=>by omega) ((List.pairwise_mergeSort tr H xs).imp λh=>by simpa using h) (h.imp λh=>by omega) (List.mergeSort_perm xs _)
theorem cf7 (xs:List Int) (k:Int):(Option.bind (k8 xs ([k]:List Int)) λys=>some ys)=if xs.length+1<=2147483648 then some (xs++[k]) else none:=by
 unfold k8;by_cases h:xs.length+1<=2147483648<;>simp [h]
theorem ae3 {β:Type}:∀ (es:List (Int × β)) (xs:List Int),xs.length<=2147483648->lM (λ(p:Int × β) (xs:List Int)=>Option.bind (k8 xs ([p.1]:List Int)) λys=>some ys) es xs=k8 xs (es.map (·.1))
 | [],xs,h=>by simp [lM,k8,h]
 | p::es,xs,h=>by
  rw [lM];rw [cf7];by_cases H:xs.length+1<=2147483648
  ·rw [if_pos H, obS, ae3 es _ (by rw [List.length_append]; exact H)];unfold k8;simp [show es.length+(xs.length+1)=xs.length+(es.length+1) by omega,show xs.length+1+es.length=xs.length+(es.length+1) by omega,Nat.add_assoc]
  ·rw [if_neg H];unfold k8;rw [if_neg (by simp;omega)];rfl
theorem bl4 {β:Type} (m:jw β):Option.bind (lM (λ(p:Int × β) (xs:List Int)=>Option.bind (k8 xs ([p.1]:List Int)) λys=>some ys) m.es []) (λxs=>some (rY xs))=k8 [] m.keys:=by
 rw [ae3 _ _ (by simp)];cases h:k8 [] (m.es.map (·.1)) with
 | none=>exact h.symm
 | some ys =>
  rw [obS];refine Eq.trans ?_ h.symm;obtain ⟨_,rfl⟩:=kP.1 h;exact congrArg some (cd6 (List.pairwise_map.2 m.so))
section
variable {β ρ:Type} [MV β] {P:Program} {w0:World} {hz:kR} {n:Nat} {l:Env} {w:World} {v:Value} {m:jw β} {c:Code} {Q:Exit->Act->World->Prop} {r:ρ}
theorem cy6 {kk:List Int->Option ρ} {K:List Int} (a4:∀ xs ys,xs.Perm ys->kk xs=kk ys) (a1:GT.rep hz [v] m) (J:Array Nat->List Int->Act->World->Prop) (h0:∀ a,Fr n l a->J #[] K a w)
  (hr:∀ seen s a w,J seen s a w->ch8 hz v seen (λ(p:Int × β) (xs:List Int)=>Option.bind (k8 xs ([p.1]:List Int)) λys=>some ys) s->c.wk P (uc (Rnd hz v seen (λ(p:Int × β) (xs:List Int)=>Option.bind (k8 xs ([p.1]:List Int)) λys=>some ys) s J) Q) a w)
  (he:∀ seen s a w,J seen s a w->ba4 hz v seen->kk s=some r->c.wk P (uc (λ_ _=>False) Q) a w) :
  G (Option.bind (lM (λ(p:Int × β) (xs:List Int)=>Option.bind (k8 xs ([p.1]:List Int)) λys=>some ys) m.es K) kk) r n l ((Code.loop c).wk P Q) w:=by
 intro hq a hf
 classical
 obtain ⟨ys,a5,hq⟩:=bnd hq
 have N:bw1 (λ(p:Int × β) (s:Nat × (Int->Nat))=>if s.1+1<=2147483648 then some ((s.1+1,λk=>s.2 k+if k=p.1 then 1 else 0):Nat × (Int->Nat)) else none):=λp q s=>by
  by_cases h:s.1+1<=2147483648
  ·simp only [h,if_true,obS]
   congr 1
   congr 1
   congr 1
   funext k;omega
  ·simp only [h,if_false];rfl
 have a0:∀ (xs:List Int) (p:Int × β),(λk=>xs.count k+if k=p.1 then 1 else 0)=λk=>(xs++[p.1]).count k:=λxs p=>by
  funext k;rw [List.count_append,List.count_singleton];by_cases e:k=p.1
  ·subst e;simp
  ·rw [if_neg e,if_neg (by simpa using λh=>e h.symm)]
 have W:∀ (es:List (Int × β)) (xs ys:List Int),lM (λ(p:Int × β) (xs:List Int)=>Option.bind (k8 xs ([p.1]:List Int)) λys=>some ys) es xs=some ys->lM (λ(p:Int × β) (s:Nat × (Int->Nat))=>if s.1+1<=2147483648 then some ((s.1+1,λk=>s.2 k+if k=p.1 then 1 else 0):Nat × (Int->Nat)) else none) es (xs.length,λk=>xs.count k)=some (ys.length,λk=>ys.count k):=by
  intro es
  induction es with
  | nil=>intro xs ys h;simp only [lM,osI] at h;subst h;rfl
  | cons p es ih =>
   intro xs ys h;rw [lM] at h;rw [cf7] at h;by_cases H:xs.length+1<=2147483648
   ·rw [if_pos H,obS] at h;have:=ih _ _ h;simp only [lM,H,if_true,obS,a0];simpa using this
   ·rw [if_neg H] at h;cases h
 refine cs5 (r:=r) (m:=m) (s0:=(K.length,λk=>K.count k)) (kk:=λs=>if s=(ys.length,λk=>ys.count k) then some r else none) N a1 (λseen s a w=>∃ xs:List Int,s=(xs.length,λk=>xs.count k)/\J seen xs a w) (λa hf=>⟨K,rfl,h0 a hf⟩) ?_ ?_ ?_ a hf
 ·rintro seen _ a w ⟨xs,rfl,hJ⟩ ⟨r1,E,O,e1,e2,e3,e4,e5⟩
  have a6:∀ (p:Int × β) (s':Nat × (Int->Nat)),(if xs.length+1<=2147483648 then some ((xs.length+1,λk=>xs.count k+if k=p.1 then 1 else 0):Nat × (Int->Nat)) else none)=some s'->xs.length+1<=2147483648:=λp s' h=>by
   by_cases H:xs.length+1<=2147483648
   ·exact H
   ·rw [if_neg H] at h;cases h
  refine Code.wk_mono (λex _ w' h=>?_) (hr seen xs a w hJ ⟨r1,E,O,e1,e2,e3,e4,λe he=>?_⟩)
  ·cases ex with
   | normal =>
    obtain ⟨bn,p,s',hg,M,a3⟩:=h
    have H:xs.length+1<=2147483648:=by
     dsimp only at M;rw [cf7] at M;by_cases H:xs.length+1<=2147483648
     ·exact H
     ·rw [if_neg H] at M;cases M
    dsimp only at M;rw [cf7,if_pos H] at M;cases M;exact ⟨bn,p,(xs.length+1,λk=>xs.count k+if k=p.1 then 1 else 0),hg,if_pos H,xs++[p.1],by rw [a0];simp,a3⟩
   | _=>exact h
  ·obtain ⟨p,s',h1,H⟩:=e5 e he;exact ⟨p,_,h1,(cf7 xs p.1).trans (if_pos (a6 p s' H))⟩
 ·rintro seen _ a w ⟨xs,rfl,hJ⟩ a2 hk;refine he seen xs a w hJ a2 ?_;by_cases e:(xs.length,λk=>xs.count k)=(ys.length,λk=>ys.count k)
  ·rw [if_pos e] at hk;rw [<- hk,<- hq];refine a4 _ _ (List.perm_iff_count.2 λk=>?_);exact congrFun (congrArg Prod.snd e) k
  ·rw [if_neg e] at hk;cases hk
 ·rw [W m.es K ys a5,obS,if_pos rfl]
end
section
variable {β:Type} [MV β] {w0:World} {hz:kR} {w:World} {L:List Ch} {v:Value} {m:jw β}
theorem xp (H:Mem w0 hz w L) (k:Nat) (K:L[k]?=some (owm v m)):v.cells=[v].toArray:=by
 obtain ⟨r,rfl⟩:=ve H k K;rfl
end
section
variable {P:Program} {l:Env} {w:World} {o:Oper} {x y:Operand} {t kt vt:TypeId} {v:Value} {key:Int}
theorem br6 {m:jw Bool} (O:P.underlying kt=some (.int .i64)) (W:P.underlying t=some (.map kt vt)) (H:∀ w,(zeroValue vt).run P w=.ok (.bool false) w) (N:GT.rep (hp w) [v] m) (K:o.op=.lookup t x y false)
  (hx:ev l x=some v) (M:ev l y=some (.int .i64 key)):Yl P l w o (.bool ((m.get key).getD false)):=by
 have h:=aj7 (zv:=.bool false) O W H N K hx M;cases e:m.get key<;>rw [e] at h<;>exact h
theorem wZ {m:jw Int} (O:P.underlying kt=some (.int .i64)) (W:P.underlying t=some (.map kt vt)) (H:∀ w,(zeroValue vt).run P w=.ok (.int .i64 0) w) (N:GT.rep (hp w) [v] m) (K:o.op=.lookup t x y false)
  (hx:ev l x=some v) (M:ev l y=some (.int .i64 key)):Yl P l w o (.int .i64 ((m.get key).getD 0)):=by
 have h:=aj7 (zv:=.int .i64 0) O W H N K hx M;cases e:m.get key<;>rw [e] at h<;>exact h
theorem cj0 {m:jw Int} (O:P.underlying kt=some (.int .i64)) (W:P.underlying t=some (.map kt vt)) (H:∀ w,(zeroValue vt).run P w=.ok (.int .i64 0) w) (N:GT.rep (hp w) [v] m) (K:o.op=.lookup t x y true)
  (hx:ev l x=some v) (M:ev l y=some (.int .i64 key)):Yl P l w o (.tuple #[.int .i64 ((m.get key).getD 0),.bool (m.get key).isSome]):=by
 have h:=cf3 (zv:=.int .i64 0) O W H N K hx M;cases e:m.get key<;>rw [e] at h<;>exact h
end
end Go.Wk
namespace Go.Wk
open Go Go.RowKit
theorem cn2 {β:Type} [MV β] {w0 w:World} {hz:kR} {L:List Ch} {v:Value} {m:jw β} (H:Mem w0 hz w L) (k:Nat) (K:L[k]?=some (owm v m)):v.oneCell'=true:=by
 obtain ⟨r,rfl⟩:=ve H k K;rfl
end Go.Wk
namespace Go.Wk
open Go Go.RowKit
section
variable {α:Type} [GT α] {h:kR} {v:Value} {xs:List α} {lo hi:Nat} {F:Nat->Prop}
end
section
variable {α:Type} [GT α] {P:Program} {l:Env} {h:kR} {o:Oper} {x yl yh ym:Operand} {t e:TypeId} {v:Value} {xs:List α} {lo hi:Int} {kl kh km:IntKind}
end
end Go.Wk
namespace Go.Wk
open Go Go.RowKit
theorem zI {α S:Type} {f g:α->S->Option S}:∀ {es:List α} {s:S},(∀ p∈es,∀ s,f p s=g p s)->lM f es s=lM g es s
 | [],_,_=>rfl
 | p::es,s,h=>by
  simp only [lM];rw [h p (by simp)];cases g p s with
  | none=>rfl
  | some t=>exact zI (λq H=>h q (by simp [H]))
section
variable {β S:Type}
open Classical in
noncomputable def onM (es:List (Int × β)) (body:Int × β->S->Option S):Int × β->S->Option S:=λp=>if p∈es then body p else λ_=>none
theorem ae0 {es:List (Int × β)} {body:Int × β->S->Option S} {p:Int × β} (h:p∈es):onM es body p=body p:=by unfold onM;rw [if_pos h]
theorem bb4 {es:List (Int × β)} {body:Int × β->S->Option S} {p:Int × β} (h:p ∉ es):onM es body p=λ_=>none:=by unfold onM;rw [if_neg h]
end
section
variable {β S ρ:Type} [MV β] {P:Program} {w0:World} {hz:kR} {n:Nat} {l:Env} {w:World} {v:Value} {m:jw β} {c:Code} {Q:Exit->Act->World->Prop} {r:ρ}
theorem co2 {seen:Array Nat} {bn:Nat} {p:Int × β} (H:GT.rep hz [v] m) (hg:Got hz v seen bn p):p∈m.es:=by
 obtain ⟨_,E,_,e,K,W,_,e4,_,e6⟩:=hg;rcases tW.1 H with ⟨N,_⟩ | ⟨_,N,_,_,es,h1,_,h3,h4⟩
 ·rw [N] at K;cases K
 ·rw [N] at K;cases K;rw [h1] at W;cases W;have hm:(e.key,e.val)∈es.map (λp=>(Value.int .i64 p.1,MV.venc p.2)):=by rw [<- h3];exact List.mem_map.2 ⟨e,(mem_left e4).1,rfl⟩
  obtain ⟨q,hq,O⟩:=List.mem_map.1 hm;have M:=O.trans e6;simp only [Prod.mk.injEq,Value.int.injEq,true_and] at M;have:q=p:=Prod.ext M.1 (MV.inj _ _ M.2);subst this;exact h4.mem_iff.1 hq
theorem ci4 {kk:S->Option ρ} {s0:S} {body:Int × β->S->Option S} (K:∀ p∈m.es,∀ q∈m.es,∀ s,Option.bind (body p s) (body q)=Option.bind (body q s) (body p)) (H:GT.rep hz [v] m) (J:Array Nat->S->Act->World->Prop) (h0:∀ a,Fr n l a->J #[] s0 a w)
  (hr:∀ seen s a w,J seen s a w->ch8 hz v seen body s->c.wk P (uc (Rnd hz v seen body s J) Q) a w)
  (he:∀ seen s a w,J seen s a w->ba4 hz v seen->kk s=some r->c.wk P (uc (λ_ _=>False) Q) a w):G (Option.bind (lM body m.es s0) kk) r n l ((Code.loop c).wk P Q) w:=by
 intro hq a hf;have O:∀ (o:Option S),Option.bind o (λ_=>(none:Option S))=none:=λo=>by cases o<;>rfl
 have hc:bw1 (onM m.es body):=λp q s=>by
  by_cases hp:p∈m.es
  ·by_cases N:q∈m.es
   ·rw [ae0 hp,ae0 N];exact K p hp q N s
   ·rw [ae0 hp,bb4 N,O];rfl
  ·rw [bb4 hp,O];rfl
 rw [zI (g:=onM m.es body) (λp hp s=>by rw [ae0 hp])] at hq;refine cs5 hc H J h0 (λseen s a w hJ a1=>?_) he hq a hf
 have W:ch8 hz v seen body s:=by
  obtain ⟨r1,E,M,e1,e2,e3,e4,e5⟩:=a1;refine ⟨r1,E,M,e1,e2,e3,e4,λe he=>?_⟩;obtain ⟨p,s',q1,q2⟩:=e5 e he;by_cases hp:p∈m.es
  ·rw [ae0 hp] at q2;exact ⟨p,s',q1,q2⟩
  ·rw [bb4 hp] at q2;cases q2
 refine Code.wk_mono (λex _ w' h=>?_) (hr seen s a w hJ W);cases ex with
 | normal =>
  obtain ⟨bn,p,s',hg,hb,a0⟩:=h;exact ⟨bn,p,s',hg,by rw [ae0 (co2 H hg)];exact hb,a0⟩
 | _=>exact h
end
theorem jw.ext {β:Type} {K H:jw β} (h:K.es.Perm H.es):K=H:=by
 have:K.es=H.es:=by
  have N:=K.so;have M:=H.so;refine List.Perm.eq_of_pairwise (le:=λa b=>a.1<b.1) (λx y _ _ _ _=>by omega) N M h
 cases K;cases H;simp at this;subst this;rfl
theorem bw5 {β:Type} (m:jw β) {a b:Int} (u v:β) (e:a≠b):(m.i a u).i b v=(m.i b v).i a u:=by
 refine jw.ext ?_;have p1:=λ(m:jw β) (k:Int) (u:β)=>(m.ins_perm k u).symm
 refine (p1 (m.i a u) b v).trans (List.Perm.trans ?_ (p1 (m.i b v) a u).symm);have N:=((p1 m a u).filter (λp=>decide (p.1≠b))).cons (b,v);have K:=((p1 m b v).filter (λp=>decide (p.1≠a))).cons (a,u);refine N.trans (List.Perm.trans ?_ K.symm);have H:decide ((a,u).1≠b)=true:=by simpa using e
 have M:decide ((b,v).1≠a)=true:=by simpa using Ne.symm e
 rw [List.filter_cons,if_pos H,List.filter_cons,if_pos M,List.filter_filter,List.filter_filter];have:(λp:Int × β=>decide (p.1≠b)&&decide (p.1≠a))=λp=>decide (p.1≠a)&&decide (p.1≠b):=by funext p;exact Bool.and_comm _ _
 rw [this];exact List.Perm.swap _ _ _
def xI (l:List Int):Option _root_.Unit:=if l.Nodup then some () else none
theorem bj1 {l:List Int} {x:_root_.Unit} (h:xI l=some x):l.Nodup:=by
 unfold xI at h;by_cases e:l.Nodup
 ·exact e
 ·rw [if_neg e] at h;cases h
theorem zN {β:Type} {m:jw β} {k:Int} {x:β} (h:m.get k=some x):(k,x)∈m.es:=(lx m.nodup).1 h
theorem bx9 {m:jw Int} (K:(m.es.map (·.2)).Nodup) {a b x:Int} (O:(a,x)∈m.es) (hb:(b,x)∈m.es):a=b:=by
 have key:∀ (l:List (Int × Int)),(l.map (·.2)).Nodup->(a,x)∈l->(b,x)∈l->a=b:=by
  intro l
  induction l with
  | nil=>intro _ h;simp at h
  | cons p l N =>
   intro K h1 W;rw [List.map_cons,List.nodup_cons] at K;rcases List.mem_cons.1 h1 with M | M<;>rcases List.mem_cons.1 W with H | H
   ·rw [<- M] at H;simpa using H.symm
   ·exact absurd (List.mem_map.2 ⟨_,H,by rw [<- M]⟩) K.1
   ·exact absurd (List.mem_map.2 ⟨_,M,by rw [<- H]⟩) K.1
   ·exact N K.2 M H
 exact key m.es K O hb
theorem bx1 {β γ:Type} {now:jw Int} (hn:(now.es.map (·.2)).Nodup) {m:jw β} {body:Int × β->jw γ->Option (jw γ)} (f:β->γ)
  (M:∀ p s,body p s=if (now.get p.1).isSome=true then some (s.i ((now.get p.1).getD 0) (f p.2)) else some s):∀ p∈m.es,∀ q∈m.es,∀ s,Option.bind (body p s) (body q)=Option.bind (body q s) (body p):=λp hp q O s=>by
 by_cases e:p.1=q.1
 ·have:p=q:=by
   have K:=(lx m.nodup).2 (show (p.1,p.2)∈m.es from hp);have H:=(lx m.nodup).2 (show (q.1,q.2)∈m.es from O);rw [e,H] at K;exact Prod.ext e (Option.some.inj K).symm
  subst this;rfl
 ·rw [M,M];cases K:now.get p.1 with
  | none =>
   cases H:now.get q.1 with
   | none=>simp [M,K,H]
   | some y=>simp [M,K,H]
  | some x =>
   cases H:now.get q.1 with
   | none=>simp [M,K,H]
   | some y =>
    have N:x≠y:=λW=>e (bx9 hn (zN K) (W▸zN H))
    simp only [Option.isSome_some,if_true,obS,M,K,H,Option.getD_some];rw [bw5 _ _ _ N]
theorem ce8 {β:Type} [MV β] {h:kR} {v:Value} {m:jw β} (H:GT.rep h [v] m):v.oneCell'=true:=GT.one H _ (List.mem_singleton.2 rfl)
end Go.Wk
namespace Go.Wk
open Go Go.RowKit
section
variable {ρ:Type} {m:Option ρ} {r:ρ} {n:Nat} {l:Env} {w:World} {P:Program} {c:Code} {Q:Exit->Act->World->Prop}
end
end Go.Wk
namespace Go.Wk
open Go Go.RowKit
def bk2 (β:Type):Type:=Option (jw β)
def bk2.of {β:Type} (m:jw β):bk2 β:=some m
def bk2.nil {β:Type}:bk2 β:=none
def bk2.get {β:Type} (x:bk2 β):Option (jw β):=x
instance {β:Type}:Inhabited (bk2 β):=⟨none⟩
instance {β:Type} [MV β]:GT (bk2 β) where
 sz:=1
 rep h cs x:=∃ v,cs=[v]/\((v=.map none/\x=none)\/∃ r m,v=.map (some r)/\x=some m/\vf h r m)
 own F h cs x:=∃ v,cs=[v]/\((v=.map none/\x=none)\/∃ r m,v=.map (some r)/\x=some m/\F r/\vf h r m)
 len:=by rintro h cs m ⟨v,rfl,_⟩;rfl
 mono:=by
  rintro h h' cs m hh ⟨v,rfl,hr⟩
  refine ⟨v,rfl,?_⟩
  rcases hr with hr | ⟨r,m,hv,hx,E,c,es,h1,h2⟩
  ·exact .inl hr
  ·exact .inr ⟨r,m,hv,hx,E,c,es,hh _ _ h1,h2⟩
 own_rep:=by
  rintro F h cs m ⟨v,rfl,hr⟩
  refine ⟨v,rfl,?_⟩
  rcases hr with hr | ⟨r,m,hv,hx,_,h1⟩
  ·exact .inl hr
  ·exact .inr ⟨r,m,hv,hx,h1⟩
 own_loc:=by
  rintro F h h' cs m ⟨v,rfl,hr⟩ hh
  refine ⟨v,rfl,?_⟩
  rcases hr with hr | ⟨r,m,hv,hx,hF,E,c,es,h1,h2⟩
  ·exact .inl hr
  ·exact .inr ⟨r,m,hv,hx,hF,E,c,es,(hh r hF).trans h1,h2⟩
 own_mono:=by
  rintro F F' h cs m hF ⟨v,rfl,hr⟩
  refine ⟨v,rfl,?_⟩
  rcases hr with hr | ⟨r,m,hv,hx,h1,h2⟩
  ·exact .inl hr
  ·exact .inr ⟨r,m,hv,hx,hF r h1,h2⟩
 one:=by
  rintro h cs m ⟨v,rfl,hr⟩ u hu
  simp at hu
  subst hu
  rcases hr with ⟨rfl,_⟩ | ⟨r,m,rfl,_⟩<;>rfl
section
variable {β:Type} [MV β] {P:Program} {a:Act} {w w0:World} {hz:kR} {L:List Ch} {o:Oper} {n:Nat} {l:Env} {x y z:Operand} {t kt vt:TypeId} {r:Nat} {m:jw β} {v:Value}
def Ent (h:kR) (v:Value) (key K:Int):Prop :=
 ∃ (r:Nat) (E:Array MapEntry) (H j:Nat) (e:MapEntry),v=.map (some r)/\h r=some (.map E H)/\E.toList[j]?=some e/\(e.born:Int)=K/\e.key=.int .i64 key
theorem cg4 {key:Int} {zv:β} {E:Array MapEntry} {H:Nat} {es:List (Int × β)} (hK:P.underlying kt=some (.int .i64)) (ht:P.underlying t=some (.map kt vt)) (a2:∀ w,(zeroValue vt).run P w=.ok (MV.venc zv) w) (hb:w.heap[r]?=some (.map E H)) (hs:MapKept.Stamped E H)
  (W:E.toList.map (λe=>(e.key,e.val))=es.map (λp=>(Value.int .i64 p.1,MV.venc p.2))) :
  ∃ (E':Array MapEntry) (K j:Nat) (e:MapEntry),(Instr.mapEntry t (.map (some r)) (.int .i64 key)).run P w=.ok (.tuple #[MV.venc ((rn es key).getD zv),.int .i64 (e.born:Int)]) { w with heap:=w.heap.setIfInBounds r (.map E' K) }/\MapKept.Stamped E' K /\
   E'.toList.map (λe=>(e.key,e.val))=(ah0 es key ((rn es key).getD zv)).map (λp=>(Value.int .i64 p.1,MV.venc p.2))/\E'.toList[j]?=some e/\e.key=.int .i64 key:=by
 have N:=qI (o8 hK) W key w;have hc:=(o8 hK).check 9999 false key w;unfold ah0 rn;cases hq:ny key es 0 with
 | none =>
  rw [hq] at N;refine ⟨E.push { key:=.int .i64 key,val:=MV.venc zv,born:=H },H+1,E.size,{ key:=.int .i64 key,val:=MV.venc zv,born:=H },?_,?_,?_,by simp,rfl⟩
  ·simp [Instr.mapEntry,run_underlying ht,MapKept.run_getObj_map hb,hc,N,a2,MapKept.run_setObj_map _ hb,goInt]
  ·refine MapKept.stamped_push hs λe O h=>?_
   have h1:(e.key,e.val)∈es.map (λp=>(Value.int .i64 p.1,MV.venc p.2)):=by rw [<- W];exact List.mem_map.2 ⟨e,O,rfl⟩
   obtain ⟨p,hp,h2⟩:=List.mem_map.1 h1;simp only [Prod.mk.injEq] at h2;rw [h] at h2;have:p.1=key:=by simpa using h2.1
   exact qA.1 hq p hp this.symm
  ·simp [W]
 | some q =>
  obtain ⟨i,v0⟩:=q;rw [hq] at N;obtain ⟨_,h3⟩:=pC hq;rw [Nat.sub_zero] at h3;have a4:E.toList.length=es.length:=by have:=congrArg List.length W;simpa using this
  have hi:=(lgE.1 h3).1;have a3:i<E.toList.length:=by omega
  have a1:i<E.size:=by simpa using a3
  obtain ⟨e,O⟩:∃ e,E[i]?=some e:=⟨_,Array.getElem?_eq_getElem a1⟩
  have M:e.key=.int .i64 key/\e.val=MV.venc v0:=by
   have:=congrArg (λl=>l[i]?) W;simp only [List.getElem?_map,h3,Option.map_some,Array.getElem?_toList,O] at this;simpa using this
  refine ⟨E.modify i λe=>{ e with key:=.int .i64 key },H,i,e,?_,?_,?_,?_,M.1⟩
  ·simp [Instr.mapEntry,run_underlying ht,MapKept.run_getObj_map hb,hc,N,O,M.1,Instr.keyThatStays,(o8 hK).bits,MapKept.run_setObj_map _ hb,goInt]
  ·refine MapKept.stamped_modify hs i _ (λ_ _=>rfl) λ_ _ a0=>?_
   rw [O] at a0;cases a0;exact M.1.symm
  ·apply List.ext_getElem?;intro j;have hj:=congrArg (λl=>l[j]?) W;simp only [List.getElem?_map] at hj;simp only [List.getElem?_map,Array.getElem?_toList,Array.getElem?_modify,List.getElem?_set];by_cases e1:i=j
   ·subst e1;simp [hi,O,M.2]
   ·simp only [e1,if_false];rw [<- hj,Array.getElem?_toList]
  ·rw [Array.getElem?_toList,Array.getElem?_modify,if_pos rfl,O];have:({ e with key:=Value.int .i64 key }:MapEntry)=e:=by rw [<- M.1]
   simp [this]
theorem cd0 {key:Int} {u:β} {E:Array MapEntry} {H j:Nat} {e:MapEntry} {es:List (Int × β)} (hb:w.heap[r]?=some (.map E H)) (hs:MapKept.Stamped E H) (hn:(es.map (·.1)).Nodup)
  (hE:E.toList.map (λe=>(e.key,e.val))=es.map (λp=>(Value.int .i64 p.1,MV.venc p.2))) (O:E.toList[j]?=some e) (hk:e.key=.int .i64 key) :
  ∃ E':Array MapEntry,(Instr.entryStore t (.map (some r)) (.int .i64 (e.born:Int)) (MV.venc u)).run P w=.ok () { w with heap:=w.heap.setIfInBounds r (.map E' H) }/\MapKept.Stamped E' H /\
   E'.toList.map (λe=>(e.key,e.val))=(ah0 es key u).map (λp=>(Value.int .i64 p.1,MV.venc p.2)):=by
 have M:E.findIdx? (λx=>((x.born:Nat):Int) == ((e.born:Nat):Int))=some j:=by
  rw [WideElems.findIdx_arr];exact WideElems.findIdx_born hs.2.1 O
 have a1:E.toList.length=es.length:=by have:=congrArg List.length hE;simpa using this
 have a2:=(lgE.1 O).1;obtain ⟨p,hp⟩:∃ p,es[j]?=some p:=⟨_,List.getElem?_eq_getElem (by omega)⟩
 have N:p.1=key:=by
  have:=congrArg (λl=>l[j]?) hE;simp only [List.getElem?_map,hp,Option.map_some,O] at this;rw [hk] at this;simpa using (congrArg Prod.fst (Option.some.inj this)).symm
 have K:∃ W,ny key es 0=some (j,W):=by
  cases K:ny key es 0 with
  | none=>exact absurd N.symm (qA.1 K p (List.mem_of_getElem? hp))
  | some q =>
   obtain ⟨i,W⟩:=q;obtain ⟨_,h3⟩:=pC K;rw [Nat.sub_zero] at h3;have h4:(es.map (·.1))[i]?=some key:=by rw [List.getElem?_map,h3];rfl
   have h5:(es.map (·.1))[j]?=some key:=by rw [List.getElem?_map,hp,<- N];rfl
   have:i=j:=(List.getElem?_inj (lgE.1 h4).1 hn).1 (h4.trans h5.symm);exact ⟨W,by rw [this]⟩
 obtain ⟨W,K⟩:=K;unfold ah0;rw [K];have a0:E[j]?=some e:=by rw [<- Array.getElem?_toList];exact O
 refine ⟨E.modify j λe=>{ e with val:=MV.venc u },?_,?_,?_⟩
 ·simp [Instr.entryStore,MapKept.run_getObj_map hb,asInt,asIntOf,M,MapKept.run_setObj_map _ hb]
 ·exact MapKept.stamped_modify hs j _ (λ_ _=>rfl) λ_ _ _=>rfl
 ·apply List.ext_getElem?;intro i;have hj:=congrArg (λl=>l[i]?) hE;simp only [List.getElem?_map] at hj;simp only [List.getElem?_map,Array.getElem?_toList,Array.getElem?_modify,List.getElem?_set];by_cases e1:j=i
  ·subst e1;have:j<es.length:=by omega
   simp [this,a0,hk]
  ·simp only [e1,if_false];rw [<- hj,Array.getElem?_toList]
omit [MV β] in
theorem cp6 {key:Int} {u H:β}:(m.i key H).i key u=m.i key u:=by
 show (⟨_,_⟩:jw β)=⟨_,_⟩
 have K:(m.i key H).es.filter (λp=>decide (p.1<key))=m.es.filter (λp=>decide (p.1<key)):=by
  show List.filter _ (_++_::_)=_;rw [List.filter_append,List.filter_cons,if_neg (by simp),List.filter_filter,List.filter_filter];have:(m.es.filter λp=>decide (p.1<key)&&decide (key<p.1))=[]:=List.filter_eq_nil_iff.2 λq _=>by simp;omega
  rw [this,List.append_nil]
  congr 1;funext p;simp
 have M:(m.i key H).es.filter (λp=>decide (key<p.1))=m.es.filter (λp=>decide (key<p.1)):=by
  show List.filter _ (_++_::_)=_;rw [List.filter_append,List.filter_cons,if_neg (by simp),List.filter_filter,List.filter_filter];have:(m.es.filter λp=>decide (key<p.1)&&decide (p.1<key))=[]:=List.filter_eq_nil_iff.2 λq _=>by simp;omega
  rw [this,List.nil_append]
  congr 1;funext p;simp
 simp only [K,M]
end
section
variable {S α:Type} {f g f2:S->Option S}
end
end Go.Wk
namespace Go.Wk
open Go Go.RowKit
def cr3 (h:kR) (b:Nat) (o:Obj):kR:=λk=>if k=b then some o else h k
section
variable {w0 w w':World} {hz hz':kR} {L:List Ch}
end
abbrev dd2 (D:Nat):List Deferred:=[{ target:=.collected D,args:=#[] }]
section
variable {ρ S:Type} {m:Option ρ} {r:ρ} {P:Program} {n:Nat} {l:Env} {w w0:World} {hz:kR} {L:List Ch} {R:ρ->Value->World->Prop} {fn:Func} {c:Code} {args:List Value} {f:FuncId} {Q:Exit->Act->World->Prop}
end
end Go.Wk
namespace Go.Wk
open Go Go.RowKit
section
variable {ρ:Type} {m:Option ρ} {r:ρ} {P:Program} {ops:Array Oper} {Q:Exit->Act->World->Prop} {n k:Nat} {l:Env} {w:World} {o:Oper} {rest:List Oper} {d:Nat} {v:Value} {c c':Code} {f:FuncId} {fn:Func}
end
section
variable {β:Type}
end
end Go.Wk
namespace Go.Wk
open Go Go.RowKit
def v8 (h:kR) (b i:Nat) (v:Value):kR:=λc=>if c=b then (match h b with | some (.cells C T fz)=>some (.cells (C.setIfInBounds i v) T fz) | o=>o) else h c
def wM (h:kR) (b i:Nat) (v:Value):Prop:=∃ C T,h b=some (.cells C T (0,0))/\C[i]?=some v
theorem uy {h:kR} {b i c:Nat} {v:Value} (e:c≠b):v8 h b i v c=h c:=by simp [v8,e]
theorem ay2 {h:kR} {b i:Nat} {v:Value} {C:Array Value} {T:TypeId} {H:Nat × Nat} (e:h b=some (.cells C T H)):v8 h b i v b=some (.cells (C.setIfInBounds i v) T H):=by simp [v8,e]
theorem bx7 {h:kR} {b i:Nat} {v:Value} (e:wM h b i v):v8 h b i v=h:=by
 obtain ⟨C,T,H,K⟩:=e;funext c;by_cases e:c=b
 ·subst e;rw [ay2 H,H]
  congr 2
  apply Array.ext
  ·simp
  ·intro j _ M;rw [Array.getElem_setIfInBounds M];split
   ·rename_i e;subst e;rw [Array.getElem?_eq_getElem M] at K;exact (Option.some.inj K).symm
   ·rfl
 ·exact uy e
theorem by7 {h:kR} {b i:Nat} {u v:Value} (e:wM h b i u):wM (v8 h b i v) b i v:=by
 obtain ⟨C,T,H,K⟩:=e;refine ⟨_,T,ay2 H,?_⟩;have:=(Array.getElem?_eq_some_iff.1 K).1;simp [this]
theorem cd9 {h:kR} {b i:Nat} {u v:Value}:v8 (v8 h b i u) b i v=v8 h b i v:=by
 funext c;by_cases e:c=b
 ·subst e;unfold v8;simp only [if_true];cases h c with
  | none=>rfl
  | some o=>cases o<;>simp
 ·rw [uy e,uy e,uy e]
theorem an1 (w:World) (b i:Nat) (v:Value):hp (w.setCell ⟨b,i,none⟩ v)=v8 (hp w) b i v:=by
 funext c;show (w.setCell ⟨b,i,none⟩ v).heap[c]?=_;simp only [World.setCell,Array.getElem?_modify];by_cases e:b=c
 ·subst e;unfold v8 hp;simp only [if_true];cases w.heap[b]? with
  | none=>rfl
  | some o=>cases o<;>simp
 ·rw [if_neg e,uy (λh=>e h.symm)];rfl
def ap7 (h0:kR) (b i:Nat) (v:Value):Ch where
 pr F h:=F b/\h b=v8 h0 b i v b/\∃ u,wM h0 b i u
 loc _ _ _ hp hh:=⟨hp.1,(hh b hp.1).trans hp.2.1,hp.2.2⟩
 mono _ _ _ hp hF:=⟨hF b hp.1,hp.2⟩
section
variable {P:Program} {a:Act} {w w0:World} {hz:kR} {L:List Ch} {o:Oper} {n:Nat} {l:Env} {x y:Operand} {v u:Value} {b i:Nat} {t:TypeId} {h0:kR}
theorem Mem.cel_at (K:Mem w0 hz w L) (k:Nat) (M:L[k]?=some (ap7 h0 b i v)):wM (hp w) b i v:=by
 obtain ⟨F,H,_⟩:=K.get k M;obtain ⟨u,W⟩:=H.2.2;obtain ⟨C,T,O,N⟩:=by7 (v:=v) W;exact ⟨C,T,by rw [H.2.1];exact O,N⟩
theorem am8 (h:wM (hp w) b i v):w.cell? ⟨b,i,none⟩=some v:=by
 obtain ⟨C,T,H,K⟩:=h;have H:w.heap[b]?=some (.cells C T (0,0)):=H;simp [World.cell?,H,K]
theorem bc0 (h:wM (hp w) b i v):w.frozen? ⟨b,i,none⟩=false:=by
 obtain ⟨C,T,H,_⟩:=h;have H:w.heap[b]?=some (.cells C T (0,0)):=H;simp [World.frozen?,H]
theorem Mem.cel_cell (H:Mem w0 hz w L) (k:Nat) (K:L[k]?=some (ap7 h0 b i v)):w.cell? ⟨b,i,none⟩=some v:=am8 (H.cel_at k K)
theorem bz8 (k:Nat) (hf:Fr n l a) (W:Mem w0 hz w L) (hk:L[k]?=some (ap7 h0 b i u)) (hs:∀ w,(sizeOf t).run P w=.ok 1 w) (ho:o.op=.store t x y)
  (hx:ev l x=some (.pointer (some ⟨b,i,none⟩))) (hy:ev l y=some v) (h1:v.oneCell'=true):Ef P a w o (λ_ w'=>Mem w0 hz w' (L.set k (ap7 h0 b i v))):=by
 have hc:=W.cel_at k hk;have wM:=am8 hc;have N:=bc0 hc;have O:v.cells=#[v]:=by cases v<;>first | rfl | cases h1
 refine sd (w':=w.setCell ⟨b,i,none⟩ v) ?_ ?_
 ·simp [execOp,ho,hf.eval hx,hf.eval hy,Instr.storeAt,Instr.sureAddr,storeVar,O,hs,storeCells,oT,run_store P w _ v _ h1,wM,N]
 ·refine W.upd k hk ⟨rfl, rfl, rfl, by simp [World.setCell]⟩ fun F H K => ⟨F, fun _ h => .inl h, fun c hc => by simpa [World.setCell] using K c hc, ⟨H.1, ?_, H.2.2⟩, fun c _ M => ?_⟩
  ·rw [an1]
   have e:v8 (hp w) b i v b=v8 (v8 h0 b i u) b i v b:=by
    unfold v8;simp only [if_true];have:=H.2.1;unfold v8 at this;simp only [if_true] at this;rw [this]
   rw [e,cd9]
  ·have:=congrFun (an1 w b i v) c;have e:c≠b:=λe=>M (by rw [e];exact H.1)
   rw [uy e] at this;exact this
end
section
variable {α β:Type} [GT α] [GT β]
def Deep (F:Nat->Prop) (h:kR) (cs:List Value) (b i:Nat) (n:Int) (g:Int->α):Prop:=F b/\wM h b i (.int .i64 n)/\∀ y,GT.own F (v8 h b i (.int .i64 y)) cs (g y)
def bw0 (F:Nat->Prop) (h:kR) (cs:List Value) (d:Nat) (n:Int) (g:Int->α):Prop:=cs[d]?=some (.int .i64 n)/\∀ y,GT.own F h (cs.set d (.int .i64 y)) (g y)
theorem bk4 {F:Nat->Prop} {h:kR} {cs:List Value} {n:Int} (H:GT.own F h cs n):bw0 F h cs 0 n (λy=>y):=by
 have e:cs=[.int .i64 n]:=H;subst e;exact ⟨rfl,λy=>(rfl:([.int .i64 y]:List Value)=[.int .i64 y])⟩
theorem bm7 {h:kR} {b o:Nat} {cs:List Value} {C:Array Value} {T:TypeId} {M:Nat × Nat} (hc:kS h b o cs) (W:h b=some (.cells C T M)):seg C o cs.length=cs:=by
 obtain ⟨_,T',_,K,N⟩:=hc;rw [W] at K;cases K;apply List.ext_getElem?;intro j;by_cases H:j<cs.length
 ·rw [nP H,List.getElem?_eq_getElem H];exact N j _ (List.getElem?_eq_getElem H)
 ·have O : (seg C o cs.length)[j]? = none := List.getElem?_eq_none (by simp only [seg, List.length_take]; omega);rw [O,List.getElem?_eq_none (by omega)]
theorem ax1 {F:Nat->Prop} {h:kR} {b off len cap i d:Nat} {xs:List α} {cs:List Value} {x:α} {n:Int} {g:Int->α} (ho:GT.own F h [.slice (some ⟨b,off,none⟩) len cap] xs) (hx:xs[i]?=some x) (hc:kS h b (off+i*GT.sz α) cs) (hl:cs.length=GT.sz α)
  (hs:∀ G,GT.own G h cs x->bw0 G h cs d n g):Deep F h [.slice (some ⟨b,off,none⟩) len cap] b (off+i*GT.sz α+d) n (λy=>xs.set i (g y)):=by
 rcases ke.1 ho with ⟨e,_⟩ | ⟨_,_,_,_,C,T,hv,hF,hb,O,a0,a1,a2,fps,h1,h2,h3⟩
 ·cases e
 ·cases hv;have hi:i<xs.length:=(lgE.1 hx).1;have H:=bm7 hc hb;rw [hl] at H;have K:=h3 i x hx;rw [H] at K;obtain ⟨s1,s2⟩:=hs _ K;have hd:d<GT.sz α:=by have:=(lgE.1 s1).1;omega
  have W:C[off+i*GT.sz α+d]?=some (.int .i64 n):=by
   rw [<- H,nP hd] at s1;exact s1
  refine ⟨hF,⟨C,T,hb,W⟩,λy=>ke.2 (.inr ⟨b,off,len,cap,C.setIfInBounds (off+i*GT.sz α+d) (.int .i64 y),T,rfl,hF,ay2 hb,by simpa using O,a0,a1,by simpa using a2,fps,h1,h2,λj z hz=>?_⟩)⟩;have M:∀ c,fps j c->v8 h b (off+i*GT.sz α+d) (.int .i64 y) c=h c:=λc a3=>uy (h1 j c a3).2
  by_cases e:j=i
  ·subst e;rw [List.getElem?_set_self hi] at hz;cases hz
   have N:seg (C.setIfInBounds (off+j*GT.sz α+d) (.int .i64 y)) (off+j*GT.sz α) (GT.sz α)=cs.set d (.int .i64 y):=by
    rw [<- H];apply List.ext_getElem?;intro q;by_cases hq:q<GT.sz α
    ·rw [nP hq,List.getElem?_set,Array.getElem?_setIfInBounds];by_cases e:d=q
     ·subst e;have:=(Array.getElem?_eq_some_iff.1 W).1;simp [this,seg,hd];omega
     ·rw [if_neg (by omega),if_neg e,nP hq]
    ·rw [List.getElem?_eq_none (by simp only [seg,List.length_take];omega),List.getElem?_eq_none (by simp only [List.length_set,seg,List.length_take];omega)]
   rw [N];exact GT.own_loc (s2 y) M
  ·rw [List.getElem?_set_ne (Ne.symm e)] at hz
   have N:seg (C.setIfInBounds (off+i*GT.sz α+d) (.int .i64 y)) (off+j*GT.sz α) (GT.sz α)=seg C (off+j*GT.sz α) (GT.sz α):=by
    refine bn7 (by simp) λq _ _=>?_
    rw [Array.getElem?_setIfInBounds,if_neg];intro _;rcases Nat.lt_or_gt_of_ne e with h | h
    ·have:=mg (s:=GT.sz α) h;omega
    ·have:=mg (s:=GT.sz α) h;omega
   rw [N];exact GT.own_loc (h3 j z hz) M
theorem bj9 {F:Nat->Prop} {h:kR} {cs c d:List Value} {p:α × β} {n:Int} {k:Nat} {g:Int->α} (ho:GT.own F h cs p) (K:cs=c++d) (hl:c.length=GT.sz α) (hs:∀ G,GT.own G h c p.1->bw0 G h c k n g):bw0 F h cs k n (λy=>(g y,p.2)):=by
 obtain ⟨c',d',e,G,H,g1,W,g3,N,h2⟩:=ho
 have hc:c=c'/\d=d':=by
  rw [e] at K;have:=(List.append_inj K (by rw [GT.len (GT.own_rep N),hl]));exact ⟨this.1.symm,this.2.symm⟩
 obtain ⟨rfl,rfl⟩:=hc;obtain ⟨O,s2⟩:=hs G N;have M:k<c.length:=(lgE.1 O).1;refine ⟨by rw [K,List.getElem?_append_left M];exact O,λy=>⟨c.set k (.int .i64 y),d,by rw [K,List.set_append_left _ _ M],G,H,g1,W,g3,s2 y,h2⟩⟩
theorem ck8 {F:Nat->Prop} {h:kR} {cs c d:List Value} {p:α × β} {n:Int} {k:Nat} {g:Int->β} (O:GT.own F h cs p) (K:cs=c++d) (hl:c.length=GT.sz α) (hs:∀ G,GT.own G h d p.2->bw0 G h d k n g):bw0 F h cs (c.length+k) n (λy=>(p.1,g y)):=by
 obtain ⟨c',d',e,G,H,W,N,g3,M,h2⟩:=O
 have hc:c=c'/\d=d':=by
  rw [e] at K;have:=(List.append_inj K (by rw [GT.len (GT.own_rep M),hl]));exact ⟨this.1.symm,this.2.symm⟩
 obtain ⟨rfl,rfl⟩:=hc;obtain ⟨s1,s2⟩:=hs H h2;refine ⟨by rw [K,List.getElem?_append_right (by omega),Nat.add_sub_cancel_left];exact s1,λy=>⟨c,d.set k (.int .i64 y),by rw [K,List.set_append_right _ _ (by omega),Nat.add_sub_cancel_left],G,H,W,N,g3,M,s2 y⟩⟩
theorem Mem.spot {w0 w:World} {hz:kR} {L:List Ch} {cs:List Value} {x:α} {b i:Nat} {n:Int} {g:Int->α} (K:Mem w0 hz w (ow cs x::L)) (H:∀ F,GT.own F (hp w) cs x->Deep F (hp w) cs b i n g):wM (hp w) b i (.int .i64 n)/\hz b=none:=by
 obtain ⟨F,O,M⟩:=K.get 0 rfl;obtain ⟨s0,N,_⟩:=H F O;exact ⟨N,(M b s0).2⟩
end
theorem w5.mono {P:Program} {K:Value} {args:List Value} {w:World} {R H:Value->World->Prop} (h:w5 P K args w R) (N:∀ v w',R v w'->H v w'):w5 P K args w H:=by
 obtain ⟨k,cs,O,M,W⟩:=h;refine ⟨k,cs,O,M,Calls.mono W λe w' h=>?_⟩;cases e with
 | returned v=>exact N v w' h
 | _=>exact h
end Go.Wk
namespace Go.Wk
open Go Go.RowKit
section
variable {α:Type} [GT α]
variable {w0 w:World} {hz:kR} {L:List Ch} {b off len cap i i2:Nat} {xs:List α} {x:α} {ecs fcs:List Value}
end
end Go.Wk
namespace Go.Wk
open Go Go.RowKit
section
variable {α:Type} [GT α]
def gap (b off len cap:Nat) (ys zs:List α):Ch where
 pr R h:=∃ C T,∃ fps:Nat->Nat->Prop,h b=some (.cells C T (0,0))/\R b/\ys.length+zs.length<=len/\len<=cap/\(cap<=maxLen/\len<=140737488355328)/\off+cap*GT.sz α<=C.size /\
  (∀ j c,fps j c->R c/\c≠b)/\(∀ j k c,j≠k->fps j c->¬ fps k c) /\
  (∀ (j:Nat) (x:α),ys[j]?=some x->GT.own (fps j) h (seg C (off+j*GT.sz α) (GT.sz α)) x) /\
  (∀ (j:Nat) (x:α),zs[j]?=some x->GT.own (fps (len - zs.length+j)) h (seg C (off+(len - zs.length+j)*GT.sz α) (GT.sz α)) x)
 loc R h h2 hp hh:=by
  obtain ⟨C,T,fps,O,M,e3,e4,N,W,K,e8,e9,H⟩:=hp
  exact ⟨C,T,fps,(hh b M).trans O,M,e3,e4,N,W,K,e8,λj x hx=>GT.own_loc (e9 j x hx) λc hc=>hh c (K j c hc).1,λj x hx=>GT.own_loc (H j x hx) λc hc=>hh c (K _ c hc).1⟩
 mono R R' h hp hR:=by
  obtain ⟨C,T,fps,O,M,e3,e4,N,W,K,e8,e9,H⟩:=hp
  exact ⟨C,T,fps,O,hR b M,e3,e4,N,W,λj c hc=>⟨hR c (K j c hc).1,(K j c hc).2⟩,e8,e9,H⟩
variable {w0 w:World} {hz:kR} {L:List Ch} {b off len cap:Nat} {xs ys zs:List α} {x:α} {ecs:List Value}
theorem Mem.gap_take (hm:Mem w0 hz w L) (k:Nat) (hk:L[k]?=some (gap b off len cap ys (x::zs))) :
  ∃ ecs,kS (hp w) b (off+(len - (zs.length+1))*GT.sz α) ecs/\Mem w0 hz w (ow ecs x::L.set k (gap b off len cap ys zs)):=by
 obtain ⟨F,hF,_⟩:=hm.get k hk;obtain ⟨C,T,fps,e1,_,e3,_,_,_,_,_,_,_⟩:=hF;simp only [List.length_cons] at e3;refine ⟨seg C (off+(len - (zs.length+1))*GT.sz α) (GT.sz α),qF e1,hm.split k hk λF' W=>?_⟩;obtain ⟨_,T',H,a1,a2,a3,a4,a5,a6,O,a8,a9,M⟩:=W;rw [e1] at a1;simp only [osI,Obj.cells.injEq] at a1;obtain ⟨rfl,rfl,_⟩:=a1;simp only [List.length_cons] at a3 M;refine ⟨λc=>F' c/\¬ H (len - (zs.length+1)) c,H (len - (zs.length+1)),λc hc=>hc.1,λc hc=>(O _ c hc).1,λc hc=>hc.2,?_,show GT.own _ _ _ _ from by simpa using M 0 x rfl⟩;refine ⟨C,T,λj c=>j≠len - (zs.length+1)/\H j c,e1,⟨a2,λhc=>(O _ b hc).2 rfl⟩,by omega,a4,a5,a6,?_,?_,λj y N=>?_,λj y N=>?_⟩
 ·rintro j c ⟨hj,hc⟩;exact ⟨⟨(O j c hc).1,λK=>a8 j _ c hj hc K⟩,(O j c hc).2⟩
 ·rintro j q c a0 ⟨_,hc⟩ ⟨_,K⟩;exact a8 j q c a0 hc K
 ·have:=(lgE.1 N).1;exact GT.own_mono (λc hc=>⟨by omega,hc⟩) (a9 j y N)
 ·have hj:=(lgE.1 N).1;have h:=M (j+1) y (by simpa using N);rw [show len - (zs.length+1)+(j+1)=len - zs.length+j by omega] at h;exact GT.own_mono (λc hc=>⟨by omega,hc⟩) h
def drn (b off cap:Nat) (xs:List α) (i:Nat):Ch:=gap b off xs.length cap [] (xs.drop i)
theorem Mem.drn_take {i:Nat} (K:Mem w0 hz w L) (k:Nat) (M:L[k]?=some (drn b off cap xs i)) (N:xs[i]?=some x) :
  ∃ ecs,kS (hp w) b (off+i*GT.sz α) ecs/\Mem w0 hz w (ow ecs x::L.set k (drn b off cap xs (i+1))):=by
 obtain ⟨hi,H⟩:=lgE.1 N;have e:xs.drop i=x::xs.drop (i+1):=by rw [List.drop_eq_getElem_cons hi,H]
 have h:=K.gap_take (b:=b) (off:=off) (len:=xs.length) (cap:=cap) (ys:=[]) (x:=x) (zs:=xs.drop (i+1)) k (by rw [M];unfold drn;rw [e]);rw [show xs.length - ((xs.drop (i+1)).length+1)=i by simp;omega] at h;exact h
def bk3 (v:Value) (xs:List α) (i:Int):Ch where
 pr R h:=xs.length<=i.toNat\/∃ b off cap,v=.slice (some ⟨b,off,none⟩) xs.length cap/\(drn b off cap xs i.toNat).pr R h
 loc R h h2 hp hh:=hp.imp id λ⟨b,off,cap,e,H⟩=>⟨b,off,cap,e,(drn b off cap xs i.toNat).loc R h h2 H hh⟩
 mono R R' h hp hR:=hp.imp id λ⟨b,off,cap,e,H⟩=>⟨b,off,cap,e,(drn b off cap xs i.toNat).mono R R' h H hR⟩
def be9 (b off len cap:Nat) (xs:List α) (i:Nat) (ecs:List Value):Ch where
 pr R h:=(drn b off cap xs (i+1)).pr R h/\kS h b (off+i*GT.sz α) ecs/\R b/\xs.length=len
 loc R h h2 hp hh:=⟨(drn b off cap xs (i+1)).loc R h h2 hp.1 hh,by
  obtain ⟨C,T,K,M,H⟩:=hp.2.1
  exact ⟨C,T,K,(hh b hp.2.2.1).trans M,H⟩,hp.2.2⟩
 mono R R' h hp hR:=⟨(drn b off cap xs (i+1)).mono R R' h hp.1 hR,hp.2.1,hR b hp.2.2.1,hp.2.2.2⟩
variable {v:Value} {i j:Int}
theorem Mem.drnV0 (hm:Mem w0 hz w L) (k:Nat) (hk:L[k]?=some (ow [v] xs)):Mem w0 hz w (L.set k (bk3 v xs 0)) :=
 hm.imp k hk λF hF=>by
  have a0:=hF;rcases ke.1 hF with ⟨W,hx⟩ | ⟨b,off,len,cap,C,T,W,O,hb,K,H,N,hs,fps,h1,h2,h3⟩
  ·exact .inl (by rw [hx];simp)
  ·subst W;subst K;refine .inr ⟨b,off,cap,rfl,C,T,fps,hb,O,by simp,H,N,hs,h1,h2,λq y M=>by simp at M,λq y M=>?_⟩;simp only [Int.toNat_zero,List.drop_zero] at M ⊢;rw [show xs.length - xs.length+q=q by omega];exact h3 q y M
theorem Mem.drn_form (H:Mem w0 hz w L) (k:Nat) (K:L[k]?=some (bk3 v xs i)) (M:xs[i.toNat]?=some x):∃ b off cap,v=.slice (some ⟨b,off,none⟩) xs.length cap:=by
 obtain ⟨F,N,_⟩:=H.get k K;have:=(lgE.1 M).1;rcases N with h | ⟨b,off,cap,e,_⟩
 ·omega
 ·exact ⟨b,off,cap,e⟩
theorem Mem.drn_pin (hm:Mem w0 hz w L) (k:Nat) (W:L[k]?=some (bk3 (.slice (some ⟨b,off,none⟩) len cap) xs i)) (hx:xs[i.toNat]?=some x) :
  ∃ ecs,kS (hp w) b (off+i.toNat*GT.sz α) ecs/\Mem w0 hz w (ow ecs x::L.set k (be9 b off len cap xs i.toNat ecs)):=by
 have hi:=(lgE.1 hx).1
 have h1:Mem w0 hz w (L.set k (drn b off cap xs i.toNat)):=hm.imp k W λF H=>by
  rcases H with h | ⟨b',M,N,e,hd⟩
  ·omega
  ·simp only [Value.slice.injEq,osI,Addr.mk.injEq] at e;obtain ⟨⟨rfl,rfl,_⟩,_,rfl⟩:=e;exact hd
 have O:xs.length=len:=by
  obtain ⟨F,H,_⟩:=hm.get k W;rcases H with h | ⟨b',M,N,e,hd⟩
  ·omega
  ·simp only [Value.slice.injEq] at e;exact e.2.1.symm
 have K:=(lgE.1 W).1;obtain ⟨ecs,hc,h2⟩:=h1.drn_take k (List.getElem?_set_self K) hx;refine ⟨ecs,hc,?_⟩;rw [List.set_set] at h2
 have h3:=h2.imp (c':=be9 b off len cap xs i.toNat ecs) (k+1) (by rw [List.getElem?_cons_succ,List.getElem?_set_self K]) λF H=>⟨H,hc,by
  obtain ⟨C,T,fps,_,e2,_⟩:=H
  exact e2,O⟩
 simpa [List.set_set] using h3
theorem Mem.drnH_at {i:Nat} (H:Mem w0 hz w L) (k:Nat) (K:L[k]?=some (be9 b off len cap xs i ecs)):kS (hp w) b (off+i*GT.sz α) ecs:=by
 obtain ⟨F,M,_⟩:=H.get k K;exact M.2.1
theorem Mem.drnH_len {i:Nat} (H:Mem w0 hz w L) (k:Nat) (K:L[k]?=some (be9 b off len cap xs i ecs)):xs.length=len:=by
 obtain ⟨F,M,_⟩:=H.get k K;exact M.2.2.2
def cw6 (v:Value) (xs:List α) (i:Int):Ch where
 pr R h:=(0<=i/\i.toNat<xs.length/\xs.length<=140737488355328)/\(bk3 v xs (i+1)).pr R h
 loc R h h2 hp hh:=⟨hp.1,(bk3 v xs (i+1)).loc R h h2 hp.2 hh⟩
 mono R R' h hp hR:=⟨hp.1,(bk3 v xs (i+1)).mono R R' h hp.2 hR⟩
theorem Mem.drnH_gone (K:Mem w0 hz w L) (k:Nat) (M:L[k]?=some (be9 b off len cap xs i.toNat ecs)) (h0:0<=i) (O:xs[i.toNat]?=some x):Mem w0 hz w (L.set k (cw6 (.slice (some ⟨b,off,none⟩) len cap) xs i)) :=
 K.imp k M λF H=>by
  refine ⟨⟨h0,(lgE.1 O).1,?_⟩,.inr ⟨b,off,cap,by rw [H.2.2.2],by rw [show (i+1).toNat=i.toNat+1 by omega];exact H.1⟩⟩;obtain ⟨C,T,fps,_,_,_,_,N,_⟩:=H.1;have:=N.2;omega
theorem Mem.drnS_next (H:Mem w0 hz w L) (k:Nat) (K:L[k]?=some (cw6 v xs i)):Mem w0 hz w (L.set k (bk3 v xs (i+1))):=H.imp k K λF M=>M.2
end
end Go.Wk
namespace Go.Wk
open Go Go.RowKit
section
variable {α:Type} [GT α] {w0 w:World} {hz:kR} {L:List Ch} {b off len cap:Nat} {xs ys zs:List α} {x:α} {ecs:List Value}
end
end Go.Wk
namespace Go.Wk
open Go Go.RowKit
section
variable {α:Type} [GT α] {w0 w:World} {hz:kR} {L:List Ch} {b off len cap:Nat} {xs ys zs:List α} {x:α} {ecs:List Value}
end
end Go.Wk
namespace Go.Wk
open Go Go.RowKit
section
variable {α:Type} [GT α] {w0 w:World} {hz:kR} {L:List Ch} {b off len cap i j:Nat} {xs ys zs:List α} {x:α} {ecs news:List Value}
section
variable {P:Program} {l:Env} {o:Oper} {X Y Z Z1:Operand} {t e:TypeId} {k k2 k3:IntKind} {lo hi:Int} {n m:Nat}
end
end
end Go.Wk
namespace Go.Wk
open Go Go.RowKit
structure Hdr where
 v:Value
instance:MV Hdr:=⟨Hdr.v,λa b h=>by cases a;cases b;cases h;rfl⟩
theorem qD {β:Type} {m:jw β} {k j:Int} {v:β}:(m.i k v).get j=if j=k then some v else m.get j:=by
 apply Option.ext;intro b;unfold jw.get;rw [lx (m.i k v).nodup,<- (m.ins_perm k v).mem_iff,List.mem_cons];by_cases e:j=k
 ·rw [if_pos e,e];constructor
  ·rintro (h | h)
   ·simp only [Prod.mk.injEq,true_and] at h;rw [h]
   ·have:=(List.mem_filter.1 h).2;simp at this
  ·intro h;simp only [osI] at h;rw [h];exact .inl rfl
 ·rw [if_neg e,lx m.nodup];constructor
  ·rintro (h | h)
   ·simp only [Prod.mk.injEq] at h;exact absurd h.1 e
   ·exact (List.mem_filter.1 h).1
  ·intro h;exact .inr (List.mem_filter.2 ⟨h,by simpa using e⟩)
theorem w8 {β:Type} (k:Int):(jw.mk0:jw β).get k=none:=by
 cases h:(jw.mk0:jw β).get k with
 | none=>rfl
 | some v =>
  unfold jw.get at h;rw [lx (jw.mk0:jw β).nodup] at h;cases h
theorem ax3 {β:Type} [MV β] {h:kR} {r:Nat} {m m':jw β} (h1:vf h r m) (h2:vf h r m') (k:Int):m.get k=m'.get k:=by
 obtain ⟨E,c,es,a1,_,W,N⟩:=h1;obtain ⟨_,c',H,b1,_,K,O⟩:=h2;rw [a1] at b1;simp only [osI,Obj.map.injEq] at b1;obtain ⟨rfl,rfl⟩:=b1;rw [W] at K
 have:es=H:=by
  clear W N O
  induction es generalizing H with
  | nil=>cases H with
   | nil=>rfl
   | cons q H=>simp at K
  | cons p es ih=>cases H with
   | nil=>simp at K
   | cons q H =>
    simp only [List.map_cons,List.cons.injEq,Prod.mk.injEq] at K;obtain ⟨⟨e1,e2⟩,e3⟩:=K;have M:p.1=q.1:=by simpa using e1
    rw [ih H e3,Prod.ext M (MV.inj _ _ e2)]
 subst this;unfold jw.get;rw [<- w3 N m.nodup,<- w3 O m'.nodup]
def hd0 (H:jw Hdr) (k:Int):Value:=(H.get k).elim (.slice none 0 0) Hdr.v
def bx3 (Q:Value->List Int->Prop) (H:jw Hdr) (m:jw (List Int)) (k:Int):Prop:=(H.get k=none/\m.get k=none)\/∃ sv l,H.get k=some sv/\m.get k=some l/\Q sv.v l
theorem bx3.imp {Q Q':Value->List Int->Prop} {N H:jw Hdr} {m:jw (List Int)} {k:Int} (h:bx3 Q N m k) (O:N.get k=H.get k) (hQ:∀ v l,Q v l->Q' v l):bx3 Q' H m k:=by
 rcases h with ⟨M,K⟩ | ⟨sv,l,M,K,W⟩
 ·exact .inl ⟨O▸M,K⟩
 ·exact .inr ⟨sv,l,O▸M,K,hQ _ _ W⟩
def owl (v:Value) (m:jw (List Int)):Ch where
 pr F h:=∃ r H,∃ fps:Int->Nat->Prop,v=.map (some r)/\F r/\vf h r H/\(∀ k c,fps k c->F c/\c≠r)/\(∀ k j c,k≠j->fps k c->¬ fps j c)/\∀ k,bx3 (λsv l=>GT.own (fps k) h [sv] l) H m k
 loc F h h2:=λ⟨r,H,fps,O,M,⟨E,c,es,a1,a2⟩,K,N,W⟩ hh=>⟨r,H,fps,O,M,⟨E,c,es,(hh r M).trans a1,a2⟩,K,N,λk=>(W k).imp rfl λ_ _ ho=>GT.own_loc ho λc hc=>hh c (K k c hc).1⟩
 mono F F2 h:=λ⟨r,H,fps,O,M,e3,K,N,W⟩ hF=>⟨r,H,fps,O,hF r M,e3,λk c hc=>⟨hF c (K k c hc).1,(K k c hc).2⟩,N,W⟩
def cp2 (v:Value) (m:jw (List Int)) (key:Int) (sv:Value):Ch where
 pr F h:=∃ r K,∃ fps:Int->Nat->Prop,v=.map (some r)/\F r/\vf h r K/\(∀ k c,fps k c->F c/\c≠r)/\(∀ k j c,k≠j->fps k c->¬ fps j c)/\(∀ k,k≠key->bx3 (λsv l=>GT.own (fps k) h [sv] l) K m k)/\hd0 K key=sv
 loc F h O:=λ⟨r,K,fps,e1,W,⟨E,c,es,a1,a2⟩,N,e5,e6,e7⟩ M=>⟨r,K,fps,e1,W,⟨E,c,es,(M r W).trans a1,a2⟩,N,e5,λk hk=>(e6 k hk).imp rfl λ_ _ ho=>GT.own_loc ho λc hc=>M c (N k c hc).1,e7⟩
 mono F F2 h:=λ⟨r,K,fps,e1,W,e3,N,e5,e6,e7⟩ hF=>⟨r,K,fps,e1,hF r W,e3,λk c hc=>⟨hF c (N k c hc).1,(N k c hc).2⟩,e5,e6,e7⟩
instance:GT (jw (List Int)) where
 sz:=1
 rep h cs m:=∃ v,cs=[v]/\((v=.map none/\m.es=[])\/∃ r K,v=.map (some r)/\vf h r K/\∀ k,bx3 (λsv l=>GT.rep h [sv] l) K m k)
 own F h cs m:=∃ v,cs=[v]/\((v=.map none/\m.es=[])\/(owl v m).pr F h)
 len:=by rintro h cs m ⟨v,rfl,_⟩;rfl
 mono:=by
  rintro h h' cs m M ⟨v,rfl,H⟩
  refine ⟨v,rfl,?_⟩
  rcases H with H | ⟨r,K,hv,⟨E,c,es,h1,O⟩,h3⟩
  ·exact .inl H
  ·exact .inr ⟨r,K,hv,⟨E,c,es,M _ _ h1,O⟩,λk=>(h3 k).imp rfl λ_ _ H=>GT.mono M H⟩
 own_rep:=by
  rintro F h cs m ⟨v,rfl,H⟩
  refine ⟨v,rfl,?_⟩
  rcases H with H | ⟨r,K,fps,hv,_,h1,_,_,O⟩
  ·exact .inl H
  ·exact .inr ⟨r,K,hv,h1,λk=>(O k).imp rfl λ_ _ ho=>GT.own_rep ho⟩
 own_loc:=by
  rintro F h h' cs m ⟨v,rfl,H⟩ M
  exact ⟨v,rfl,H.imp id λhp=>(owl v m).loc _ _ _ hp M⟩
 own_mono:=by
  rintro F F' h cs m hF ⟨v,rfl,H⟩
  exact ⟨v,rfl,H.imp id λhp=>(owl v m).mono _ _ _ hp hF⟩
 one:=by
  rintro h cs m ⟨v,rfl,H⟩ u hu
  simp at hu
  subst hu
  rcases H with ⟨rfl,_⟩ | ⟨r,_,rfl,_⟩<;>rfl
section
variable {P:Program} {a:Act} {w w0:World} {hz:kR} {L:List Ch} {o:Oper} {n:Nat} {l:Env} {x y z:Operand} {t kt vt:TypeId} {r:Nat} {m:jw (List Int)} {v sv sv1:Value} {key:Int} {l1:List Int}
theorem cl9 {F:Nat->Prop} {h:kR} (H:(owl v m).pr F h):GT.own F h [v] m:=⟨v,rfl,.inr H⟩
theorem Mem.owl_ow (H:Mem w0 hz w L) (k:Nat) (K:L[k]?=some (owl v m)):Mem w0 hz w (L.set k (ow [v] m)):=H.imp k K λ_ h=>cl9 h
theorem ca4 (H:Mem w0 hz w L) (k:Nat) (K:L[k]?=some (owl v m)):∃ r,v=.map (some r):=by
 obtain ⟨F,⟨r,_,_,h,_⟩,_⟩:=H.get k K;exact ⟨r,h⟩
theorem co6 (H:Mem w0 hz w L) (k:Nat) (K:L[k]?=some (owl v m)):v.oneCell'=true:=by
 obtain ⟨r,rfl⟩:=ca4 H k K;rfl
theorem cv8 {F:Nat->Prop} {h:kR} (H:(owm v (jw.mk0:jw Hdr)).pr F h):(owl v (jw.mk0:jw (List Int))).pr F h:=by
 obtain ⟨r,M,K,N⟩:=H;exact ⟨r,jw.mk0,λ_ _=>False,M,K,N,λ_ _ h=>h.elim,λ_ _ _ _ h=>h.elim,λk=>.inl ⟨w8 k,w8 k⟩⟩
theorem Mem.owl_out (hm:Mem w0 hz w L) (k:Nat) (M:L[k]?=some (owl v m)) (key:Int):∃ sv,Mem w0 hz w (ow [sv] ((m.get key).getD [])::L.set k (cp2 v m key sv)):=by
 obtain ⟨F,⟨r,mh,fps,rfl,_,e3,_⟩,_⟩:=hm.get k M;refine ⟨hd0 mh key,hm.split k M λF' O=>?_⟩;obtain ⟨_,a1,H,hv,b2,b3,N,b5,b6⟩:=O;cases hv;have W:=ax3 b3 e3;refine ⟨λc=>F' c/\¬ H key c,H key,λc hc=>hc.1,λc hc=>(N key c hc).1,λc hc=>hc.2,?_,?_⟩
 ·exact ⟨r,a1,λk c=>k≠key/\H k c,rfl,⟨b2,λhc=>(N key r hc).2 rfl⟩,b3,λk c hc=>⟨⟨(N k c hc.2).1,λK=>b5 k key c hc.1 hc.2 K⟩,(N k c hc.2).2⟩,λk j c a0 hc K=>b5 k j c a0 hc.2 K.2,λk M=>(b6 k).imp rfl λ_ _ ho=>GT.own_mono (λc hc=>⟨M,hc⟩) ho,by unfold hd0;rw [W]⟩
 ·rcases b6 key with ⟨c1,c2⟩ | ⟨sv,l,c1,c2,c3⟩
  ·have : hd0 mh key = .slice none 0 0 := by unfold hd0; rw [<- W, c1]; rfl
   rw [this,c2];exact ke.2 (.inl ⟨rfl,rfl⟩)
  ·have : hd0 mh key = sv.v := by unfold hd0; rw [<- W, c1]; rfl
   rw [this,c2];exact c3
theorem cm3 (hK:P.underlying kt=some (.int .i64)) (ht:P.underlying t=some (.map kt vt)) (H:∀ w,(zeroValue vt).run P w=.ok (.slice none 0 0) w) (K:Mem w0 hz w L) (k:Nat) (M:L[k]?=some (cp2 v m key sv)) (N:o.op=.lookup t x y false)
  (hx:ev l x=some v) (hy:ev l y=some (.int .i64 key)):Yl P l w o sv:=by
 obtain ⟨F,⟨r,mh,fps,O,_,W,_,_,_,e7⟩,_⟩:=K.get k M;have:=aj7 (β:=Hdr) (m:=mh) (w:=w) (v:=v) (key:=key) hK ht H (tW.2 (.inr ⟨r,O,W⟩)) N hx hy;rw [<- e7];exact this
theorem cs8 {b : Bool} (k : Nat) (hK : P.underlying kt = some (.int .i64)) (ht : P.underlying t = some (.map kt vt)) (hf : Fr n l a) (hm : Mem w0 hz w L) (hk : L[k]? = some (both (cp2 v m key sv) (ow [sv1] l1))) (ho : o.op = if b then .insert t x y z else .mapUpdate t x y z)
  (hx:ev l x=some v) (hy:ev l y=some (.int .i64 key)) (hv:ev l z=some sv1):Ef P a w o (λ_ w'=>Mem w0 hz w' (L.set k (owl v (m.i key l1)))):=by
 obtain ⟨_,⟨_,_,_,_,_,⟨r,mh,_,rfl,b2,b3,_⟩,_⟩,_⟩:=hm.get k hk;obtain ⟨E,_,es,h1,h2,h3,h4⟩:=id b3;obtain ⟨E',H,h5,h6,h7⟩:=bh6 (β:=Hdr) (u:=⟨sv1⟩) hK ht h1 h2 h3 (key:=key);have a0:=(Array.getElem?_eq_some_iff.1 h1).1;refine sd (w':={ w with heap:=w.heap.setIfInBounds r (.map E' H) }) ?_ ?_
 ·have a2:(Instr.mapUpdate t (.map (some r)) (.int .i64 key) sv1).run P w=.ok () { w with heap:=w.heap.setIfInBounds r (.map E' H) }:=h5;cases b<;>simp [execOp,ho,hf.eval hx,hf.eval hy,hf.eval hv,a2]
 ·refine hm.upd k hk ⟨rfl, rfl, rfl, by simp⟩ fun F hF a3 => ⟨F, fun _ h => .inl h, fun c hc => by simpa using a3 c hc, ?_, fun c _ a1 => ?_⟩
  ·obtain ⟨F2,G2,f1,f2,f3,⟨r',_,fps,N,O,c3,c4,c5,c6,_⟩,hG⟩:=hF;cases N;have hg:=ax3 c3 b3;have M:∀ c,c≠r->(w.heap.setIfInBounds r (.map E' H))[c]?=w.heap[c]?:=λc hc=>by simp [Array.getElem?_setIfInBounds,Ne.symm hc]
   refine ⟨r,mh.i key ⟨sv1⟩,λq c=>(q=key/\G2 c)\/(q≠key/\fps q c),rfl,f1 r O,⟨E',H,ah0 es key ⟨sv1⟩,by simp [hp,a0],h6,h7,?_⟩,?_,?_,λq=>?_⟩
   ·refine (xv (keys_nodup h3 h4)).trans (List.Perm.trans ?_ (mh.ins_perm key ⟨sv1⟩));exact (h4.filter _).cons _
   ·rintro q c (⟨_,hc⟩ | ⟨_,hc⟩)
    ·exact ⟨f2 c hc,λe=>f3 c (by rw [e];exact O) hc⟩
    ·exact ⟨f1 c (c4 q c hc).1,(c4 q c hc).2⟩
   ·rintro q j c W (⟨e1,hc⟩ | ⟨e1,hc⟩) (⟨e2,K⟩ | ⟨e2,K⟩)
    ·exact W (e1.trans e2.symm)
    ·exact f3 c (c4 j c K).1 hc
    ·exact f3 c (c4 q c hc).1 K
    ·exact c5 q j c W hc K
   ·by_cases e:q=key
    ·subst e;refine .inr ⟨⟨sv1⟩,l1,by rw [qD,if_pos rfl],by rw [qD,if_pos rfl],?_⟩;refine GT.own_mono (λc hc=>.inl ⟨rfl,hc⟩) (GT.own_loc hG λc hc=>?_);exact M c λe=>f3 c (by rw [e];exact O) hc
    ·rcases c6 q e with ⟨d1,d2⟩ | ⟨s,l',d1,d2,d3⟩
     ·exact .inl ⟨by rw [qD,if_neg e,<- hg];exact d1,by rw [qD,if_neg e];exact d2⟩
     ·refine .inr ⟨s, l', by rw [qD, if_neg e, <- hg]; exact d1, by rw [qD, if_neg e]; exact d2, ?_⟩;exact GT.own_mono (λc hc=>.inr ⟨e,hc⟩) (GT.own_loc d3 λc hc=>M c (c4 q c hc).2)
  ·obtain ⟨F2,G2,f1,_,_,⟨r',_,_,N,O,_⟩,_⟩:=hF;cases N;have:r≠c:=λe=>a1 (by subst e;exact f1 _ O)
   simp [Array.getElem?_setIfInBounds,this]
theorem bv5 {h:kR} (N:GT.rep h [v] m) (key:Int):∃ H:jw Hdr,GT.rep h [v] H/\GT.rep h [(H.get key).elim (.slice none 0 0) MV.venc] ((m.get key).getD []):=by
 obtain ⟨u,W,N⟩:=N;simp at W;subst W;rcases N with ⟨rfl,he⟩ | ⟨r,H,rfl,h1,h2⟩
 ·refine ⟨jw.mk0,tW.2 (.inl ⟨rfl,rfl⟩),?_⟩
  have:m.get key=none:=by
   cases M:m.get key with
   | none=>rfl
   | some q =>
    unfold jw.get at M;rw [lx m.nodup,he] at M;cases M
  rw [w8,this];exact ay3
 ·refine ⟨H,tW.2 (.inr ⟨r,rfl,h1⟩),?_⟩;rcases h2 key with ⟨O,K⟩ | ⟨sv,l,O,K,c3⟩
  ·rw [O,K];exact ay3
  ·rw [O,K];exact c3
end
end Go.Wk
namespace Go.Wk
open Go Go.RowKit
section
variable {α:Type} [GT α] {w0 w:World} {hz:kR} {L:List Ch} {b off len cap i i2:Nat} {xs:List α} {ecs fcs:List Value}
end
end Go.Wk
namespace Go.Wk
open Go Go.RowKit
end Go.Wk
namespace Go.Wk
open Go Go.RowKit
section
variable {β:Type} [MV β] {P:Program} {a:Act} {w w0:World} {hz:kR} {L:List Ch} {o:Oper} {n:Nat} {l:Env} {x y z:Operand} {v:Value} {m:jw β} {t kt vt:TypeId}
theorem cy1 {key:Int} {zv:β} (k:Nat) (hK:P.underlying kt=some (.int .i64)) (ht:P.underlying t=some (.map kt vt)) (a2:∀ w,(zeroValue vt).run P w=.ok (MV.venc zv) w) (hf:Fr n l a) (hm:Mem w0 hz w L)
  (hk:L[k]?=some (owm v m)) (ho:o.op=.mapEntry t x y) (O:ev l x=some v) (hy:ev l y=some (.int .i64 key)) :
  Ef P a w o (λu w'=>∃ v0 st,u=.tuple #[MV.venc v0,.int .i64 st]/\Ent (hp w') v key st/\Mem w0 hz w' (L.set k (owm v (m.i key v0)))):=by
 obtain ⟨_,⟨r,rfl,_,E,_,es,h1,h2,h3,h4⟩,_⟩:=hm.get k hk;obtain ⟨N,H,j,e,g1,g2,g3,g4,g5⟩:=cg4 (zv:=zv) hK ht a2 h1 h2 h3 (key:=key);have W:=(Array.getElem?_eq_some_iff.1 h1).1;have K:hp { w with heap:=w.heap.setIfInBounds r (.map N H) } r=some (.map N H):=by simp [hp,W]
 have a3:List.Perm (ah0 es key ((rn es key).getD zv)) (m.i key ((rn es key).getD zv)).es:=(xv (keys_nodup h3 h4)).trans (List.Perm.trans ((h4.filter _).cons _) (m.ins_perm key _))
 have s2:Mem w0 hz { w with heap:=w.heap.setIfInBounds r (.map N H) } (L.set k (owm (.map (some r)) (m.i key ((rn es key).getD zv)))):=by
  refine hm.upd k hk ⟨rfl,rfl,rfl,by simp⟩ λF hF a4=>?_
  obtain ⟨_,a1,M,_⟩:=hF;cases a1
  exact ⟨F,λ_ h=>.inl h,λc hc=>by simpa using a4 c hc,⟨r,rfl,M,N,H,_,K,g2,g3,a3⟩,λc _ a0=>by
   have:r≠c:=λe=>a0 (e▸M)
   simp [Array.getElem?_setIfInBounds,this]⟩
 exact nR (by simp [execOp,ho,hf.eval O,hf.eval hy,g1]) ⟨_,_,rfl,⟨r,N,H,j,e,rfl,K,g4,rfl,g5⟩,s2⟩
theorem cv4 {key st:Int} {u v0:β} (k:Nat) (hf:Fr n l a) (hm:Mem w0 hz w L) (hk:L[k]?=some (owm v (m.i key v0))) (he:Ent (hp w) v key st) (ho:o.op=.entryStore t x y z) (W:ev l x=some v) (hy:ev l y=some (.int .i64 st)) (hz':ev l z=some (MV.venc u)) :
  Ef P a w o (λ_ w'=>Mem w0 hz w' (L.set k (owm v (m.i key u)))):=by
 obtain ⟨_,⟨r,rfl,_,E,H,es,h1,h2,h3,h4⟩,_⟩:=hm.get k hk;obtain ⟨r',_,_,j,e,q1,q2,q3,rfl,q5⟩:=he;cases q1;rw [h1] at q2;cases q2;obtain ⟨O,g1,g2,g3⟩:=cd0 (P:=P) (t:=t) (u:=u) h1 h2 (keys_nodup h3 h4) h3 q3 q5;have a0:=(Array.getElem?_eq_some_iff.1 h1).1;have M:hp { w with heap:=w.heap.setIfInBounds r (.map O H) } r=some (.map O H):=by simp [hp,a0]
 refine sd (w':={ w with heap:=w.heap.setIfInBounds r (.map O H) }) (by simp [execOp,ho,hf.eval W,hf.eval hy,hf.eval hz',g1]) ?_;refine hm.upd k hk ⟨rfl,rfl,rfl,by simp⟩ λF hF a3=>?_
 obtain ⟨r',a2,K,_⟩:=hF;cases a2;have N:List.Perm (ah0 es key u) ((m.i key v0).i key u).es:=(xv (keys_nodup h3 h4)).trans (List.Perm.trans ((h4.filter _).cons _) ((m.i key v0).ins_perm key _));rw [cp6] at N
 exact ⟨F,λ_ h=>.inl h,λc hc=>by simpa using a3 c hc,⟨r,rfl,K,O,H,_,M,g2,g3,N⟩,λc _ a1=>by
  have:r≠c:=λe=>a1 (e▸K)
  simp [Array.getElem?_setIfInBounds,this]⟩
end
section
variable {α:Type} [GT α] {w w0:World} {hz:kR} {L:List Ch} {cs:List Value} {x:α} {b i:Nat} {n:Int} {g:Int->α}
def cut (h0:kR) (b i:Nat) (cs:List Value) (g:Int->α):Ch where
 pr G h:=∃ H:Nat->Prop,(∀ c,H c->G c/\c≠b/\h c=h0 c)/\∃ F:Nat->Prop,(∀ c,F c->c=b\/H c)/\∀ y,GT.own F (v8 h0 b i (.int .i64 y)) cs (g y)
 loc _ _ _:=λ⟨H,p,q⟩ M=>⟨H,λc hc=>⟨(p c hc).1,(p c hc).2.1,(M c (p c hc).1).trans (p c hc).2.2⟩,q⟩
 mono _ _ _:=λ⟨H,p,q⟩ K=>⟨H,λc hc=>⟨K c (p c hc).1,(p c hc).2⟩,q⟩
theorem Mem.cel_in (M:Mem w0 hz w L) (k:Nat) (N:L[k]?=some (ow cs x)) (K:∀ F,GT.own F (hp w) cs x->Deep F (hp w) cs b i n g) :
  ∃ h0,Mem w0 hz w (ap7 h0 b i (.int .i64 n)::L.set k (cut h0 b i cs g)) :=
 ⟨hp w,M.split k N λF W=>by
  obtain ⟨s0,H,O⟩:=K F W
  exact ⟨λc=>F c/\c≠b,λc=>c=b,λ_ h=>h.1,λc (h:c=b)=>by rw [h];exact s0,λ_ h=>h.2,⟨λc=>F c/\c≠b,λc hc=>⟨hc,hc.2,rfl⟩,F,λc hc=>(Classical.em (c=b)).imp id λe=>⟨hc,e⟩,O⟩,⟨rfl,by rw [bx7 H],_,H⟩⟩⟩
theorem Mem.cel_out {h0:kR} {y:Int} (M:Mem w0 hz w L) (k j:Nat) (K:k≠j) (O:L[k]?=some (cut h0 b i cs g)) (hj:L[j]?=some (ap7 h0 b i (.int .i64 y))) :
  Mem w0 hz w ((L.set k (ow cs (g y))).set j ⟨λ_ _=>True,λ_ _ _ _ _=>trivial,λ_ _ _ _ _=>trivial⟩) :=
 M.merge k j K O hj λF G ⟨_,p,H,q,r⟩ ⟨W,N,_⟩ _=>by
  refine GT.own_mono (F:=H) (λc hc=>?_) (GT.own_loc (r y) λc hc=>?_)
  ·rcases q c hc with rfl | hc
   ·exact .inr W
   ·exact .inl (p c hc).1
  ·rcases q c hc with rfl | hc
   ·exact N
   ·rw [(p c hc).2.2,uy (p c hc).2.1]
end
theorem Mem.hold {w0 w:World} {hz:kR} {L:List Ch} {c:Ch} (hm:Mem w0 hz w L) (k:Nat) (hk:L[k]?=some c) :
  ∃ hz',kR.le hz hz'/\(∃ F,c.pr F hz')/\Mem w0 hz' w (L.set k bg6)/\∀ w' M,Mem w0 hz' w' M->Mem w0 hz w' (c::M):=by
 classical
 obtain ⟨hs,a5,K,f1,f2,f3⟩:=hm;have a0:∀ b,K k b->(if K k b then hp w b else hz b)=hp w b:=λb h=>if_pos h
 have a3:∀ b,¬ K k b->(if K k b then hp w b else hz b)=hz b:=λb h=>if_neg h
 have a4:kR.le hz (λb=>if K k b then hp w b else hz b):=λb o H=>by
  show (if K k b then hp w b else hz b)=some o;rw [a3 b (λhF=>by rw [(f3 k b hF).1] at H;cases H)];exact H
 refine ⟨λb=>if K k b then hp w b else hz b,a4,⟨K k,c.loc _ _ _ (f1 k c hk) a0⟩,⟨hs,?_,λi b=>i≠k/\K i b,?_,?_,?_⟩,?_⟩
 ·intro b o H;by_cases hF:K k b
  ·exact (a0 b hF).symm.trans H
  ·exact a5 b o ((a3 b hF).symm.trans H)
 ·intro i d hi;by_cases e:i=k
  ·subst e;have hl:i<L.length:=(lgE.1 hk).1;rw [List.getElem?_set_self hl] at hi;simp only [osI] at hi;subst hi;trivial
  ·rw [List.getElem?_set_ne (Ne.symm e)] at hi;exact d.mono _ _ _ (f1 i d hi) λb H=>⟨e,H⟩
 ·rintro i j b a2 ⟨_,hi⟩ ⟨_,hj⟩;exact f2 i j b a2 hi hj
 ·rintro i b ⟨a6,hi⟩;exact ⟨(a3 b (λhF=>f2 i k b a6 hi hF)).trans (f3 i b hi).1,(f3 i b hi).2⟩
 ·rintro w' M ⟨a7,O,Gs,g1,g2,g3⟩;have N:∀ b,K k b->∃ o,hp w b=some o:=λb H=>⟨_,Array.getElem?_eq_getElem (f3 k b H).2⟩
  have W:∀ b,K k b->hp w' b=hp w b:=λb H=>by
   obtain ⟨o,ho⟩:=N b H;rw [ho];exact O b o ((a0 b H).trans ho)
  have a1:∀ i b,K k b->¬ Gs i b:=λi b H hg=>by
   obtain ⟨o,ho⟩:=N b H;have h1:(if K k b then hp w b else hz b)=none:=(g3 i b hg).1;rw [a0 b H,ho] at h1;cases h1
  refine ⟨a7,λb o H=>O b o (a4 b o H),λi b=>match i with | 0=>K k b | i+1=>Gs i b,?_,?_,?_⟩
  ·intro i d hi;cases i with
   | zero=>simp at hi;subst hi;exact c.loc _ _ _ (f1 k c hk) W
   | succ i=>exact g1 i d (by simpa using hi)
  ·intro i j b a2 hi hj;cases i with
   | zero =>
    cases j with
    | zero=>exact a2 rfl
    | succ j=>exact a1 j b hi hj
   | succ i =>
    cases j with
    | zero=>exact a1 i b hj hi
    | succ j=>exact g2 i j b (by omega) hi hj
  ·intro i b hi;cases i with
   | zero =>
    obtain ⟨o,ho⟩:=N b hi;exact ⟨(f3 k b hi).1,cg9 ((W b hi).trans ho)⟩
   | succ i =>
    refine ⟨?_,(g3 i b hi).2⟩;cases h:hz b with
    | none=>rfl
    | some o =>
     have h1:(if K k b then hp w b else hz b)=some o:=a4 b o h;have h2:(if K k b then hp w b else hz b)=none:=(g3 i b hi).1;rw [h2] at h1;cases h1
section
variable {β:Type} {m:jw β} {p q:Int × β}
theorem bz0 {a b:Int} {u v:β} (h:a≠b) (s:jw β):(s.i a u).i b v=(s.i b v).i a u:=by
 have key:∀ (K H:jw β),K.es.Perm H.es->K=H:=λK H h=>by
  have:K.es=H.es:=by
   have O:=K.so;have M:=H.so;refine List.Perm.eq_of_pairwise (le:=λa b=>a.1<b.1) (λx y _ _ _ _=>by omega) O M h
  cases K;cases H;simp at this;subst this;rfl
 refine key _ _ ?_;have N:((s.i a u).i b v).es.Perm ((b,v)::(((a,u)::s.es.filter λx=>x.1≠a).filter λx=>x.1≠b)):=((s.i a u).ins_perm b v).symm.trans (List.Perm.cons _ ((s.ins_perm a u).symm.filter _));have W:((s.i b v).i a u).es.Perm ((a,u)::(((b,v)::s.es.filter λx=>x.1≠b).filter λx=>x.1≠a)):=((s.i b v).ins_perm a u).symm.trans (List.Perm.cons _ ((s.ins_perm b v).symm.filter _));refine N.trans (List.Perm.trans ?_ W.symm);simp only [List.filter_cons,h,Ne.symm h,ne_eq,not_false_eq_true,decide_true,if_true,List.filter_filter];refine (List.Perm.swap _ _ _).trans (List.Perm.cons _ (List.Perm.cons _ (List.Perm.of_eq (List.filter_congr λx _=>?_))));exact Bool.and_comm _ _
theorem cx7 {m:jw β}:∀ {p q:Int × β},p∈m.es->q∈m.es->p.1=q.1->p=q:=λ{p q} hp K e=>by
 obtain ⟨i,hi,rfl⟩:=List.mem_iff_getElem.1 hp;obtain ⟨j,H,rfl⟩:=List.mem_iff_getElem.1 K;have hs:=List.pairwise_iff_getElem.1 m.so;rcases Nat.lt_trichotomy i j with h | h | h
 ·have:=hs i j hi H h;omega
 ·subst h;rfl
 ·have:=hs j i H hi h;omega
theorem cl5 (hp:p∈m.es) (H:q∈m.es) (s:jw β):Option.bind (some (s.i p.1 p.2)) (λxs=>some (xs.i q.1 q.2))=Option.bind (some (s.i q.1 q.2)) (λxs=>some (xs.i p.1 p.2)):=by
 by_cases e:p.1=q.1
 ·rw [cx7 hp H e]
 ·show some ((s.i p.1 p.2).i q.1 q.2) = some ((s.i q.1 q.2).i p.1 p.2);rw [bz0 e]
end
end Go.Wk
namespace Go.Wk
open Go Go.RowKit
theorem U {α:Sort _} {a:α}:a=a:=rfl
section
variable {ρ:Type} {m:Option ρ} {r:ρ} {P:Program} {ops:Array Oper} {Q:Exit->Act->World->Prop} {n:Nat} {l:Env} {w w0:World} {x y z c:Code} {o:Operand} {id:Nat}
theorem S {os:List Oper} (k:G m r n l (wpList P os.toArray (uc (y.wk P Q) Q) os) w):G m r n l ((Code.seq (Code.region id os.toArray false) y).wk P Q) w:=gS (gR k)
theorem lT {p:Prop} [Decidable p] (q:Nat) (h:lk l q=some (.bool (decide p))) (hc:ev ((q,.bool true)::l) o=some (.bool true)) (k:G m r n ((q,.bool true)::l) (c.wk P (ce3 id (uc (z.wk P Q) Q))) w) (hp:p:=by omega):G m r n l ((Code.cond o Code.skip y).wk P (uc ((Code.seq (Code.block id c) z).wk P Q) Q)) w:=go _ q h (decide_eq_true hp) (gct hc (gSk (gS (gBk k))))
theorem lF {p:Prop} [Decidable p] (q:Nat) (h:lk l q=some (.bool (decide p))) (hc:ev ((q,.bool false)::l) o=some (.bool false)) (k:G m r n ((q,.bool false)::l) (Q (.exit id)) w) (hp:¬ p:=by omega):G m r n l ((Code.cond o x (Code.exit id)).wk P Q) w:=go _ q h (decide_eq_false hp) (gcf hc (gXt k))
end
section
variable {ρ:Type} {m:Option ρ} {r:ρ} {P:Program} {ops:Array Oper} {Q:Exit->Act->World->Prop} {n:Nat} {l:Env} {w:World} {x y:Operand} {t t':TypeId} {o:Oper} {rest:List Oper} {d:Nat} {i j:Int}
theorem gp (h:(gd ops l o.guard,o.dst,Nat.blt d n,o.op,ev l x,ev l y)=(true,some d,true,.binOp .add t x y t',some (.int .i64 i),some (.int .i64 j))) (k:G m r n ((d,.int .i64 (i+j))::l) (wpList P ops Q rest) w) (H:-9223372036854775808<=i+j:=by omega) (K:i+j<9223372036854775808:=by omega):G m r n l (wpList P ops Q (o::rest)) w:=gP H K h k
end
section
variable {ρ:Type} {m:Option ρ} {r pay:ρ} {P:Program} {n:Nat} {l:Env} {w:World} {c:Code} {fn:Func} {f:FuncId} {args:List Value} {v:Value} {t:Nat} {R:ρ->Value->World->Prop}
theorem gy (K:fn.results=#[.tmp t]) (H:lk l t=some v) (h:R pay v w):G (some pay) r n l (Code.ret.wk P (bodyPost P fn (Rt (Jr R r)))) w:=gRt (gr1 K H h)
theorem kQ (H:P.funcs[f]?=some fn) (h:(fn.body,fn.ntmps,Nat.ble args.length n)=(some c,n,true)) (k:∀ r,Mem w (hp w) w []->G m r n (ix 0 args) (c.wk P (bodyPost P fn (Rt (Jr R r)))) w):k6 P f args w m R:=k7 H h λr=>k r (Mem.start w)
end
section
variable {ρ:Type} {m:Option ρ} {r pay:ρ} {P:Program} {ops:Array Oper} {n:Nat} {l:Env} {w:World} {fn:Func} {v:Value} {t:Nat} {R:ρ->Value->World->Prop} {Q:Exit->Act->World->Prop}
theorem gq (K:fn.results=#[.tmp t]) (H:lk l t=some v) (h:R pay v w):G (some pay) r n l (wpList P ops (uc (Code.ret.wk P (bodyPost P fn (Rt (Jr R r)))) Q) []) w:=gE (gy K H h)
end
section
variable {ρ:Type} {m:Option ρ} {r:ρ} {P:Program} {ops:Array Oper} {S:World->Prop} {ns:List Nat} {Q:Exit->Act->World->Prop} {n:Nat} {l:Env} {w:World} {o:Oper} {d i:Nat} {v:Value} {t:Ord} {x y c:Operand} {T T' e s:TypeId} {k:IntKind} {j j':Int}
theorem uM (H:ops[i]?=some o) (h:(gd ops l o.guard,o.dst,Nat.blt d n,o.op,ev l x)=(true,some d,true,.move x,some v)) (k:G m r n ((d,v)::l) (wpT P ops S ns Q t) w):G m r n l (wpT P ops S ns Q (.p i t)) w:=tP H (λ_=>yM h) k
theorem uA (H:ops[i]?=some o) (h:(gd ops l o.guard,o.dst,Nat.blt d n,o.op,ev l x)=(true,some d,true,.assign x,some v)) (k:G m r n ((d,v)::l) (wpT P ops S ns Q t) w):G m r n l (wpT P ops S ns Q (.p i t)) w:=tP H (λ_=>yA h) k
theorem uT (H:ops[i]?=some o) (h:(gd ops l o.guard,o.dst,Nat.blt d n,o.op,ev l c,ev l x)=(true,some d,true,.pick c x y,some (.bool true),some v)) (k:G m r n ((d,v)::l) (wpT P ops S ns Q t) w):G m r n l (wpT P ops S ns Q (.p i t)) w:=tP H (λ_=>yKt h) k
theorem uK (H:ops[i]?=some o) (h:(gd ops l o.guard,o.dst,Nat.blt d n,o.op,ev l c,ev l y)=(true,some d,true,.pick c x y,some (.bool false),some v)) (k:G m r n ((d,v)::l) (wpT P ops S ns Q t) w):G m r n l (wpT P ops S ns Q (.p i t)) w:=tP H (λ_=>yKf h) k
theorem uB {f:BinOp} (H:ops[i]?=some o) (h:(gd ops l o.guard,o.dst,Nat.blt d n,o.op,ev l x,ev l y,bI k j j' f)=(true,some d,true,.binOp f T x y T',some (.int k j),some (.int k j'),some v)) (k:G m r n ((d,v)::l) (wpT P ops S ns Q t) w):G m r n l (wpT P ops S ns Q (.p i t)) w:=tP H (λ_=>yB h) k
theorem uF {q b a off:Nat} (H:kJ P T q off) (K:ops[i]?=some o) (h:(gd ops l o.guard,o.dst,Nat.blt d n,o.op,ev l x)=(true,some d,true,.fieldAddr T x q,some (.pointer (some ⟨b,a,none⟩)))) (k:G m r n ((d,.pointer (some ⟨b,a+off,none⟩))::l) (wpT P ops S ns Q t) w):G m r n l (wpT P ops S ns Q (.p i t)) w:=tP K (λ_=>yF H h) k
end
def pkL (L:List Ch):List Nat->Option (List Ch)
 | []=>some []
 | j::js=>match L[j]?,pkL L js,js.any (Nat.beq j) with
  | some c,some cs,false=>some (c::cs)
  | _,_,_=>none
theorem bn8 {L:List Ch}:∀ {H:List Nat} {L':List Ch},pkL L H=some L'->decide H.Nodup=true/\H.map (λj=>L[j]?)=L'.map some
 | [],L',h=>by cases h;exact ⟨rfl,rfl⟩
 | j::H,L',h=>by
  rw [pkL] at h;split at h
  ·rename_i c cs N M O;cases h;obtain ⟨a,b⟩:=bn8 M;refine ⟨decide_eq_true (List.nodup_cons.2 ⟨λK=>?_,of_decide_eq_true a⟩),by rw [List.map_cons,List.map_cons,N,b]⟩;have:=List.any_eq_false.1 O j K;simp at this
  ·cases h
theorem Mem.d {w0 w:World} {hz:kR} {L L':List Ch} (K:Mem w0 hz w L) (H:List Nat) (h:pkL L H=some L'):Mem w0 hz w L':=K.pk H (bn8 h).1 (bn8 h).2
theorem dt {p:Prop} [Decidable p] (h:decide p=true):p:=of_decide_eq_true h
theorem jA {α:Type} [GT α] {h:kR} {xs:List α} {p:Option Addr} {n c:Nat} (M:GT.rep h [.slice p n c] xs) {i:Nat} {x:α} (K:xs[i]?=some x):∃ b off,p=some ⟨b,off,none⟩:=by
 obtain ⟨b,off,cap,H⟩:=jy M K;exact ⟨b,off,(sl3 H).1⟩
abbrev rp {α:Type} [GT α] (w:World) (v:Value) (x:α):Prop:=GT.rep (hp w) [v] x
abbrev hc (w:World) (b:Nat) (cs:List Value) (t:Nat):Prop:=w.heap[b]?=some (.cells cs.toArray t (0,0))
abbrev nS:Value:=.slice none 0 0
abbrev sl {α:Type} (p:Option Addr) (xs:List α) (c:Nat):Value:=.slice p xs.length c
abbrev sw {α:Type} (b o:Nat) (xs:List α) (c:Nat):Value:=.slice (some ⟨b,o,none⟩) xs.length c
abbrev os {α:Type} [GT α] (p:Option Addr) (xs:List α) (c:Nat):Ch:=ow [.slice p xs.length c] xs
abbrev ot {α:Type} [GT α] (b o:Nat) (xs:List α) (c:Nat):Ch:=ow [.slice (some ⟨b,o,none⟩) xs.length c] xs
section
variable {ρ:Type} {m:Option ρ} {r pay:ρ} {P:Program} {ops:Array Oper} {n:Nat} {l:Env} {w:World} {fn:Func} {v:Value} {t:Nat} {R:ρ->Value->World->Prop} {Q Q':Exit->Act->World->Prop}
theorem gw (H:Q' .ret=bodyPost P fn (Rt (Jr R r)) .ret) (M:fn.results=#[.tmp t]) (K:lk l t=some v) (h:R pay v w):G (some pay) r n l (wpList P ops (uc (Code.ret.wk P Q') Q) []) w:=gE (gRt (by rw [H];exact gr1 M K h))
end
end Go.Wk
