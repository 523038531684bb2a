/- A part of a proof: general laws of walks, no statement of the seat. -/
import Derived.Test.YthikiocjbepfnaaGreatWkY
import Derived.Maps.RangeRun
import Derived.Shelf.Sort.Plain
import Derived.Shelf.Slices.In.SortNone
import Derived.Shelf.Slices.CompactI
import Derived.Lib.RowBridge
import Derived.Scope
import Derived.WideKeyEntry
import Derived.RangeFuncRecord
import Derived.RangeFuncLeaves
import Derived.RangeFuncSeq
import Derived.TacticsIn
import Derived.Laws.AppendOwn
namespace Go.Wk
open Go Go.RowKit
structure MapS (β:Type) where
 es:List (Int × β)
 so:es.Pairwise (λa b=>a.1<b.1)
 deriving DecidableEq
instance {β:Type}:Inhabited (MapS β):=⟨⟨[],.nil⟩⟩
namespace MapS
variable {β:Type}
def get (m:MapS β) (k:Int):Option β:=lookM m.es k
def mk0:MapS β:=⟨[],.nil⟩
def ins (m:MapS β) (k:Int) (v:β):MapS β :=
 ⟨m.es.filter (λp=>decide (p.1<k))++(k,v)::m.es.filter (λp=>decide (k<p.1)),by
  refine List.pairwise_append.2 ⟨m.so.filter _,List.pairwise_cons.2 ⟨λp hp=>by simpa using (List.mem_filter.1 hp).2,m.so.filter _⟩,λa ha b hb=>?_⟩
  have h1:a.1<k:=by simpa using (List.mem_filter.1 ha).2
  rcases List.mem_cons.1 hb with e | hb
  ·subst e;exact h1
  ·have h2 : k < b.1 := by simpa using (List.mem_filter.1 hb).2
   omega⟩
def del (m:MapS β) (k:Int):MapS β:=⟨m.es.filter (λp=>decide (p.1≠k)),m.so.filter _⟩
def keys (m:MapS β):List Int:=m.es.map (·.1)
def len (m:MapS β):Int:=(m.es.length:Int)
theorem nodup (m:MapS β):(m.es.map (·.1)).Nodup:=by
 refine (List.pairwise_map.2 (m.so.imp ?_))
 intro a b h
 show a.1≠b.1
 omega
end MapS
section
variable {β:Type}
theorem lookM_some {es:List (Int × β)} (hn:(es.map (·.1)).Nodup) {k:Int} {v:β}:lookM es k=some v↔(k,v)∈es:=by
 unfold lookM
 constructor
 ·intro h
  cases hq:findIx k es 0 with
  | none=>rw [hq] at h;simp at h
  | some q =>
   obtain ⟨i,u⟩:=q
   rw [hq] at h
   simp at h
   subst h
   obtain ⟨_,h3⟩:=findIx_some hq
   exact List.mem_of_getElem? h3
 ·intro h
  cases hq:findIx k es 0 with
  | none=>exact absurd rfl (findIx_none.1 hq _ h)
  | some q =>
   obtain ⟨i,u⟩:=q
   obtain ⟨_,h3⟩:=findIx_some hq
   have h4:=List.mem_of_getElem? h3
   simp only [Option.map_some,osI]
   have key:∀ (l:List (Int × β)),(l.map (·.1)).Nodup→(k,u)∈l→(k,v)∈l→u=v:=by
    intro l
    induction l with
    | nil=>intro _ h;simp at h
    | cons p l ih =>
     intro hn h1 h2
     rw [List.map_cons,List.nodup_cons] at hn
     rcases List.mem_cons.1 h1 with e1 | e1<;>rcases List.mem_cons.1 h2 with e2 | e2
     ·rw [← e1] at e2;simpa using e2.symm
     ·exact absurd (List.mem_map.2 ⟨_,e2,rfl⟩) (by rw [← e1] at hn;exact hn.1)
     ·exact absurd (List.mem_map.2 ⟨_,e1,rfl⟩) (by rw [← e2] at hn;exact hn.1)
     ·exact ih hn.2 e1 e2
   exact key es hn h4 h
theorem lookM_perm {es es':List (Int × β)} (hp:es'.Perm es) (hn:(es.map (·.1)).Nodup) (k:Int):lookM es' k=lookM es k:=by
 have hn':(es'.map (·.1)).Nodup:=(hp.map _).nodup_iff.2 hn
 cases h:lookM es k with
 | none =>
  cases h':lookM es' k with
  | none=>rfl
  | some v=>rw [lookM_some hn'] at h';rw [(lookM_some hn).2 (hp.mem_iff.1 h')] at h;cases h
 | some v=>rw [lookM_some hn] at h;rw [lookM_some hn'];exact hp.mem_iff.2 h
theorem set_perm {k : Int} {v : β} : ∀ {es : List (Int × β)} {i : Nat} {u : β}, (es.map (·.1)).Nodup → es[i]? = some (k, u) → (es.set i (k, v)).Perm ((k, v) :: es.filter (fun p => decide (p.1 ≠ k)))
 | [],i,u,_,h=>by simp at h
 | p::es,0,u,hn,h=>by
  simp at h
  subst h
  rw [List.map_cons,List.nodup_cons] at hn
  have:es.filter (λp=>decide (p.1≠k))=es:=List.filter_eq_self.2 λq hq=>by
   have:q.1≠k:=λe=>hn.1 (List.mem_map.2 ⟨q,hq,e⟩)
   simpa using this
  rw [List.filter_cons,if_neg (by simp),this]
  exact List.Perm.refl _
 | p::es,i+1,u,hn,h=>by
  rw [List.map_cons,List.nodup_cons] at hn
  have h':es[i]?=some (k,u):=by simpa using h
  have hpk:p.1≠k:=λe=>hn.1 (List.mem_map.2 ⟨_,List.mem_of_getElem? h',e.symm⟩)
  have ih:=set_perm (v:=v) hn.2 h'
  simp only [List.set_cons_succ,List.filter_cons,hpk,ne_eq,not_false_eq_true,decide_true,if_true]
  exact (ih.cons p).trans (List.Perm.swap _ _ _)
theorem insM_perm {k:Int} {v:β} {es:List (Int × β)} (hn:(es.map (·.1)).Nodup):(insM es k v).Perm ((k,v)::es.filter (λp=>decide (p.1≠k))):=by
 unfold insM
 cases hq:findIx k es 0 with
 | none =>
  have h:=findIx_none.1 hq
  have:es.filter (λp=>decide (p.1≠k))=es:=List.filter_eq_self.2 λq hq=>by
   have:q.1≠k:=λe=>h q hq e.symm
   simpa using this
  simp only [this]
  exact List.perm_append_singleton _ _
 | some q =>
  obtain ⟨i,u⟩:=q
  obtain ⟨_,h3⟩:=findIx_some hq
  exact set_perm hn h3
theorem erase_perm {k : Int} : ∀ {es : List (Int × β)} {i : Nat} {u : β}, (es.map (·.1)).Nodup → es[i]? = some (k, u) → es.eraseIdx i = es.filter (fun p => decide (p.1 ≠ k))
 | [],i,u,_,h=>by simp at h
 | p::es,0,u,hn,h=>by
  simp at h
  subst h
  rw [List.map_cons,List.nodup_cons] at hn
  have:es.filter (λp=>decide (p.1≠k))=es:=List.filter_eq_self.2 λq hq=>by
   have:q.1≠k:=λe=>hn.1 (List.mem_map.2 ⟨q,hq,e⟩)
   simpa using this
  rw [List.filter_cons,if_neg (by simp),this]
  rfl
 | p::es,i+1,u,hn,h=>by
  rw [List.map_cons,List.nodup_cons] at hn
  have h':es[i]?=some (k,u):=by simpa using h
  have hpk:p.1≠k:=λe=>hn.1 (List.mem_map.2 ⟨_,List.mem_of_getElem? h',e.symm⟩)
  simp only [List.eraseIdx_cons_succ,List.filter_cons,hpk,ne_eq,not_false_eq_true,decide_true,if_true]
  rw [erase_perm hn.2 h']
theorem erase_map {α γ : Type} (f : α → γ) : ∀ (l : List α) (i : Nat), (l.eraseIdx i).map f = (l.map f).eraseIdx i
 | [],i=>by simp
 | x::l,0=>by simp
 | x::l,i+1=>by simp [erase_map f l i]
theorem MapS.ins_perm (m:MapS β) (k:Int) (v:β):((k,v)::m.es.filter (λp=>decide (p.1≠k))).Perm (m.ins k v).es:=by
 refine List.Perm.trans ?_ List.perm_middle.symm
 refine List.Perm.cons _ ?_
 have h:=List.filter_append_perm (λp:Int × β=>decide (p.1<k)) (m.es.filter (λp=>decide (p.1≠k)))
 refine h.symm.trans ?_
 rw [List.filter_filter,List.filter_filter]
 have e1:m.es.filter (λp=>decide (p.1<k)&&decide (p.1≠k))=m.es.filter (λp=>decide (p.1<k)):=List.filter_congr λp _=>by
  by_cases h:p.1<k<;>simp [h];omega
 have e2:m.es.filter (λp=>!decide (p.1<k)&&decide (p.1≠k))=m.es.filter (λp=>decide (k<p.1)):=List.filter_congr λp _=>by
  rcases Int.lt_trichotomy p.1 k with h | h | h
  ·have : ¬ k < p.1 := by omega
   simp [h,this]
  ·simp [h]
  ·have h1 : ¬ p.1 < k := by omega
   have h2:p.1≠k:=by omega
   simp [h,h1,h2]
 rw [e1,e2]
end
class MV (β:Type) where
 venc:β→Value
 inj:∀ a b,venc a=venc b→a=b
instance:MV Bool:=⟨.bool,λa b h=>by simpa using h⟩
instance:MV Int:=⟨.int .i64,λa b h=>by simpa using h⟩
def mapAt {β:Type} [MV β] (h:Heap) (r:Nat) (m:MapS β):Prop :=
 ∃ (E:Array MapEntry) (clock:Nat) (es:List (Int × β)),h r=some (.map E clock)∧MapKept.Stamped E clock∧E.toList.map (λe=>(e.key,e.val))=es.map (λp:Int × β=>(Value.int .i64 p.1,MV.venc p.2))∧es.Perm m.es
instance {β:Type} [MV β]:GT (MapS β) where
 sz:=1
 rep h cs m:=∃ v,cs=[v]∧((v=.map none∧m.es=[])∨∃ r,v=.map (some r)∧mapAt h r m)
 own F h cs m:=∃ v,cs=[v]∧((v=.map none∧m.es=[])∨∃ r,v=.map (some r)∧F r∧mapAt h r m)
 len:=by rintro h cs m ⟨v,rfl,_⟩;rfl
 mono:=by
  rintro h h' cs m hh ⟨v,rfl,hr⟩
  refine ⟨v,rfl,?_⟩
  rcases hr with hr | ⟨r,hv,E,c,es,h1,h2⟩
  ·exact .inl hr
  ·exact .inr ⟨r,hv,E,c,es,hh _ _ h1,h2⟩
 own_rep:=by
  rintro F h cs m ⟨v,rfl,hr⟩
  refine ⟨v,rfl,?_⟩
  rcases hr with hr | ⟨r,hv,_,h1⟩
  ·exact .inl hr
  ·exact .inr ⟨r,hv,h1⟩
 own_loc:=by
  rintro F h h' cs m ⟨v,rfl,hr⟩ hh
  refine ⟨v,rfl,?_⟩
  rcases hr with hr | ⟨r,hv,hF,E,c,es,h1,h2⟩
  ·exact .inl hr
  ·exact .inr ⟨r,hv,hF,E,c,es,(hh r hF).trans h1,h2⟩
 own_mono:=by
  rintro F F' h cs m hF ⟨v,rfl,hr⟩
  refine ⟨v,rfl,?_⟩
  rcases hr with hr | ⟨r,hv,h1,h2⟩
  ·exact .inl hr
  ·exact .inr ⟨r,hv,hF r h1,h2⟩
 one:=by
  rintro h cs m ⟨v,rfl,hr⟩ u hu
  simp at hu
  subst hu
  rcases hr with ⟨rfl,_⟩ | ⟨r,rfl,_⟩<;>rfl
section
variable {β:Type} [MV β] {P:Program} {a:Act} {w w0:World} {hz:Heap} {L:List Ch} {o:Oper} {n:Nat} {l:Env} {x y z:Operand} {t kt vt:TypeId} {r:Nat} {m:MapS β} {v:Value}
theorem rep_map {h:Heap}:GT.rep h [v] m↔((v=.map none∧m.es=[])∨∃ r,v=.map (some r)∧mapAt h r m):=by
 constructor
 ·rintro ⟨u,hu,hr⟩;simp at hu;subst hu;exact hr
 ·intro hr;exact ⟨v,rfl,hr⟩
theorem own_map {F:Nat→Prop} {h:Heap}:GT.own F h [v] m↔((v=.map none∧m.es=[])∨∃ r,v=.map (some r)∧F r∧mapAt h r m):=by
 constructor
 ·rintro ⟨u,hu,hr⟩;simp at hu;subst hu;exact hr
 ·intro hr;exact ⟨v,rfl,hr⟩
theorem mapS_at {F:Nat→Prop} {h:Heap} (ho:GT.own F h [.map (some r)] m):F r∧mapAt h r m:=by
 rcases own_map.1 ho with ⟨e,_⟩ | ⟨r',e,h1,h2⟩
 ·cases e
 ·cases e;exact ⟨h1,h2⟩
theorem keys_nodup {E:Array MapEntry} {es:List (Int × β)} (hE:E.toList.map (λe=>(e.key,e.val))=es.map (λp=>(Value.int .i64 p.1,MV.venc p.2))) (hp:es.Perm m.es):(es.map (·.1)).Nodup:=(hp.map _).nodup_iff.2 m.nodup
theorem e_mkS (hm : Mem w0 hz w L) (ho : o.op = .makeMap t none) :
  Ef P a w o (λv w'=>∃ r,v=.map (some r)∧Mem w0 hz w' (ow [.map (some r)] (MapS.mk0:MapS β)::L)) :=
 ef_value (w' := w.alloc (.map #[] 0)) (v := .map (some w.heap.size)) (by simp [execOp, ho, Instr.makeMap])
  ⟨_,rfl,hm.more ⟨rfl,rfl,rfl,by simp⟩ (λb hb=>Below.heap_alloc w _ b hb) ⟨λb=>b=w.heap.size,λb hb=>by subst hb;simp,own_map.2 (.inr ⟨_,rfl,rfl,#[],0,[],heap_alloc_new w _,MapKept.stamped_empty 0,by simp,.nil⟩)⟩⟩
theorem y_lookS {key : Int} {zv : Value} (hK : P.underlying kt = some (.int .i64)) (ht : P.underlying t = some (.map kt vt)) (hz0 : ∀ w, (zeroValue vt).run P w = .ok zv w) (hr : GT.rep (hp w) [v] m) (ho : o.op = .lookup t x y false)
  (hx:ev l x=some v) (hy:ev l y=some (.int .i64 key)):Yl P l w o ((m.get key).elim zv MV.venc):=λn a hf=>by
 rcases rep_map.1 hr with ⟨rfl,he⟩ | ⟨r,rfl,E,clock,es,h1,h2,h3,h4⟩
 ·have hc := (key_int hK).check 9999 true key w
  have hf2:=run_findKey (venc:=MV.venc (β:=β)) (key_int hK) (E:=[]) (es:=[]) rfl key w
  simp only [execOp,ho,hf.eval hx,hf.eval hy,Instr.lookup]
  simp [run_underlying ht,hc,hf2,hz0,MapS.get,he,lookM,findIx]
 ·have hf2 := run_findKey (key_int hK) h3 key w
  have hc:=(key_int hK).check 9999 E.isEmpty key w
  simp only [execOp,ho,hf.eval hx,hf.eval hy,Instr.lookup]
  simp [run_underlying ht,MapKept.run_getObj_map h1,hc,hf2]
  unfold MapS.get
  rw [← lookM_perm h4 m.nodup]
  unfold lookM
  cases findIx key es 0 with
  | none=>simp [hz0]
  | some q=>simp
theorem y_lenS (ht:P.underlying t=some (.map kt vt)) (hr:GT.rep (hp w) [v] m) (ho:o.op=.call { callee:=.builtin .len,args:=#[x],argTypes:=#[t] }) (hx:ev l x=some v):Yl P l w o (.int .i64 m.len):=λn a hf=>by
 rcases rep_map.1 hr with ⟨rfl,he⟩ | ⟨r,rfl,E,clock,es,h1,h2,h3,h4⟩
 ·simp [execOp,ho,resolve,invoke,builtin,hf.eval hx,Builtin.len_,run_underlying ht,goInt,MapS.len,he]
 ·have hl:E.size=m.es.length:=by
   have:=congrArg List.length h3
   simp at this
   rw [this,h4.length_eq]
  simp [execOp,ho,resolve,invoke,builtin,hf.eval hx,Builtin.len_,run_underlying ht,goInt,MapS.len,MapKept.run_getObj_map h1,hl]
theorem run_insS {key : Int} {u : β} {E : Array MapEntry} {clock : Nat} {es : List (Int × β)} (hK : P.underlying kt = some (.int .i64)) (ht : P.underlying t = some (.map kt vt)) (hb : w.heap[r]? = some (.map E clock)) (hs : MapKept.Stamped E clock)
  (hE:E.toList.map (λe=>(e.key,e.val))=es.map (λp=>(Value.int .i64 p.1,MV.venc p.2))) :
  ∃ E' clock',(Instr.mapUpdate t (.map (some r)) (.int .i64 key) (MV.venc u)).run P w=.ok () { w with heap:=w.heap.setIfInBounds r (.map E' clock') }∧MapKept.Stamped E' clock'∧E'.toList.map (λe=>(e.key,e.val))=(insM es key u).map (λp=>(Value.int .i64 p.1,MV.venc p.2)):=by
 have hf2:=run_findKey (key_int hK) hE key w
 have hc:=(key_int hK).check 9999 false key w
 unfold insM
 cases hq:findIx key es 0 with
 | none =>
  rw [hq] at hf2
  refine ⟨E.push { key:=.int .i64 key,val:=MV.venc u,born:=clock },clock+1,?_,?_,?_⟩
  ·simp [Instr.mapUpdate,run_underlying ht,MapKept.run_getObj_map hb,hc,hf2,MapKept.run_setObj_map _ hb]
  ·refine MapKept.stamped_push hs fun e he h => ?_
   have h1:(e.key,e.val)∈es.map (λp=>(Value.int .i64 p.1,MV.venc p.2)):=by rw [← hE];exact List.mem_map.2 ⟨e,he,rfl⟩
   obtain ⟨p,hp,h2⟩:=List.mem_map.1 h1
   simp only [Prod.mk.injEq] at h2
   rw [h] at h2
   have:p.1=key:=by simpa using h2.1
   exact findIx_none.1 hq p hp this.symm
  ·simp [hE]
 | some q =>
  obtain ⟨i,v0⟩:=q
  rw [hq] at hf2
  obtain ⟨_,h3⟩:=findIx_some hq
  rw [Nat.sub_zero] at h3
  have hlen:E.toList.length=es.length:=by have:=congrArg List.length hE;simpa using this
  have hi:=(lgE.1 h3).1
  have hkey:(E[i]?).map (·.key)=some (.int .i64 key):=by
   have:=congrArg (λl=>l[i]?) hE
   simp only [List.getElem?_map,h3,Option.map_some] at this
   cases he:E[i]? with
   | none=>rw [← Array.getElem?_toList] at he;rw [he] at this;simp at this
   | some e=>rw [← Array.getElem?_toList] at he;rw [he] at this;simp at this;simp [this.1]
  refine ⟨E.modify i λe=>{ e with key:=.int .i64 key,val:=MV.venc u },clock,?_,?_,?_⟩
  ·simp [Instr.mapUpdate,run_underlying ht,MapKept.run_getObj_map hb,hc,hf2,hkey,Instr.keyThatStays,(key_int hK).bits,MapKept.run_setObj_map _ hb]
  ·refine MapKept.stamped_modify hs i _ (fun _ _ => rfl) fun e _ he => ?_
   rw [he] at hkey
   simpa using hkey.symm
  ·apply List.ext_getElem?
   intro j
   have hj:=congrArg (λl=>l[j]?) hE
   simp only [List.getElem?_map] at hj
   simp only [List.getElem?_map,Array.getElem?_toList,Array.getElem?_modify,List.getElem?_set]
   by_cases e:i=j
   ·subst e
    simp only [if_true,hi]
    have:i<E.size:=by simpa using (by rw [← hlen] at hi;exact hi:i<E.toList.length)
    simp [this]
   ·simp only [e, if_false]
    rw [← hj,Array.getElem?_toList]
theorem e_insS {key : Int} {u : β} {b : Bool} (k : Nat) (hK : P.underlying kt = some (.int .i64)) (ht : P.underlying t = some (.map kt vt)) (hf : Fr n l a) (hm : Mem w0 hz w L) (hk : L[k]? = some (ow [.map (some r)] m)) (ho : o.op = if b then .insert t x y z else .mapUpdate t x y z)
  (hx:ev l x=some (.map (some r))) (hy:ev l y=some (.int .i64 key)) (hv:ev l z=some (MV.venc u)) :
  Ef P a w o (λ_ w'=>Mem w0 hz w' (L.set k (ow [.map (some r)] (m.ins key u)))):=by
 obtain ⟨F0,hF0,_⟩:=hm.get k hk
 obtain ⟨_,E,clock,es,h1,h2,h3,h4⟩:=mapS_at hF0
 obtain ⟨E',clock',h5,h6,h7⟩:=run_insS (u:=u) hK ht h1 h2 h3 (key:=key)
 have hlt:=(Array.getElem?_eq_some_iff.1 h1).1
 refine ef_skip (w':={ w with heap:=w.heap.setIfInBounds r (.map E' clock') }) ?_ ?_
 ·cases b<;>simp [execOp,ho,hf.eval hx,hf.eval hy,hf.eval hv,h5]
 ·refine hm.upd k hk ⟨rfl, rfl, rfl, by simp⟩ fun F hF hFw => ⟨F, fun _ h => .inl h, fun c hc => by simpa using hFw c hc, own_map.2 (.inr ⟨r, rfl, (mapS_at hF).1, E', clock', insM es key u, ?_, h6, h7, ?_⟩), fun c _ hne => ?_⟩
  ·simp [hp,hlt]
  ·refine (insM_perm (keys_nodup h3 h4)).trans (List.Perm.trans ?_ (m.ins_perm key u))
   exact (h4.filter _).cons _
  ·have : r ≠ c := fun e => hne (by subst e; exact (mapS_at hF).1)
   simp [Array.getElem?_setIfInBounds,this]
theorem e_delS {key : Int} (k : Nat) (hK : P.underlying kt = some (.int .i64)) (ht : P.underlying t = some (.map kt vt)) (hf : Fr n l a) (hm : Mem w0 hz w L) (hk : L[k]? = some (ow [.map (some r)] m)) {ts : Array TypeId} (hts : ts[0]? = some t)
  (ho:o.op=.call { callee:=.builtin .delete,args:=#[x,y],argTypes:=ts }) (hx:ev l x=some (.map (some r))) (hy:ev l y=some (.int .i64 key)) :
  Ef P a w o (λ_ w'=>Mem w0 hz w' (L.set k (ow [.map (some r)] (m.del key)))):=by
 obtain ⟨F0,hF0,_⟩:=hm.get k hk
 obtain ⟨_,E,clock,es,h1,h2,h3,h4⟩:=mapS_at hF0
 have hlt:=(Array.getElem?_eq_some_iff.1 h1).1
 have hf2:=run_findKey (key_int hK) h3 key w
 have hc:=(key_int hK).check 9999 E.isEmpty key w
 have hn:=keys_nodup h3 h4
 have fin : ∀ (E' : Array MapEntry) (es' : List (Int × β)), MapKept.Stamped E' clock → E'.toList.map (fun e => (e.key, e.val)) = es'.map (fun p => (Value.int .i64 p.1, MV.venc p.2)) → es' = es.filter (fun p => decide (p.1 ≠ key)) →
   Mem w0 hz { w with heap:=w.heap.setIfInBounds r (.map E' clock) } (L.set k (ow [.map (some r)] (m.del key))):=λE' es' h6 h7 h8=>by
  refine hm.upd k hk ⟨rfl,rfl,rfl,by simp⟩ λF hF hFw=>⟨F,λ_ h=>.inl h,λc hc=>by simpa using hFw c hc,own_map.2 (.inr ⟨r,rfl,(mapS_at hF).1,E',clock,es',?_,h6,h7,?_⟩),λc _ hne=>?_⟩
  ·simp [hp,hlt]
  ·rw [h8];exact h4.filter _
  ·have : r ≠ c := fun e => hne (by subst e; exact (mapS_at hF).1)
   simp [Array.getElem?_setIfInBounds,this]
 cases hq:findIx key es 0 with
 | none =>
  rw [hq] at hf2
  refine ef_value (v:=.tuple #[]) (w':={ w with heap:=w.heap.setIfInBounds r (.map E clock) }) ?_ (fin E es h2 h3 ?_)
  ·simp [execOp,ho,resolve,invoke,builtin,hf.eval hx,hf.eval hy,Builtin.delete_,hts,run_underlying ht,MapKept.run_getObj_map h1,hc,hf2,MapKept.run_setObj_map _ h1]
  ·exact (List.filter_eq_self.2 λq hq'=>by
    have:q.1≠key:=λe=>findIx_none.1 hq q hq' e.symm
    simpa using this).symm
 | some q =>
  obtain ⟨i,v0⟩:=q
  rw [hq] at hf2
  obtain ⟨_,h5⟩:=findIx_some hq
  rw [Nat.sub_zero] at h5
  have hlen:E.toList.length=es.length:=by have:=congrArg List.length h3;simpa using this
  have hi:=(lgE.1 h5).1
  refine ef_value (v:=.tuple #[]) (w':={ w with heap:=w.heap.setIfInBounds r (.map (E.eraseIdxIfInBounds i) clock) }) ?_ (fin _ (es.eraseIdx i) (MapKept.stamped_erase h2 i) ?_ (erase_perm hn h5))
  ·simp [execOp,ho,resolve,invoke,builtin,hf.eval hx,hf.eval hy,Builtin.delete_,hts,run_underlying ht,MapKept.run_getObj_map h1,hc,hf2,MapKept.run_setObj_map _ h1]
  ·have : i < E.size := by simpa using (by rw [← hlen] at hi; exact hi : i < E.toList.length)
   rw [Array.eraseIdxIfInBounds,dif_pos this]
   simp only [Array.toList_eraseIdx,erase_map,h3]
def owm (v:Value) (m:MapS β):Ch where
 pr F h:=∃ r,v=.map (some r)∧F r∧mapAt h r m
 loc:=λF h h' ⟨r,hv,hF,E,c,es,h1,h2⟩ hh=>⟨r,hv,hF,E,c,es,(hh r hF).trans h1,h2⟩
 mono:=λF F' h ⟨r,hv,h1,h2⟩ hF=>⟨r,hv,hF r h1,h2⟩
theorem own_owm {F:Nat→Prop} {h:Heap} (ho:(owm v m).pr F h):GT.own F h [v] m:=own_map.2 (.inr ho)
theorem owm_own {F:Nat→Prop} {h:Heap} (ho:GT.own F h [.map (some r)] m):(owm (.map (some r)) m).pr F h:=⟨r,rfl,mapS_at ho⟩
theorem Mem.owm_ow (hm:Mem w0 hz w L) (k:Nat) (hk:L[k]?=some (owm v m)):Mem w0 hz w (L.set k (ow [v] m)):=hm.imp k hk λ_ h=>own_owm h
theorem Mem.owm_rep (hm:Mem w0 hz w L) (k:Nat) (hk:L[k]?=some (owm v m)):GT.rep (hp w) [v] m:=by
 obtain ⟨F,hF,_⟩:=hm.get k hk
 exact GT.own_rep (own_owm hF)
theorem owm_form (hm:Mem w0 hz w L) (k:Nat) (hk:L[k]?=some (owm v m)):∃ r,v=.map (some r):=by
 obtain ⟨F,⟨r,h,_⟩,_⟩:=hm.get k hk
 exact ⟨r,h⟩
theorem set_set {α:Type} (l:List α) (k:Nat) (x y:α):(l.set k x).set k y=l.set k y:=by simp
theorem e_mkM (hm:Mem w0 hz w L) (ho:o.op=.makeMap t none):Ef P a w o (λv w'=>Mem w0 hz w' (owm v (MapS.mk0:MapS β)::L)):=λK Q hk =>
 e_mkS (β:=β) hm ho K Q λv w' ⟨r,hv,hm'⟩=>hk v w' (by subst hv;exact hm'.imp 0 rfl λ_ h=>owm_own h)
theorem e_insM {key : Int} {u : β} {b : Bool} (k : Nat) (hK : P.underlying kt = some (.int .i64)) (ht : P.underlying t = some (.map kt vt)) (hf : Fr n l a) (hm : Mem w0 hz w L) (hk : L[k]? = some (owm v m)) (ho : o.op = if b then .insert t x y z else .mapUpdate t x y z)
  (hx:ev l x=some v) (hy:ev l y=some (.int .i64 key)) (hv:ev l z=some (MV.venc u)):Ef P a w o (λ_ w'=>Mem w0 hz w' (L.set k (owm v (m.ins key u)))):=by
 obtain ⟨r,rfl⟩:=owm_form hm k hk
 have hlt:=(lgE.1 hk).1
 have hk':(L.set k (ow [.map (some r)] m))[k]?=some (ow [.map (some r)] m):=List.getElem?_set_self hlt
 intro K Q hkk
 refine e_insS (u:=u) k hK ht hf (hm.owm_ow k hk) hk' ho hx hy hv K Q λv' w' h=>hkk v' w' ?_
 rw [set_set] at h
 have:=h.imp (c':=owm (.map (some r)) (m.ins key u)) k (List.getElem?_set_self hlt) λ_ h=>owm_own h
 rwa [set_set] at this
theorem e_delM {key : Int} (k : Nat) (hK : P.underlying kt = some (.int .i64)) (ht : P.underlying t = some (.map kt vt)) (hf : Fr n l a) (hm : Mem w0 hz w L) (hk : L[k]? = some (owm v m)) {ts : Array TypeId} (hts : ts[0]? = some t)
  (ho:o.op=.call { callee:=.builtin .delete,args:=#[x,y],argTypes:=ts }) (hx:ev l x=some v) (hy:ev l y=some (.int .i64 key)):Ef P a w o (λ_ w'=>Mem w0 hz w' (L.set k (owm v (m.del key)))):=by
 obtain ⟨r,rfl⟩:=owm_form hm k hk
 have hlt:=(lgE.1 hk).1
 have hk':(L.set k (ow [.map (some r)] m))[k]?=some (ow [.map (some r)] m):=List.getElem?_set_self hlt
 intro K Q hkk
 refine e_delS k hK ht hf (hm.owm_ow k hk) hk' hts ho hx hy K Q λv' w' h=>hkk v' w' ?_
 rw [set_set] at h
 have:=h.imp (c':=owm (.map (some r)) (m.del key)) k (List.getElem?_set_self hlt) λ_ h=>owm_own h
 rwa [set_set] at this
end
end Go.Wk
namespace Go.Wk
open Go Go.RowKit
def oc (b:Nat) (o:Obj):Ch where
 pr F h:=F b∧h b=some o
 loc _ _ _ hp hh:=⟨hp.1,(hh b hp.1).trans hp.2⟩
 mono _ _ _ hp hF:=⟨hF b hp.1,hp.2⟩
section
variable {α S:Type}
def rangeM (body : α → S → Option S) : List α → S → Option S
 | [],s=>some s
 | p::es,s=>Option.bind (body p s) (rangeM body es)
def Comm (body:α→S→Option S):Prop:=∀ p q s,Option.bind (body p s) (body q)=Option.bind (body q s) (body p)
theorem rangeM_perm {body:α→S→Option S} (hc:Comm body) {es es':List α} (hp:es.Perm es'):∀ s,rangeM body es s=rangeM body es' s:=by
 induction hp with
 | nil=>intro s;rfl
 | cons x _ ih=>intro s;simp only [rangeM];congr 1;funext t;exact ih t
 | swap x y l =>
  intro s
  simp only [rangeM]
  have:=hc y x s
  have e1:∀ (o:Option S) (f:S→Option S) (g:S→Option S),Option.bind o (λt=>Option.bind (f t) g)=Option.bind (Option.bind o f) g:=λo f g=>by cases o<;>rfl
  show Option.bind (body y s) (λt=>Option.bind (body x t) (rangeM body l))=Option.bind (body x s) (λt=>Option.bind (body y t) (rangeM body l))
  rw [e1,e1,this]
 | trans _ _ ih1 ih2=>intro s;exact (ih1 s).trans (ih2 s)
theorem rangeM_append {body : α → S → Option S} : ∀ (es fs : List α) (s : S), rangeM body (es ++ fs) s = Option.bind (rangeM body es s) (rangeM body fs)
 | [],fs,s=>rfl
 | p::es,fs,s=>by
  simp only [List.cons_append,rangeM]
  cases body p s with
  | none=>rfl
  | some t=>exact rangeM_append es fs t
end
theorem left_push (E:Array MapEntry) (seen:Array Nat) (b:Nat):(leftOf E (seen.push b)).toList=((leftOf E seen).toList).filter (λx=>x.born != b):=by
 unfold leftOf
 simp only [Array.toList_filter,List.filter_filter]
 apply List.filter_congr
 intro x _
 rw [Bool.eq_iff_iff]
 simp
 exact And.comm
theorem born_perm {e : MapEntry} : ∀ {l : List MapEntry}, (l.map (·.born)).Nodup → e ∈ l → l.Perm (e :: l.filter (fun x => x.born != e.born))
 | [],_,h=>by simp at h
 | x::l,hn,h=>by
  rw [List.map_cons,List.nodup_cons] at hn
  rcases List.mem_cons.1 h with rfl | h
  ·have:l.filter (λx=>x.born != e.born)=l:=List.filter_eq_self.2 λy hy=>by
    have:y.born≠e.born:=λh'=>hn.1 (List.mem_map.2 ⟨y,hy,h'⟩)
    simpa using this
   simp [this]
  ·have hne : x.born ≠ e.born := fun h' => hn.1 (List.mem_map.2 ⟨e, h, h'.symm⟩)
   rw [List.filter_cons,if_pos (by simpa using hne)]
   exact ((born_perm hn.2 h).cons x).trans (List.Perm.swap _ _ _)
section
variable {β S:Type} [MV β]
noncomputable def dec (e:MapEntry) (z:Int × β):Int × β:=by
 classical exact if h:∃ p:Int × β,(e.key,e.val)=(Value.int .i64 p.1,MV.venc p.2) then h.choose else z
theorem dec_eq {e:MapEntry} {z p:Int × β} (h:(e.key,e.val)=(Value.int .i64 p.1,MV.venc p.2)):dec e z=p:=by
 have hex:∃ p:Int × β,(e.key,e.val)=(Value.int .i64 p.1,MV.venc p.2):=⟨p,h⟩
 unfold dec
 rw [dif_pos hex]
 have h2:=h.symm.trans hex.choose_spec
 generalize hex.choose=q at h2 ⊢
 simp only [Prod.mk.injEq,Value.int.injEq,true_and] at h2
 exact Prod.ext h2.1.symm (MV.inj _ _ h2.2.symm)
theorem wp_range {P : Program} {c : Code} {Q : Exit → Act → World → Prop} {a : Act} {w : World} (body : Int × β → S → Option S) (hcomm : Comm body) {m : MapS β} {E : Array MapEntry} {clock : Nat} {es : List (Int × β)}
  (hst:MapKept.Stamped E clock) (hE:E.toList.map (λe=>(e.key,e.val))=es.map (λp=>(Value.int .i64 p.1,MV.venc p.2))) (hes:es.Perm m.es) (J:Array Nat→S→Act→World→Prop) {s0 r:S}
  (hx:rangeM body m.es s0=some r) (h0:J #[] s0 a w)
  (hr : ∀ seen s a w, J seen s a w → (leftOf E seen).size ≠ 0 → (∀ e ∈ (leftOf E seen).toList, ∃ p s', (e.key, e.val) = (Value.int .i64 p.1, MV.venc p.2) ∧ body p s = some s') →
   c.wk P (Exit.then (λa' w'=>∃ e∈(leftOf E seen).toList,∃ p s',(e.key,e.val)=(Value.int .i64 p.1,MV.venc p.2)∧body p s=some s'∧J (seen.push e.born) s' a' w') Q) a w)
  (he:∀ seen a w,J seen r a w→(leftOf E seen).size=0→c.wk P (Exit.then (λ_ _=>False) Q) a w):(Code.loop c).wk P Q a w:=by
 have hmem:∀ e∈E.toList,∃ p:Int × β,(e.key,e.val)=(Value.int .i64 p.1,MV.venc p.2):=λe h=>by
  have h1:(e.key,e.val)∈es.map (λp=>(Value.int .i64 p.1,MV.venc p.2)):=by rw [← hE];exact List.mem_map.2 ⟨e,h,rfl⟩
  obtain ⟨p,_,h2⟩:=List.mem_map.1 h1
  exact ⟨p,h2.symm⟩
 rcases Nat.eq_zero_or_pos E.size with hz | hz
 ·have hE0 : E = #[] := Array.eq_empty_of_size_eq_zero hz
  subst hE0
  have:es=[]:=by simpa using hE.symm
  subst this
  have hm0:m.es=[]:=List.nil_perm.1 hes
  rw [hm0] at hx
  simp only [rangeM,osI] at hx
  subst hx
  refine wp_forN (S:=Unit) (X:=Empty) (λ_ _=>some (.inl ())) (λ_ _ a w=>J #[] s0 a w) 0 0 (s0:=()) (r:=.inl ()) rfl h0 (λ_ _ _ _ _ h1 h2=>by omega) (λ_ _ a w hJ _ _ _=>he #[] a w hJ (by simp [leftOf]))
 ·obtain ⟨e0, hl0⟩ : ∃ e, e ∈ E.toList := ⟨E[0], by simp⟩
  obtain ⟨z,_⟩:=hmem e0 hl0
  have hes':E.toList.map (λe=>dec e z)=es:=by
   have h1:∀ (l:List MapEntry) (fs:List (Int × β)),l.map (λe=>(e.key,e.val))=fs.map (λp=>(Value.int .i64 p.1,MV.venc p.2))→l.map (λe=>dec e z)=fs:=by
    intro l
    induction l with
    | nil=>intro fs h;simpa using h.symm
    | cons e l ih =>
     intro fs h
     cases fs with
     | nil=>simp at h
     | cons p fs =>
      rw [List.map_cons,List.map_cons,List.cons.injEq] at h
      rw [List.map_cons,dec_eq h.1,ih fs h.2]
   exact h1 _ _ hE
  have hfor:∀ k (i:Int),forN (S:=Unit) (X:=Empty) (λ_ _=>some (.inl ())) k i ()=some (.inl ()):=by
   intro k
   induction k with
   | zero=>intro i;rfl
   | succ k ih=>intro i;simp only [forN];exact ih _
  have hleft:∀ (seen:Array Nat) e,e∈(leftOf E seen).toList→e∈E.toList:=λseen e h=>(mem_left h).1
  have hnd:∀ seen:Array Nat,((leftOf E seen).toList.map (·.born)).Nodup:=λseen=>by
   unfold leftOf
   rw [Array.toList_filter]
   exact (List.filter_sublist.map _).nodup hst.2.1
  refine wp_forN (S:=Unit) (X:=Empty) (λ_ _=>some (.inl ())) (λi _ a w=>∃ seen s,J seen s a w∧∃ dn:List (Int × β),(dn.length:Int)=i∧rangeM body dn s0=some s∧(dn++(leftOf E seen).toList.map (λe=>dec e z)).Perm m.es) 0 (E.size:Int) (s0:=()) (r:=.inl ()) (hfor _ _) ?_ ?_ ?_
  ·refine ⟨#[], s0, h0, [], rfl, rfl, ?_⟩
   have:(leftOf E #[]).toList=E.toList:=by unfold leftOf;rw [Array.toList_filter];exact List.filter_eq_self.2 λx _=>by simp
   rw [List.nil_append,this,hes']
   exact hes
  ·rintro i _ a w ⟨seen, s, hJ, dn, h1, h2, h3⟩ hi0 hi1 q hq _
   cases hq
   have hlen:=h3.length_eq
   rw [← hes.length_eq,← hes'] at hlen
   simp at hlen
   have hne:(leftOf E seen).size≠0:=by omega
   have hall:∀ e∈(leftOf E seen).toList,∃ p s',(e.key,e.val)=(Value.int .i64 p.1,MV.venc p.2)∧body p s=some s':=λe hle=>by
    obtain ⟨p,hp⟩:=hmem e (hleft _ _ hle)
    have hp1:=born_perm (hnd seen) hle
    have hp2:(dn++(p::((leftOf E seen).toList.filter (λx=>x.born != e.born)).map (λe=>dec e z))).Perm m.es:=by
     refine List.Perm.trans (List.Perm.append_left _ ?_) h3
     have:=(hp1.map (λe=>dec e z)).symm
     rw [List.map_cons,dec_eq hp] at this
     exact this
    have hx2:rangeM body (dn++(p::((leftOf E seen).toList.filter (λx=>x.born != e.born)).map (λe=>dec e z))) s0=some r:=by rw [rangeM_perm hcomm hp2];exact hx
    rw [rangeM_append,h2,obS] at hx2
    simp only [rangeM] at hx2
    cases hb:body p s with
    | none=>rw [hb] at hx2;cases hx2
    | some s'=>exact ⟨p,s',hp,hb⟩
   refine Code.wk_mono (λex a' w' h=>?_) (hr seen s a w hJ hne hall)
   cases ex with
   | normal =>
    obtain ⟨e,hle,p,s',hp,hb,hJ'⟩:=h
    refine ⟨(),rfl,seen.push e.born,s',hJ',dn++[p],by simp;omega,by rw [rangeM_append,h2,obS];simp [rangeM,hb],?_⟩
    rw [left_push,List.append_assoc]
    refine List.Perm.trans (List.Perm.append_left _ ?_) h3
    have:=((born_perm (hnd seen) hle).map (λe=>dec e z)).symm
    rw [List.map_cons,dec_eq hp] at this
    exact this
   | _=>exact h
  ·rintro i _ a w ⟨seen, s, hJ, dn, h1, h2, h3⟩ hi0 hi1 _
   have hlen:=h3.length_eq
   rw [← hes.length_eq,← hes'] at hlen
   simp at hlen
   have hne:(leftOf E seen).size=0:=by omega
   have hl:(leftOf E seen).toList=[]:=by simpa using Array.eq_empty_of_size_eq_zero hne
   rw [hl,List.map_nil,List.append_nil] at h3
   have:s=r:=by
    rw [rangeM_perm hcomm h3,hx] at h2
    exact (Option.some.inj h2).symm
   subst this
   exact he seen a w hJ hne
end
section
variable {β S:Type} [MV β] {P:Program} {ops:Array Oper} {a:Act} {w w0:World} {hz:Heap} {L:List Ch} {o:Oper} {n d:Nat} {l:Env} {x:Operand} {t kt vt ty:TypeId} {v:Value} {m:MapS β} {b:Nat} {seen:Array Nat}
def itc (hz:Heap) (v:Value) (b:Nat) (seen:Array Nat):Ch where
 pr F h:=F b∧((v=.map none∧h b=some (.mapIter none 0 seen 0))∨∃ r E clock,v=.map (some r)∧hz r=some (.map E clock)∧h b=some (.mapIter (some r) clock seen clock))
 loc F h h' hp hh:=⟨hp.1,by rw [hh b hp.1];exact hp.2⟩
 mono F F' h hp hF:=⟨hF b hp.1,hp.2⟩
theorem e_rangeS (hf : Fr n l a) (hm : Mem w0 hz w L) (ht : P.underlying t = some (.map kt vt)) (hr : GT.rep hz [v] m) (ho : o.op = .range t x) (hx : ev l x = some v) :
  Ef P a w o (λv' w'=>∃ b,v'=.pointer (some ⟨b,0,none⟩)∧Mem w0 hz w' (itc hz v b #[]::L)):=by
 rcases rep_map.1 hr with ⟨rfl,he⟩ | ⟨r,rfl,E,clock,es,h1,h2,h3,h4⟩
 ·refine ef_value (w' := w.alloc (.mapIter none 0 #[] 0)) (v := .pointer (some ⟨w.heap.size, 0, none⟩)) ?_ ⟨_, rfl, hm.more ⟨rfl, rfl, rfl, by simp⟩ (fun b hb => Below.heap_alloc w _ b hb) ⟨fun b => b = w.heap.size, fun b hb => by subst hb; simp, rfl, .inl ⟨rfl, heap_alloc_new w _⟩⟩⟩
  simp [execOp,ho,hf.eval hx,Instr.range,run_underlying ht]
 ·refine ef_value (w' := w.alloc (.mapIter (some r) clock #[] clock)) (v := .pointer (some ⟨w.heap.size, 0, none⟩)) ?_ ⟨_, rfl, hm.more ⟨rfl, rfl, rfl, by simp⟩ (fun b hb => Below.heap_alloc w _ b hb) ⟨fun b => b = w.heap.size, fun b hb => by subst hb; simp, rfl, .inr ⟨r, E, clock, rfl, h1, heap_alloc_new w _⟩⟩⟩
  have hb:w.heap[r]?=some (.map E clock):=hm.lez _ _ h1
  simp [execOp,ho,hf.eval hx,Instr.range,run_underlying ht,MapKept.run_getObj_map hb]
def More (hz:Heap) (v:Value) (seen:Array Nat) (body:Int × β→S→Option S) (s:S):Prop :=
 ∃ r E clock,v=.map (some r)∧hz r=some (.map E clock)∧MapKept.Stamped E clock∧(leftOf E seen).size≠0∧∀ e∈(leftOf E seen).toList,∃ p s',(e.key,e.val)=(Value.int .i64 p.1,MV.venc p.2)∧body p s=some s'
def NoMore (hz:Heap) (v:Value) (seen:Array Nat):Prop :=
 v=.map none∨∃ r E clock,v=.map (some r)∧hz r=some (.map E clock)∧MapKept.Stamped E clock∧(leftOf E seen).size=0
def Got (hz:Heap) (v:Value) (seen:Array Nat) (bn:Nat) (p:Int × β):Prop :=
 ∃ r E clock e,v=.map (some r)∧hz r=some (.map E clock)∧MapKept.Stamped E clock∧e∈(leftOf E seen).toList∧bn=e.born∧(e.key,e.val)=(Value.int .i64 p.1,MV.venc p.2)
def Rnd (hz:Heap) (v:Value) (seen:Array Nat) (body:Int × β→S→Option S) (s:S) (J:Array Nat→S→Act→World→Prop) (a:Act) (w:World):Prop :=
 ∃ bn p s',Got hz v seen bn p∧body p s=some s'∧J (seen.push bn) s' a w
theorem itc_at (hm:Mem w0 hz w L) (q:Nat) (hq:L[q]?=some (itc hz v b seen)):(v=.map none∧w.heap[b]?=some (.mapIter none 0 seen 0))∨∃ r E clock,v=.map (some r)∧hz r=some (.map E clock)∧w.heap[r]?=some (.map E clock)∧w.heap[b]?=some (.mapIter (some r) clock seen clock):=by
 obtain ⟨F,hF,_⟩:=hm.get q hq
 rcases hF.2 with h | ⟨r,E,clock,h1,h2,h3⟩
 ·exact .inl h
 ·exact .inr ⟨r,E,clock,h1,h2,hm.lez _ _ h2,h3⟩
theorem e_nextS {body : Int × β → S → Option S} {s : S} (q : Nat) (hf : Fr n l a) (hm : Mem w0 hz w L) (hq : L[q]? = some (itc hz v b seen)) (hmo : More hz v seen body s) (ho : o.op = .next x false) (hx : ev l x = some (.pointer (some ⟨b, 0, none⟩))) :
  Ef P a w o (λv' w'=>∃ bn p s',v'=.tuple #[.bool true,.int .i64 p.1,MV.venc p.2]∧body p s=some s'∧Got hz v seen bn p∧Mem w0 hz w' (L.set q (itc hz v b (seen.push bn)))):=by
 obtain ⟨r,E,clock,rfl,h1,h2,h3,h4⟩:=hmo
 rcases itc_at hm q hq with ⟨e,_⟩ | ⟨r',E',clock',e,g1,g2,g3⟩
 ·cases e
 cases e
 rw [h1] at g1
 cases g1
 rcases run_next_at (P:=P) w o.type b r clock clock seen E clock g3 g2 h2.1 (Nat.le_refl _) with ⟨h0,_⟩ | ⟨e,he,w1,hw1,hrun⟩
 ·exact absurd h0 h3
 obtain ⟨p,s',hp,hb⟩:=h4 e he
 have hpk:e.key=.int .i64 p.1:=congrArg Prod.fst hp
 have hpv:e.val=MV.venc p.2:=congrArg Prod.snd hp
 refine ef_value (v:=.tuple #[.bool true,e.key,e.val]) (w':=ChangeMaps.setBlock w1 b (.mapIter (some r) clock (seen.push e.born) clock)) (by simp [execOp,ho,hf.eval hx,hrun]) ⟨e.born,p,s',by rw [hpk,hpv],hb,⟨r,E,clock,e,rfl,h1,h2,he,rfl,hp⟩,?_⟩
 have hlt:=(Array.getElem?_eq_some_iff.1 g3).1
 have hheap:w1.heap=w.heap:=by rcases hw1 with rfl | rfl<;>rfl
 have hsame:Same w (ChangeMaps.setBlock w1 b (.mapIter (some r) clock (seen.push e.born) clock)) :=
  ⟨by rcases hw1 with h | h<;>rw [h]<;>rfl,by rcases hw1 with h | h<;>rw [h]<;>rfl,by rcases hw1 with h | h<;>rw [h]<;>rfl,by simp [ChangeMaps.setBlock,hheap]⟩
 refine hm.upd q hq hsame λF hF hFw=>⟨F,λ_ h=>.inl h,λc hc=>by have:=hFw c hc;simpa [ChangeMaps.setBlock,hheap] using this,⟨hF.1,.inr ⟨r,E,clock,rfl,h1,?_⟩⟩,λc _ hne=>?_⟩
 ·simp [hp,ChangeMaps.setBlock,hheap,hlt,Go.Wk.hp]
 ·have : b ≠ c := fun e => hne (by subst e; exact hF.1)
  simp [ChangeMaps.setBlock,hheap,Array.getElem?_setIfInBounds,this]
theorem y_nextE (q:Nat) (hm:Mem w0 hz w L) (hq:L[q]?=some (itc hz v b seen)) (hno:NoMore hz v seen) (ho:o.op=.next x false) (hx:ev l x=some (.pointer (some ⟨b,0,none⟩))):Yl P l w o (.tuple #[.bool false]):=λn a hf=>by
 rcases itc_at hm q hq with ⟨e,g1⟩ | ⟨r',E',clock',e,g1,g2,g3⟩
 ·have:(Instr.next (.pointer (some ⟨b,0,none⟩)) false o.type).run P w=.ok (.tuple #[.bool false]) w:=by
   simp [Instr.next,getObj,Sem.run_bind,Sem.run,g1,Result.andThen]
  simp [execOp,ho,hf.eval hx,this]
 ·subst e
  rcases hno with e | ⟨r,E,clock,e,h1,h2,h3⟩
  ·cases e
  cases e
  rw [h1] at g1
  cases g1
  rcases run_next_at (P:=P) w o.type b _ _ _ seen _ _ g3 g2 h2.1 (Nat.le_refl _) with ⟨_,hrun⟩ | ⟨e,he,_⟩
  ·simp [execOp,ho,hf.eval hx,hrun]
  ·have := Array.eq_empty_of_size_eq_zero h3
   rw [this] at he
   simp at he
theorem y_entryS {bn:Nat} {p:Int × β} (q:Nat) (hm:Mem w0 hz w L) (hq:L[q]?=some (itc hz v b (seen.push bn))) (hg:Got hz v seen bn p) (ho:o.op=.entry x) (hx:ev l x=some (.pointer (some ⟨b,0,none⟩))):Yl P l w o (.tuple #[.int .i64 p.1,MV.venc p.2]):=λn a hf=>by
 obtain ⟨r,E,clock,e,rfl,h1,h2,h3,rfl,h4⟩:=hg
 rcases itc_at hm q hq with ⟨e,_⟩ | ⟨r',E',clock',e',g1,g2,g3⟩
 ·cases e
 cases e'
 rw [h1] at g1
 cases g1
 have hpk:e.key=.int .i64 p.1:=congrArg Prod.fst h4
 have hpv:e.val=MV.venc p.2:=congrArg Prod.snd h4
 have:=run_entry_at (P:=P) w b r clock seen E clock e g3 g2 (mem_left h3).1 h2.2.1
 simp [execOp,ho,hf.eval hx,this,hpk,hpv]
variable {ρ:Type} {c:Code} {Q:Exit→Act→World→Prop} {r:ρ} {s0:S}
theorem gRng {kk : S → Option ρ} {body : Int × β → S → Option S} (hcomm : Comm body) (hrep : GT.rep hz [v] m) (J : Array Nat → S → Act → World → Prop) (h0 : ∀ a, Fr n l a → J #[] s0 a w)
  (hr:∀ seen s a w,J seen s a w→More hz v seen body s→c.wk P (Then (Rnd hz v seen body s J) Q) a w)
  (he:∀ seen s a w,J seen s a w→NoMore hz v seen→kk s=some r→c.wk P (Then (λ_ _=>False) Q) a w):G (Option.bind (rangeM body m.es s0) kk) r n l ((Code.loop c).wk P Q) w:=λhq a hf=>by
 obtain ⟨s1,hx,hk⟩:=bnd hq
 rcases rep_map.1 hrep with ⟨rfl,hnil⟩ | ⟨rr,rfl,E,clock,es,h1,h2,h3,h4⟩
 ·rw [hnil] at hx
  simp only [rangeM,osI] at hx
  subst hx
  refine wp_forN (S:=Unit) (X:=Empty) (λ_ _=>some (.inl ())) (λ_ _ a w=>J #[] s0 a w) 0 0 (s0:=()) (r:=.inl ()) rfl (h0 a hf) (λ_ _ _ _ _ h1 h2=>by omega) (λ_ _ a w hJ _ _ _=>Code.wk_mono then_of (he #[] s0 a w hJ (.inl rfl) hk))
 ·refine wp_range body hcomm h2 h3 h4 J hx (h0 a hf) (fun seen s a w hJ hne hall => ?_) (fun seen a w hJ hz0 => Code.wk_mono then_of (he seen s1 a w hJ (.inr ⟨rr, E, clock, rfl, h1, h2, hz0⟩) hk))
  refine Code.wk_mono (λe a' w' h=>?_) (hr seen s a w hJ ⟨rr,E,clock,rfl,h1,h2,hne,hall⟩)
  cases e with
  | normal =>
   obtain ⟨bn,p,s',⟨r2,E2,c2,e2,q1,q2,q3,q4,rfl,q6⟩,hb,hJ'⟩:=h
   cases q1
   rw [h1] at q2
   cases q2
   exact ⟨e2,q4,p,s',q6,hb,hJ'⟩
  | _=>exact h
theorem gSw {σ τ:Type} {m':Option σ} {s':σ} {mm:Option τ} {rr:τ} {φ:Act→World→Prop} (h:m'=some s') (k:G m' s' n l φ w):G mm rr n l φ w:=λ_ a hf=>k h a hf
theorem gZr {body:Int × β→S→Option S} {s s2 s':S} {bn:Nat} {p:Int × β} {J:Array Nat→S→Act→World→Prop} (hg:Got hz v seen bn p) (hb:body p s=some s') (k:∀ a,Fr n l a→J (seen.push bn) s2 a w):G (some s2) s' n l (Rnd hz v seen body s J) w:=λe a hf=>by
 cases e
 exact ⟨bn,p,s2,hg,hb,k a hf⟩
theorem y_field1 {q e:Nat} {fs:Array Field} {f:Field} {cs:Array Value} {u:Value} (ht:P.underlying t=some (.struct fs)) (hq:fs[q]?=some f) (he:f.type=e) (ha:∀ w,(isAgg e).run P w=.ok false w) (ho:o.op=.field t x q) (hx:ev l x=some (.agg cs)) (hv:cs[f.offset]?=some u):Yl P l w o u:=λn a hf=>by
 subst he
 simp [execOp,ho,hf.eval hx,Instr.field,run_underlying ht,hq,asAgg,part,ha,hv]
theorem ins_comm {β:Type} (m:MapS β) (a b:Int) (u:β):(m.ins a u).ins b u=(m.ins b u).ins a u:=by
 have key:∀ (m1 m2:MapS β),m1.es.Perm m2.es→m1=m2:=λm1 m2 h=>by
  have:m1.es=m2.es:=by
   have h1:=m1.so;have h2:=m2.so
   refine List.Perm.eq_of_pairwise (le:=λa b=>a.1<b.1) (λx y _ _ h3 h4=>by omega) h1 h2 h
  cases m1;cases m2;simp at this;subst this;rfl
 by_cases e:a=b
 ·subst e;rfl
 refine key _ _ ?_
 have p1:=λ(m:MapS β) (k:Int)=>(m.ins_perm k u).symm
 refine (p1 (m.ins a u) b).trans (List.Perm.trans ?_ (p1 (m.ins b u) a).symm)
 have q1:=((p1 m a).filter (λp=>decide (p.1≠b))).cons (b,u)
 have q2:=((p1 m b).filter (λp=>decide (p.1≠a))).cons (a,u)
 refine q1.trans (List.Perm.trans ?_ q2.symm)
 have ha:decide ((a,u).1≠b)=true:=by simpa using e
 have hb:decide ((b,u).1≠a)=true:=by simpa using Ne.symm e
 rw [List.filter_cons,if_pos ha,List.filter_cons,if_pos hb,List.filter_filter,List.filter_filter]
 have:(λp:Int × β=>decide (p.1≠b)&&decide (p.1≠a))=λp=>decide (p.1≠a)&&decide (p.1≠b):=by funext p;exact Bool.and_comm _ _
 rw [this]
 exact List.Perm.swap _ _ _
theorem comm_ins {β γ:Type} {u:γ}:Comm (λ(p:Int × β) (s:MapS γ)=>some (s.ins p.1 u)):=λp q s=>by
 show some ((s.ins p.1 u).ins q.1 u)=some ((s.ins q.1 u).ins p.1 u)
 rw [ins_comm]
end
end Go.Wk
namespace Go.Wk
open Go Go.RowKit Go.Shelf
def sortI (xs:List Int):List Int:=xs.mergeSort λx y=>decide (x≤y)
theorem sortI_len (xs:List Int):(sortI xs).length=xs.length:=List.length_mergeSort xs
section
variable {P:Program} {ρ:Ren} {w0:World} {hz:Heap} {v:Value} {xs:List Int}
theorem getB {xs:List Int} {j:Nat} (h:j<xs.length):xs.toArray[j]! = xs[j]:=by
 rw [getElem!_pos _ _ (by simpa using h)];simp
theorem row_new {w : World} {L : List Ch} {b off cap n : Nat} {os : Array Obj} {ys zs : List Int} {pre : Nat} (hm : Mem w0 hz w L) (k : Nat) (hk : L[k]? = some (ow [.slice (some ⟨b, off, none⟩) xs.length cap] xs)) (hz1 : zs.length = xs.length) (hy : ys <+: zs) :
  Mem w0 hz (Sort.grow (Sort.putRow (Value.int .i64) (Sort.ahead w n) b off zs.toArray) os) (L.set k (ow [.slice (some ⟨b,off,none⟩) ys.length cap] ys)):=by
 obtain ⟨F,hF,hFw⟩:=hm.get k hk
 have hF':sliceOwn F (hp w) (.slice (some ⟨b,off,none⟩) xs.length cap) xs:=own_list.1 hF
 rcases hF' with ⟨e,_⟩ | ⟨b',off',len',cap',C,T,e,hFb,hb,hl,hc,hmx,hsz,fps,g1,g2,g3⟩
 ·cases e
 cases e
 have hyl:=hy.length_le
 have hsz':off+cap≤C.size:=by simpa [show GT.sz Int=1 from rfl] using hsz
 have hbw:w.heap[b]?=some (.cells C T (0,0)):=hb
 have hlt:=(Array.getElem?_eq_some_iff.1 hbw).1
 have hnew:(Sort.grow (Sort.putRow (Value.int .i64) (Sort.ahead w n) b off zs.toArray) os).heap[b]?=some (.cells (Sort.putCells (Value.int .i64) off zs.toArray C) T (0,0)):=by
  rw [Sort.heap_grow_old _ _ (by simpa [Sort.ahead] using hlt)]
  simp [Sort.putRow,Sort.mapBlock,Sort.ahead,Array.getElem?_modify,hbw,Sort.onCells]
 have hCs:(Sort.putCells (Value.int .i64) off zs.toArray C).size=C.size:=by simp [Sort.putCells]
 have hF2b:∀ F2,(ow [.slice (some ⟨b,off,none⟩) xs.length cap] xs).pr F2 (hp w)→F2 b:=λF2 hF2=>by
  have hF2':sliceOwn F2 (hp w) (.slice (some ⟨b,off,none⟩) xs.length cap) xs:=own_list.1 hF2
  rcases hF2' with ⟨e,_⟩ | ⟨b2,off2,len2,cap2,C2,T2,e,hFb2,_⟩
  ·cases e
  ·cases e;exact hFb2
 refine hm.upd k hk ⟨rfl,rfl,rfl,by simp [Sort.ahead]⟩ λF2 hF2 hFw2=>⟨λc=>c=b,λc hc=>by subst hc;exact .inl (hF2b F2 hF2),λc hc=>by subst hc;simp [Sort.ahead];omega,own_list.2 (.inr ⟨b,off,ys.length,cap,Sort.putCells (Value.int .i64) off zs.toArray C,T,rfl,rfl,hnew,rfl,by omega,⟨hmx.1,by omega⟩,by rw [hCs];exact hsz,λ_ _=>False,λ_ _ h=>h.elim,λ_ _ _ _ h=>h.elim,λi x hx=>?_⟩),λc hc hne=>?_⟩
 ·have hi : i < ys.length := (lgE.1 hx).1
  have hx2:zs[i]?=some x:=by
   obtain ⟨t,rfl⟩:=hy
   rw [List.getElem?_append_left hi];exact hx
  have hi2:i<zs.length:=by omega
  have hx':zs[i]=x:=(lgE.1 hx2).2
  refine Flat.own_iff.2 ?_
  show seg _ (off+i*1) 1=[.int .i64 x]
  have hc1:(Sort.putCells (Value.int .i64) off zs.toArray C)[off+i]?=some (.int .i64 x):=by
   simp only [Sort.putCells,Array.getElem?_mapIdx]
   have:off+i<C.size:=by omega
   rw [Array.getElem?_eq_getElem this,Option.map_some,if_pos ⟨by omega,by simp;omega⟩,show off+i - off=i by omega,getB hi2,hx']
  have hls:(seg (Sort.putCells (Value.int .i64) off zs.toArray C) (off+i*1) 1).length=1:=seg_len (by rw [hCs];omega)
  apply List.ext_getElem?
  intro j
  cases j with
  | zero =>
   have h5:hp (Sort.grow (Sort.putRow (Value.int .i64) (Sort.ahead w n) b off zs.toArray) os) b=some (.cells (Sort.putCells (Value.int .i64) off zs.toArray C) T (0,0)):=hnew
   obtain ⟨C',T',fz',e1,e2⟩:=cellsAt_seg (o:=off+i*1) (n:=1) h5
   have e3:=e2 0 _ (List.getElem?_eq_getElem (by omega))
   rw [h5] at e1
   cases e1
   rw [List.getElem?_eq_getElem (by omega)]
   rw [show off+i*1+0=off+i by omega,hc1] at e3
   simpa using e3.symm
  | succ j=>rw [List.getElem?_eq_none (by omega),List.getElem?_eq_none (by simp)]
 ·have hcb : b ≠ c := fun e => hne (by subst e; exact hF2b F2 hF2)
  rw [Sort.heap_grow_old _ _ (by simpa [Sort.ahead] using hc)]
  simp [Sort.putRow,Sort.mapBlock,Sort.ahead,Array.getElem?_modify,hcb]
theorem row_holds {w:World} {L:List Ch} {b off cap:Nat} (hm:Mem w0 hz w L) (k:Nat) (hk:L[k]?=some (ow [.slice (some ⟨b,off,none⟩) xs.length cap] xs)):Sort.Holds (Value.int .i64) w b off xs.toArray∧b<w.heap.size∧xs.length≤cap∧xs.length≤140737488355328:=by
 obtain ⟨F,hF,hFw⟩:=hm.get k hk
 have hF':sliceOwn F (hp w) (.slice (some ⟨b,off,none⟩) xs.length cap) xs:=own_list.1 hF
 rcases hF' with ⟨e,_⟩ | ⟨b',off',len',cap',C,T,e,hFb,hb,hl,hc,hmx,hsz,fps,g1,g2,g3⟩
 ·cases e
 cases e
 have hbw:w.heap[b]?=some (.cells C T (0,0)):=hb
 refine ⟨λj hj=>?_,(Array.getElem?_eq_some_iff.1 hbw).1,hc,hmx.2⟩
 have hj':j<xs.length:=by simpa using hj
 have h1:=g3 j xs[j] (List.getElem?_eq_getElem hj')
 have h2:seg C (off+j*1) 1=[.int .i64 xs[j]]:=Flat.own_iff.1 h1
 have h3:(seg C (off+j*1) 1)[0]?=some (.int .i64 xs[j]):=by rw [h2];rfl
 obtain ⟨C',T',fz',e1,e2⟩:=cellsAt_seg (o:=off+j*1) (n:=1) hb
 rw [hb] at e1
 cases e1
 have:=e2 0 _ h3
 rw [getB hj']
 have h4:C[off+j]?=some (.int .i64 xs[j]):=by simpa using this
 exact ⟨by simp [World.cell?,hbw,h4],by simp [World.frozen?,hbw]⟩
theorem own_form {w:World} {L:List Ch} (hm:Mem w0 hz w L) (k:Nat) (hk:L[k]?=some (ow [v] xs)):(v=.slice none 0 0∧xs=[])∨∃ b off cap,v=.slice (some ⟨b,off,none⟩) xs.length cap:=by
 obtain ⟨F,hF,hFw⟩:=hm.get k hk
 have hF':sliceOwn F (hp w) v xs:=own_list.1 hF
 rcases hF' with h | ⟨b,off,len,cap,C,T,rfl,hFb,hb,hl,_⟩
 ·exact .inl h
 ·exact .inr ⟨b,off,cap,by rw [hl]⟩
theorem set_sameL {α:Type} {l:List α} {k:Nat} {x:α} (h:l[k]?=some x):l.set k x=l:=by
 obtain ⟨h1,h2⟩:=lgE.1 h
 rw [← h2];exact List.set_getElem_self h1
theorem sort_con {w:World} {L:List Ch} (Ly:Go.Proofs.Lays.n189 P ρ) (hm:Mem w0 hz w L) (k:Nat) (hk:L[k]?=some (ow [v] xs)):Con P (ρ.f 189) [v] w λv' w'=>v'=.tuple #[]∧Mem w0 hz w' (L.set k (ow [v] (sortI xs))):=by
 rcases own_form hm k hk with ⟨rfl,rfl⟩ | ⟨b,off,cap,rfl⟩
 ·refine Calls.mono (Go.Proofs.Any.slices_Sort_int_none Ly none 0 w) fun e w' h => ?_
  obtain ⟨rfl,rfl⟩:=h
  exact ⟨rfl,by rw [show sortI []=[] by simp [sortI],set_sameL hk];exact hm⟩
 ·obtain ⟨h1, h2, _, h4⟩ := row_holds hm k hk
  refine Calls.mono (Go.Proofs.Any.slices_Sort_int Ly b off cap xs w h1 h2 (by omega)) λe w' h=>?_
  obtain ⟨rfl,n,os,rfl⟩:=h
  refine ⟨rfl,?_⟩
  have:=row_new (n:=n) (os:=os) (ys:=sortI xs) (zs:=sortI xs) (pre:=0) hm k hk (sortI_len xs) (List.prefix_refl _)
  rw [sortI_len] at this
  exact this
theorem compact_con {w:World} {L:List Ch} (Ly:Go.Proofs.Lays2.n20 P ρ) (hm:Mem w0 hz w L) (k:Nat) (hk:L[k]?=some (ow [v] xs)):Con P (ρ.f 20) [v] w λv' w'=>Mem w0 hz w' (L.set k (ow [v'] (Lib.compact xs))):=by
 rcases own_form hm k hk with ⟨rfl,rfl⟩ | ⟨b,off,cap,rfl⟩
 ·refine Calls.mono (Go.Proofs.Any.slices_Compact_int_empty Ly none 0 w) fun e w' h => ?_
  obtain ⟨rfl,rfl⟩:=h
  show Mem w0 hz w' (L.set k (ow [.slice none 0 0] (Lib.compact [])))
  rw [show Lib.compact ([]:List Int)=[] from rfl,set_sameL hk];exact hm
 ·obtain ⟨h1, h2, h3, h4⟩ := row_holds hm k hk
  have hle:(Lib.compact xs).length≤xs.length:=Lib.compact_length_le xs
  refine Calls.mono (Go.Proofs.Any.slices_Compact_int Ly b off cap xs w h1 (by omega) h3) λe w' h=>?_
  obtain ⟨rfl,n,rfl⟩:=h
  have:=row_new (n:=n) (os:=#[]) (ys:=Lib.compact xs) (zs:=Lib.compact xs++List.replicate (xs.length - (Lib.compact xs).length) 0) (pre:=0) hm k hk (by simp;omega) (List.prefix_append _ _)
  rw [Sort.grow_empty] at this
  exact this
end
end Go.Wk
namespace Go.Wk
open Go Go.RowKit
theorem sortI_perm {xs ys:List Int} (h:xs.Perm ys):sortI xs=sortI ys:=by
 have h1:(sortI xs).Perm (sortI ys):=(List.mergeSort_perm xs _).trans (h.trans (List.mergeSort_perm ys _).symm)
 have tr:∀ a b c:Int,decide (a≤b)=true→decide (b≤c)=true→decide (a≤c)=true:=λa b c h1 h2=>by simp at *;omega
 have tt:∀ a b:Int,(decide (a≤b)||decide (b≤a))=true:=λa b=>by simp;omega
 exact List.Perm.eq_of_pairwise (le:=λa b=>a≤b) (λx y _ _ h3 h4=>by omega) ((List.pairwise_mergeSort tr tt xs).imp λh=>by simpa using h) ((List.pairwise_mergeSort tr tt ys).imp λh=>by simpa using h) h1
theorem sortI_id {xs:List Int} (h:xs.Pairwise (·<·)):sortI xs=xs:=by
 have tr:∀ a b c:Int,decide (a≤b)=true→decide (b≤c)=true→decide (a≤c)=true:=λa b c h1 h2=>by simp at *;omega
 have tt:∀ a b:Int,(decide (a≤b)||decide (b≤a))=true:=λa b=>by simp;omega
 exact List.Perm.eq_of_pairwise (le:=λa b=>a≤b) (λx y _ _ h3 h4=>by omega) ((List.pairwise_mergeSort tr tt xs).imp λh=>by simpa using h) (h.imp λh=>by omega) (List.mergeSort_perm xs _)
theorem appK (xs:List Int) (k:Int):(Option.bind (appM xs ([k]:List Int)) λys=>some ys)=if xs.length+1≤2147483648 then some (xs++[k]) else none:=by
 unfold appM
 by_cases h:xs.length+1≤2147483648<;>simp [h]
theorem rangeM_keys {β : Type} : ∀ (es : List (Int × β)) (xs : List Int), xs.length ≤ 2147483648 → rangeM (fun (p : Int × β) (xs : List Int) => Option.bind (appM xs ([p.1] : List Int)) fun ys => some ys) es xs = appM xs (es.map (·.1))
 | [],xs,h=>by simp [rangeM,appM,h]
 | p::es,xs,h=>by
  rw [rangeM]
  rw [appK]
  by_cases h2:xs.length+1≤2147483648
  ·rw [if_pos h2, obS, rangeM_keys es _ (by rw [List.length_append]; exact h2)]
   unfold appM
   simp [show es.length+(xs.length+1)=xs.length+(es.length+1) by omega,show xs.length+1+es.length=xs.length+(es.length+1) by omega,Nat.add_assoc]
  ·rw [if_neg h2]
   unfold appM
   rw [if_neg (by simp;omega)];rfl
theorem keys_model {β:Type} (m:MapS β):Option.bind (rangeM (λ(p:Int × β) (xs:List Int)=>Option.bind (appM xs ([p.1]:List Int)) λys=>some ys) m.es []) (λxs=>some (sortI xs))=appM [] m.keys:=by
 rw [rangeM_keys _ _ (by simp)]
 cases h:appM [] (m.es.map (·.1)) with
 | none=>exact h.symm
 | some ys =>
  rw [obS]
  refine Eq.trans ?_ h.symm
  obtain ⟨_,rfl⟩:=appM_some.1 h
  exact congrArg some (sortI_id (List.pairwise_map.2 m.so))
theorem keysM_ok {β:Type} {m:MapS β} (h:m.keys.length≤2147483648):appM [] m.keys=some m.keys:=by
 unfold appM
 rw [if_pos (by simpa using h),List.nil_append]
section
variable {β ρ:Type} [MV β] {P:Program} {w0:World} {hz:Heap} {n:Nat} {l:Env} {w:World} {v:Value} {m:MapS β} {c:Code} {Q:Exit→Act→World→Prop} {r:ρ}
theorem gRngK {kk : List Int → Option ρ} {xs0 : List Int} (hkk : ∀ xs ys, xs.Perm ys → kk xs = kk ys) (hrep : GT.rep hz [v] m) (J : Array Nat → List Int → Act → World → Prop) (h0 : ∀ a, Fr n l a → J #[] xs0 a w)
  (hr:∀ seen s a w,J seen s a w→More hz v seen (λ(p:Int × β) (xs:List Int)=>Option.bind (appM xs ([p.1]:List Int)) λys=>some ys) s→c.wk P (Then (Rnd hz v seen (λ(p:Int × β) (xs:List Int)=>Option.bind (appM xs ([p.1]:List Int)) λys=>some ys) s J) Q) a w)
  (he:∀ seen s a w,J seen s a w→NoMore hz v seen→kk s=some r→c.wk P (Then (λ_ _=>False) Q) a w) :
  G (Option.bind (rangeM (λ(p:Int × β) (xs:List Int)=>Option.bind (appM xs ([p.1]:List Int)) λys=>some ys) m.es xs0) kk) r n l ((Code.loop c).wk P Q) w:=by
 intro hq a hf
 classical
 obtain ⟨ys,hys,hq⟩:=bnd hq
 have hcomm:Comm (λ(p:Int × β) (s:Nat × (Int→Nat))=>if s.1+1≤2147483648 then some ((s.1+1,λk=>s.2 k+if k=p.1 then 1 else 0):Nat × (Int→Nat)) else none):=λp q s=>by
  by_cases h:s.1+1≤2147483648
  ·simp only [h, if_true, obS]
   congr 1
   congr 1
   congr 1
   funext k
   omega
  ·simp only [h, if_false]
   rfl
 have hst:∀ (xs:List Int) (p:Int × β),(λk=>xs.count k+if k=p.1 then 1 else 0)=λk=>(xs++[p.1]).count k:=λxs p=>by
  funext k
  rw [List.count_append,List.count_singleton]
  by_cases e:k=p.1
  ·subst e;simp
  ·rw [if_neg e,if_neg (by simpa using λh=>e h.symm)]
 have hcnt:∀ (es:List (Int × β)) (xs ys:List Int),rangeM (λ(p:Int × β) (xs:List Int)=>Option.bind (appM xs ([p.1]:List Int)) λys=>some ys) es xs=some ys→rangeM (λ(p:Int × β) (s:Nat × (Int→Nat))=>if s.1+1≤2147483648 then some ((s.1+1,λk=>s.2 k+if k=p.1 then 1 else 0):Nat × (Int→Nat)) else none) es (xs.length,λk=>xs.count k)=some (ys.length,λk=>ys.count k):=by
  intro es
  induction es with
  | nil=>intro xs ys h;simp only [rangeM,osI] at h;subst h;rfl
  | cons p es ih =>
   intro xs ys h
   rw [rangeM] at h
   rw [appK] at h
   by_cases h2:xs.length+1≤2147483648
   ·rw [if_pos h2, obS] at h
    have:=ih _ _ h
    simp only [rangeM,h2,if_true,obS,hst]
    simpa using this
   ·rw [if_neg h2] at h;cases h
 refine gRng (r:=r) (m:=m) (s0:=(xs0.length,λk=>xs0.count k)) (kk:=λs=>if s=(ys.length,λk=>ys.count k) then some r else none) hcomm hrep (λseen s a w=>∃ xs:List Int,s=(xs.length,λk=>xs.count k)∧J seen xs a w) (λa hf=>⟨xs0,rfl,h0 a hf⟩) ?_ ?_ ?_ a hf
 ·rintro seen _ a w ⟨xs, rfl, hJ⟩ ⟨r1, E, clock, e1, e2, e3, e4, e5⟩
  have hle:∀ (p:Int × β) (s':Nat × (Int→Nat)),(if xs.length+1≤2147483648 then some ((xs.length+1,λk=>xs.count k+if k=p.1 then 1 else 0):Nat × (Int→Nat)) else none)=some s'→xs.length+1≤2147483648:=λp s' h=>by
   by_cases h2:xs.length+1≤2147483648
   ·exact h2
   ·rw [if_neg h2] at h;cases h
  refine Code.wk_mono (λex a' w' h=>?_) (hr seen xs a w hJ ⟨r1,E,clock,e1,e2,e3,e4,λe he=>?_⟩)
  ·cases ex with
   | normal =>
    obtain ⟨bn,p,s',hg,hb,hJ'⟩:=h
    have h2:xs.length+1≤2147483648:=by
     dsimp only at hb
     rw [appK] at hb
     by_cases h2:xs.length+1≤2147483648
     ·exact h2
     ·rw [if_neg h2] at hb;cases hb
    dsimp only at hb
    rw [appK,if_pos h2] at hb
    cases hb
    exact ⟨bn,p,(xs.length+1,λk=>xs.count k+if k=p.1 then 1 else 0),hg,if_pos h2,xs++[p.1],by rw [hst];simp,hJ'⟩
   | _=>exact h
  ·obtain ⟨p, s', h1, h2⟩ := e5 e he
   exact ⟨p,_,h1,(appK xs p.1).trans (if_pos (hle p s' h2))⟩
 ·rintro seen _ a w ⟨xs, rfl, hJ⟩ hno hk
  refine he seen xs a w hJ hno ?_
  by_cases e:(xs.length,λk=>xs.count k)=(ys.length,λk=>ys.count k)
  ·rw [if_pos e] at hk
   rw [← hk,← hq]
   refine hkk _ _ (List.perm_iff_count.2 λk=>?_)
   exact congrFun (congrArg Prod.snd e) k
  ·rw [if_neg e] at hk;cases hk
 ·rw [hcnt m.es xs0 ys hys,obS,if_pos rfl]
end
section
variable {β:Type} [MV β] {w0:World} {hz:Heap} {w:World} {L:List Ch} {v:Value} {m:MapS β}
theorem owm_cells (hm:Mem w0 hz w L) (k:Nat) (hk:L[k]?=some (owm v m)):v.cells=[v].toArray:=by
 obtain ⟨r,rfl⟩:=owm_form hm k hk
 rfl
end
section
variable {P:Program} {l:Env} {w:World} {o:Oper} {x y:Operand} {t kt vt:TypeId} {v:Value} {key:Int}
theorem y_lookI {m : MapS Int} (hK : P.underlying kt = some (.int .i64)) (ht : P.underlying t = some (.map kt vt)) (hz0 : ∀ w, (zeroValue vt).run P w = .ok (.int .i64 0) w) (hr : GT.rep (hp w) [v] m) (ho : o.op = .lookup t x y false)
  (hx:ev l x=some v) (hy:ev l y=some (.int .i64 key)):Yl P l w o (.int .i64 ((m.get key).getD 0)):=by
 have h:=y_lookS (zv:=.int .i64 0) hK ht hz0 hr ho hx hy
 cases e:m.get key<;>rw [e] at h<;>exact h
end
end Go.Wk
namespace Go.Wk
open Go Go.RowKit
end Go.Wk
namespace Go.Wk
open Go Go.RowKit
def subC (s:Nat) (v:Value) (lo hi:Nat):Value:=match v with
 | .slice p _ _=>.slice (if hi=lo then p else p.map (·.add (lo*s))) (hi - lo) (hi - lo)
 | v=>v
section
variable {α:Type} [GT α] {h:Heap} {v:Value} {xs:List α} {lo hi:Nat} {F:Nat→Prop}
end
section
variable {α:Type} [GT α] {P:Program} {l:Env} {h:Heap} {o:Oper} {x yl yh ym:Operand} {t e:TypeId} {v:Value} {xs:List α} {lo hi:Int} {kl kh km:IntKind}
end
end Go.Wk
namespace Go.Wk
open Go Go.RowKit
section
variable {β S:Type}
open Classical in
noncomputable def onM (es:List (Int × β)) (body:Int × β→S→Option S):Int × β→S→Option S:=λp=>if p∈es then body p else λ_=>none
end
section
variable {β S ρ:Type} [MV β] {P:Program} {w0:World} {hz:Heap} {n:Nat} {l:Env} {w:World} {v:Value} {m:MapS β} {c:Code} {Q:Exit→Act→World→Prop} {r:ρ}
end
theorem MapS.ext {β:Type} {m1 m2:MapS β} (h:m1.es.Perm m2.es):m1=m2:=by
 have:m1.es=m2.es:=by
  have h1:=m1.so;have h2:=m2.so
  refine List.Perm.eq_of_pairwise (le:=λa b=>a.1<b.1) (λx y _ _ h3 h4=>by omega) h1 h2 h
 cases m1;cases m2;simp at this;subst this;rfl
def guardN (l:List Int):Option _root_.Unit:=if l.Nodup then some () else none
theorem get_mem {β:Type} {m:MapS β} {k:Int} {x:β} (h:m.get k=some x):(k,x)∈m.es:=(lookM_some m.nodup).1 h
theorem rep_oneM {β:Type} [MV β] {h:Heap} {v:Value} {m:MapS β} (hr:GT.rep h [v] m):v.oneCell'=true:=GT.one hr _ (List.mem_singleton.2 rfl)
end Go.Wk
namespace Go.Wk
open Go Go.RowKit
abbrev InSc (Q:Exit→Act→World→Prop) (e:Exit):Act→World→Prop:=match e with
 | .goto _=>λ_ _=>False
 | e=>Q e
section
variable {ρ:Type} {m:Option ρ} {r:ρ} {n:Nat} {l:Env} {w:World} {P:Program} {c:Code} {Q:Exit→Act→World→Prop}
end
end Go.Wk
namespace Go.Wk
open Go Go.RowKit
def MapO (β:Type):Type:=Option (MapS β)
def MapO.toS {β:Type} (x:MapO β):MapS β:=match x with | some m=>m | none=>MapS.mk0
def MapO.of {β:Type} (m:MapS β):MapO β:=some m
def MapO.nil {β:Type}:MapO β:=none
def MapO.get {β:Type} (x:MapO β):Option (MapS β):=x
instance {β:Type}:Inhabited (MapO β):=⟨none⟩
instance {β:Type} [MV β]:GT (MapO β) where
 sz:=1
 rep h cs x:=∃ v,cs=[v]∧((v=.map none∧x=none)∨∃ r m,v=.map (some r)∧x=some m∧mapAt h r m)
 own F h cs x:=∃ v,cs=[v]∧((v=.map none∧x=none)∨∃ r m,v=.map (some r)∧x=some m∧F r∧mapAt h r m)
 len:=by rintro h cs m ⟨v,rfl,_⟩;rfl
 mono:=by
  rintro h h' cs m hh ⟨v,rfl,hr⟩
  refine ⟨v,rfl,?_⟩
  rcases hr with hr | ⟨r,m,hv,hx,E,c,es,h1,h2⟩
  ·exact .inl hr
  ·exact .inr ⟨r,m,hv,hx,E,c,es,hh _ _ h1,h2⟩
 own_rep:=by
  rintro F h cs m ⟨v,rfl,hr⟩
  refine ⟨v,rfl,?_⟩
  rcases hr with hr | ⟨r,m,hv,hx,_,h1⟩
  ·exact .inl hr
  ·exact .inr ⟨r,m,hv,hx,h1⟩
 own_loc:=by
  rintro F h h' cs m ⟨v,rfl,hr⟩ hh
  refine ⟨v,rfl,?_⟩
  rcases hr with hr | ⟨r,m,hv,hx,hF,E,c,es,h1,h2⟩
  ·exact .inl hr
  ·exact .inr ⟨r,m,hv,hx,hF,E,c,es,(hh r hF).trans h1,h2⟩
 own_mono:=by
  rintro F F' h cs m hF ⟨v,rfl,hr⟩
  refine ⟨v,rfl,?_⟩
  rcases hr with hr | ⟨r,m,hv,hx,h1,h2⟩
  ·exact .inl hr
  ·exact .inr ⟨r,m,hv,hx,hF r h1,h2⟩
 one:=by
  rintro h cs m ⟨v,rfl,hr⟩ u hu
  simp at hu
  subst hu
  rcases hr with ⟨rfl,_⟩ | ⟨r,m,rfl,_⟩<;>rfl
section
variable {β:Type} [MV β] {P:Program} {a:Act} {w w0:World} {hz:Heap} {L:List Ch} {o:Oper} {n:Nat} {l:Env} {x y z:Operand} {t kt vt:TypeId} {r:Nat} {m:MapS β} {v:Value}
def Ent (h:Heap) (v:Value) (key st:Int):Prop :=
 ∃ (r:Nat) (E:Array MapEntry) (clock j:Nat) (e:MapEntry),v=.map (some r)∧h r=some (.map E clock)∧E.toList[j]?=some e∧(e.born:Int)=st∧e.key=.int .i64 key
end
section
variable {S α:Type} {f g f2:S→Option S}
def CommF (f g:S→Option S):Prop:=∀ s,Option.bind (f s) g=Option.bind (g s) f
end
def put1 (a k:Int) (xs:List (MapO Bool)):Option (List (MapO Bool)):=Option.bind (getI xs a) λx=>Option.bind (MapO.get x) λm=>some (xs.set a.toNat (MapO.of (m.ins k true)))
end Go.Wk
namespace Go.Wk
open Go Go.RowKit
def hput (h:Heap) (b:Nat) (o:Obj):Heap:=λk=>if k=b then some o else h k
section
variable {w0 w w':World} {hz hz':Heap} {L:List Ch}
end
def Back2 (P : Program) (f : FuncId) : Prop := ∀ (xs : List Int) (b : Nat) (v : Value) (lp : Nat) (J : Nat → World → Prop) (W : World),
 (∀ k W,J k W→W.cell? ⟨b,0,none⟩=some v∧GT.rep (hp W) [v] xs) →
 (∀ k j W,k+(j+1)=xs.length→J k W→∀ m,YieldAt Fence.wide m P lp #[.int .i64 (j:Int),.int .i64 (xs.getD j 0)] W λe W'=>e=.returned (.bool true)∧J (k+1) W') →
 J 0 W→∀ n,CallsIn Fence.wide n P f #[.func (.yield lp) #[] #[],.pointer (some ⟨b,0,none⟩)] W λe W'=>(∃ v,e=.returned v)∧J xs.length W'
def backM {S : Type} (body : Int → Int → S → Option S) (xs : List Int) : Nat → S → Option S
 | 0,s=>some s
 | k+1,s=>Option.bind (body (k:Int) (xs.getD k 0) s) λs=>backM body xs k s
def Gt (w0:World) (hz:Heap) (L:List Ch) (φ:Heap→Act→World→Prop) (w:World) (a:Act) (w':World):Prop :=
 w'=w∧∀ hz2 w2,Heap.le hz hz2→Mem w0 hz2 w2 L→φ hz2 a w2
abbrev mark (D:Nat):List Deferred:=[{ target:=.collected D,args:=#[] }]
def postK (P:Program) (fn:Func) (D:Nat) (R:Value→World→Prop) (e:Exit) (a:Act) (w:World):Prop:=match e with
 | .ret=>a.defers=[]∧∃ v,(∀ w,(results fn a.tmps).run P w=.ok v w)∧∃ w',(Instr.takeDeferred D).run P w=.ok [] w'∧R v w'
 | _=>False
def postM (P:Program) (fn:Func) (R:Value→World→Prop) (e:Exit) (a:Act) (w:World):Prop:=∃ D a0,a=a0.up (mark D)∧postK P fn D R e a0 w
section
variable {ρ S:Type} {m:Option ρ} {r:ρ} {P:Program} {n:Nat} {l:Env} {w w0:World} {hz:Heap} {L:List Ch} {R:ρ→Value→World→Prop} {fn:Func} {c:Code} {args:List Value} {f:FuncId} {Q:Exit→Act→World→Prop}
def Mb (w0:World) (L':S→List Ch) (q:S) (hz:Heap) (_:Act) (w:World):Prop:=Mem w0 hz w (L' q)
end
end Go.Wk
namespace Go.Wk
open Go Go.RowKit
section
variable {ρ:Type} {m:Option ρ} {r:ρ} {P:Program} {ops:Array Oper} {Q:Exit→Act→World→Prop} {n k:Nat} {l:Env} {w:World} {o:Oper} {rest:List Oper} {d:Nat} {v:Value} {c c':Code} {f:FuncId} {fn:Func}
abbrev wpW (k:Nat) (P:Program) (c:Code) (Q:Exit→Act→World→Prop) (a:Act) (w:World):Prop:=c.wpIn Fence.wide k P Q a w
abbrev wlW (k:Nat) (P:Program) (ops:Array Oper) (Q:Exit→Act→World→Prop) (os:List Oper) (a:Act) (w:World):Prop:=wpListIn Fence.wide k P ops Q os a w
end
section
variable {β:Type}
end
end Go.Wk
namespace Go.Wk
open Go Go.RowKit
def hupd (h:Heap) (b i:Nat) (v:Value):Heap:=λc=>if c=b then (match h b with | some (.cells C T fz)=>some (.cells (C.setIfInBounds i v) T fz) | o=>o) else h c
def hcell (h:Heap) (b i:Nat) (v:Value):Prop:=∃ C T,h b=some (.cells C T (0,0))∧C[i]?=some v
theorem hupd_ne {h:Heap} {b i c:Nat} {v:Value} (e:c≠b):hupd h b i v c=h c:=by simp [hupd,e]
theorem hupd_at {h:Heap} {b i:Nat} {v:Value} {C:Array Value} {T:TypeId} {fz:Nat × Nat} (e:h b=some (.cells C T fz)):hupd h b i v b=some (.cells (C.setIfInBounds i v) T fz):=by simp [hupd,e]
theorem hupd_self {h:Heap} {b i:Nat} {v:Value} (e:hcell h b i v):hupd h b i v=h:=by
 obtain ⟨C,T,h1,h2⟩:=e
 funext c
 by_cases e:c=b
 ·subst e
  rw [hupd_at h1,h1]
  congr 2
  apply Array.ext
  ·simp
  ·intro j h3 h4
   rw [Array.getElem_setIfInBounds h4]
   split
   ·rename_i e; subst e
    rw [Array.getElem?_eq_getElem h4] at h2
    exact (Option.some.inj h2).symm
   ·rfl
 ·exact hupd_ne e
theorem hcell_upd {h:Heap} {b i:Nat} {u v:Value} (e:hcell h b i u):hcell (hupd h b i v) b i v:=by
 obtain ⟨C,T,h1,h2⟩:=e
 refine ⟨_,T,hupd_at h1,?_⟩
 have:=(Array.getElem?_eq_some_iff.1 h2).1
 simp [this]
theorem hupd_upd {h:Heap} {b i:Nat} {u v:Value}:hupd (hupd h b i u) b i v=hupd h b i v:=by
 funext c
 by_cases e:c=b
 ·subst e
  unfold hupd
  simp only [if_true]
  cases h c with
  | none=>rfl
  | some o=>cases o<;>simp
 ·rw [hupd_ne e,hupd_ne e,hupd_ne e]
theorem hp_setCell (w:World) (b i:Nat) (v:Value):hp (w.setCell ⟨b,i,none⟩ v)=hupd (hp w) b i v:=by
 funext c
 show (w.setCell ⟨b,i,none⟩ v).heap[c]?=_
 simp only [World.setCell,Array.getElem?_modify]
 by_cases e:b=c
 ·subst e
  unfold hupd hp
  simp only [if_true]
  cases w.heap[b]? with
  | none=>rfl
  | some o=>cases o<;>simp
 ·rw [if_neg e,hupd_ne (λh=>e h.symm)];rfl
def celc (h0:Heap) (b i:Nat) (v:Value):Ch where
 pr F h:=F b∧h b=hupd h0 b i v b∧∃ u,hcell h0 b i u
 loc _ _ _ hp hh:=⟨hp.1,(hh b hp.1).trans hp.2.1,hp.2.2⟩
 mono _ _ _ hp hF:=⟨hF b hp.1,hp.2⟩
section
variable {P:Program} {a:Act} {w w0:World} {hz:Heap} {L:List Ch} {o:Oper} {n:Nat} {l:Env} {x y:Operand} {v u:Value} {b i:Nat} {t:TypeId} {h0:Heap}
theorem Mem.cel_at (hm:Mem w0 hz w L) (k:Nat) (hk:L[k]?=some (celc h0 b i v)):hcell (hp w) b i v:=by
 obtain ⟨F,hF,_⟩:=hm.get k hk
 obtain ⟨u,hu⟩:=hF.2.2
 obtain ⟨C,T,h1,h2⟩:=hcell_upd (v:=v) hu
 exact ⟨C,T,by rw [hF.2.1];exact h1,h2⟩
theorem hcell_cell (h:hcell (hp w) b i v):w.cell? ⟨b,i,none⟩=some v:=by
 obtain ⟨C,T,h1,h2⟩:=h
 have h1:w.heap[b]?=some (.cells C T (0,0)):=h1
 simp [World.cell?,h1,h2]
theorem hcell_frozen (h:hcell (hp w) b i v):w.frozen? ⟨b,i,none⟩=false:=by
 obtain ⟨C,T,h1,h2⟩:=h
 have h1:w.heap[b]?=some (.cells C T (0,0)):=h1
 simp [World.frozen?,h1]
theorem Mem.cel_cell (hm:Mem w0 hz w L) (k:Nat) (hk:L[k]?=some (celc h0 b i v)):w.cell? ⟨b,i,none⟩=some v:=hcell_cell (hm.cel_at k hk)
theorem e_storeC (k : Nat) (hf : Fr n l a) (hm : Mem w0 hz w L) (hk : L[k]? = some (celc h0 b i u)) (hs : ∀ w, (sizeOf t).run P w = .ok 1 w) (ho : o.op = .store t x y)
  (hx:ev l x=some (.pointer (some ⟨b,i,none⟩))) (hy:ev l y=some v) (h1:v.oneCell'=true):Ef P a w o (λ_ w'=>Mem w0 hz w' (L.set k (celc h0 b i v))):=by
 have hc:=hm.cel_at k hk
 have hcell:=hcell_cell hc
 have hfr:=hcell_frozen hc
 have hcs:v.cells=#[v]:=by cases v<;>first | rfl | cases h1
 refine ef_skip (w':=w.setCell ⟨b,i,none⟩ v) ?_ ?_
 ·simp [execOp,ho,hf.eval hx,hf.eval hy,Instr.storeAt,Instr.sureAddr,storeVar,hcs,hs,storeCells,add_none,run_store P w _ v _ h1,hcell,hfr]
 ·refine hm.upd k hk ⟨rfl, rfl, rfl, by simp [World.setCell]⟩ fun F hF hlt => ⟨F, fun _ h => .inl h, fun c hc => by simpa [World.setCell] using hlt c hc, ⟨hF.1, ?_, hF.2.2⟩, fun c _ hne => ?_⟩
  ·rw [hp_setCell]
   have e:hupd (hp w) b i v b=hupd (hupd h0 b i u) b i v b:=by
    unfold hupd
    simp only [if_true]
    have:=hF.2.1
    unfold hupd at this
    simp only [if_true] at this
    rw [this]
   rw [e,hupd_upd]
  ·have := congrFun (hp_setCell w b i v) c
   have e:c≠b:=λe=>hne (by rw [e];exact hF.1)
   rw [hupd_ne e] at this
   exact this
end
def VisitP (P:Program) (vf:Value) (f:Int→Option Int) (hzc:Heap):Prop :=
 ∀ (w:World) (b i:Nat) (x y:Int),Heap.le hzc (hp w)→hcell (hp w) b i (.int .i64 x)→hzc b=none→f x=some y→FnOk P vf [.pointer (some ⟨b,i,none⟩)] w λ_ w'=>Same w w'∧∀ c,c<w.heap.size→hp w' c=hupd (hp w) b i (.int .i64 y) c
theorem visit_of {P : Program} {vf : Value} {f : Int → Option Int} {hzc : Heap}
  (H:∀ (w:World) (hz h0:Heap) (b i:Nat) (x y:Int),Heap.le hzc hz→Mem w hz w [celc h0 b i (.int .i64 x)]→f x=some y→FnOk P vf [.pointer (some ⟨b,i,none⟩)] w λ_ w'=>Mem w hz w' [celc h0 b i (.int .i64 y)]):VisitP P vf f hzc:=by
 intro w b i x y hle hc hb hf
 have hm:Mem w (λc=>if c=b then none else hp w c) w [celc (hp w) b i (.int .i64 x)]:=by
  refine ⟨Same.refl w,λc o h=>?_,λk c=>k=0∧c=b,?_,?_,?_⟩
  ·change (if c = b then none else hp w c) = some o at h
   split at h
   ·cases h
   ·exact h
  ·intro k c hk
   cases k with
   | zero =>
    simp at hk
    subst hk
    exact ⟨⟨rfl,rfl⟩,by rw [hupd_self hc],_,hc⟩
   | succ k=>simp at hk
  ·rintro k j c hkj ⟨h1, _⟩ ⟨h2, _⟩
   exact hkj (h1.trans h2.symm)
  ·rintro k c ⟨_, rfl⟩
   obtain ⟨C,T,h1,_⟩:=hc
   exact ⟨by simp,hp_lt h1⟩
 obtain ⟨k,cs,e1,e2,e3⟩:=H w _ (hp w) b i x y (λc o h=>by
  have:c≠b:=λe=>by rw [e,hb] at h;cases h
  simp only [this,if_false]
  exact hle c o h) hm hf
 refine ⟨k,cs,e1,e2,Calls.mono e3 ?_⟩
 intro e w' h
 cases e with
 | returned v =>
  have h:Mem w (λc=>if c=b then none else hp w c) w' [celc (hp w) b i (.int .i64 y)]:=h
  refine ⟨h.same,λc hc'=>?_⟩
  by_cases e:c=b
  ·subst e
   obtain ⟨F,hF,_⟩:=h.get 0 rfl
   exact hF.2.1
  ·rw [hupd_ne e]
   have h1:hp w c=some w.heap[c]:=Array.getElem?_eq_getElem hc'
   rw [h1]
   exact h.lez c _ (by simp only [e,if_false];exact h1)
 | _=>exact h
section
variable {α β:Type} [GT α] [GT β]
def Deep (F:Nat→Prop) (h:Heap) (cs:List Value) (b i:Nat) (n:Int) (g:Int→α):Prop:=F b∧hcell h b i (.int .i64 n)∧∀ y,GT.own F (hupd h b i (.int .i64 y)) cs (g y)
def Shal (F:Nat→Prop) (h:Heap) (cs:List Value) (d:Nat) (n:Int) (g:Int→α):Prop:=cs[d]?=some (.int .i64 n)∧∀ y,GT.own F h (cs.set d (.int .i64 y)) (g y)
theorem shal_int {F:Nat→Prop} {h:Heap} {cs:List Value} {n:Int} (ho:GT.own F h cs n):Shal F h cs 0 n (λy=>y):=by
 have e:cs=[.int .i64 n]:=ho
 subst e
 exact ⟨rfl,λy=>(rfl:([.int .i64 y]:List Value)=[.int .i64 y])⟩
theorem cells_uniq {h:Heap} {b o:Nat} {cs:List Value} {C:Array Value} {T:TypeId} {fz:Nat × Nat} (hc:CellsAt h b o cs) (hb:h b=some (.cells C T fz)):seg C o cs.length=cs:=by
 obtain ⟨C',T',fz',h1,h2⟩:=hc
 rw [hb] at h1
 cases h1
 apply List.ext_getElem?
 intro j
 by_cases hj:j<cs.length
 ·rw [seg_get hj, List.getElem?_eq_getElem hj]
  exact h2 j _ (List.getElem?_eq_getElem hj)
 ·have h3 : (seg C o cs.length)[j]? = none := List.getElem?_eq_none (by simp only [seg, List.length_take]; omega)
  rw [h3,List.getElem?_eq_none (by omega)]
theorem list_shal {F : Nat → Prop} {h : Heap} {b off len cap i d : Nat} {xs : List α} {cs : List Value} {x : α} {n : Int} {g : Int → α} (ho : GT.own F h [.slice (some ⟨b, off, none⟩) len cap] xs) (hx : xs[i]? = some x) (hc : CellsAt h b (off + i * GT.sz α) cs) (hl : cs.length = GT.sz α)
  (hs:∀ G,GT.own G h cs x→Shal G h cs d n g):Deep F h [.slice (some ⟨b,off,none⟩) len cap] b (off+i*GT.sz α+d) n (λy=>xs.set i (g y)):=by
 rcases own_list.1 ho with ⟨e,_⟩ | ⟨b',off',len',cap',C,T,hv,hF,hb,hlen,hcc,hmx,hsz,fps,h1,h2,h3⟩
 ·cases e
 ·cases hv
  have hi:i<xs.length:=(lgE.1 hx).1
  have hseg:=cells_uniq hc hb
  rw [hl] at hseg
  have hown:=h3 i x hx
  rw [hseg] at hown
  obtain ⟨s1,s2⟩:=hs _ hown
  have hd:d<GT.sz α:=by have:=(lgE.1 s1).1;omega
  have hCd:C[off+i*GT.sz α+d]?=some (.int .i64 n):=by
   rw [← hseg,seg_get hd] at s1;exact s1
  refine ⟨hF,⟨C,T,hb,hCd⟩,λy=>own_list.2 (.inr ⟨b,off,len,cap,C.setIfInBounds (off+i*GT.sz α+d) (.int .i64 y),T,rfl,hF,hupd_at hb,by simpa using hlen,hcc,hmx,by simpa using hsz,fps,h1,h2,λj z hz=>?_⟩)⟩
  have hloc:∀ c,fps j c→hupd h b (off+i*GT.sz α+d) (.int .i64 y) c=h c:=λc hcf=>hupd_ne (h1 j c hcf).2
  by_cases e:j=i
  ·subst e
   rw [List.getElem?_set_self hi] at hz
   cases hz
   have hs2:seg (C.setIfInBounds (off+j*GT.sz α+d) (.int .i64 y)) (off+j*GT.sz α) (GT.sz α)=cs.set d (.int .i64 y):=by
    rw [← hseg]
    apply List.ext_getElem?
    intro q
    by_cases hq:q<GT.sz α
    ·rw [seg_get hq, List.getElem?_set, Array.getElem?_setIfInBounds]
     by_cases e:d=q
     ·subst e
      have:=(Array.getElem?_eq_some_iff.1 hCd).1
      simp [this,seg,hd]
      omega
     ·rw [if_neg (by omega),if_neg e,seg_get hq]
    ·rw [List.getElem?_eq_none (by simp only [seg,List.length_take];omega),List.getElem?_eq_none (by simp only [List.length_set,seg,List.length_take];omega)]
   rw [hs2]
   exact GT.own_loc (s2 y) hloc
  ·rw [List.getElem?_set_ne (Ne.symm e)] at hz
   have hs2:seg (C.setIfInBounds (off+i*GT.sz α+d) (.int .i64 y)) (off+j*GT.sz α) (GT.sz α)=seg C (off+j*GT.sz α) (GT.sz α):=by
    refine seg_eq (by simp) λq q1 q2=>?_
    rw [Array.getElem?_setIfInBounds,if_neg]
    intro e2
    rcases Nat.lt_or_gt_of_ne e with h | h
    ·have:=mul_lt_of (s:=GT.sz α) h;omega
    ·have:=mul_lt_of (s:=GT.sz α) h;omega
   rw [hs2]
   exact GT.own_loc (h3 j z hz) hloc
theorem list_deep {F : Nat → Prop} {h : Heap} {b off len cap i b2 i2 : Nat} {xs : List α} {cs : List Value} {x : α} {n : Int} {g : Int → α} (ho : GT.own F h [.slice (some ⟨b, off, none⟩) len cap] xs) (hx : xs[i]? = some x) (hc : CellsAt h b (off + i * GT.sz α) cs) (hl : cs.length = GT.sz α)
  (hs:∀ G,GT.own G h cs x→Deep G h cs b2 i2 n g):Deep F h [.slice (some ⟨b,off,none⟩) len cap] b2 i2 n (λy=>xs.set i (g y)):=by
 rcases own_list.1 ho with ⟨e,_⟩ | ⟨b',off',len',cap',C,T,hv,hF,hb,hlen,hcc,hmx,hsz,fps,h1,h2,h3⟩
 ·cases e
 ·cases hv
  have hi:i<xs.length:=(lgE.1 hx).1
  have hseg:=cells_uniq hc hb
  rw [hl] at hseg
  have hown:=h3 i x hx
  rw [hseg] at hown
  obtain ⟨s0,s1,s2⟩:=hs _ hown
  have hb2:=h1 i b2 s0
  refine ⟨hb2.1,s1,λy=>own_list.2 (.inr ⟨b,off,len,cap,C,T,rfl,hF,by rw [hupd_ne (Ne.symm hb2.2)];exact hb,by simpa using hlen,hcc,hmx,hsz,fps,h1,h2,λj z hz=>?_⟩)⟩
  by_cases e:j=i
  ·subst e
   rw [List.getElem?_set_self hi] at hz
   cases hz
   rw [hseg]
   exact s2 y
  ·rw [List.getElem?_set_ne (Ne.symm e)] at hz
   exact GT.own_loc (h3 j z hz) λc hcf=>hupd_ne λe2=>h2 i j c (Ne.symm e) (by rw [e2];exact s0) hcf
theorem fst_shal {F:Nat→Prop} {h:Heap} {cs c d:List Value} {p:α × β} {n:Int} {k:Nat} {g:Int→α} (ho:GT.own F h cs p) (hcs:cs=c++d) (hl:c.length=GT.sz α) (hs:∀ G,GT.own G h c p.1→Shal G h c k n g):Shal F h cs k n (λy=>(g y,p.2)):=by
 obtain ⟨c',d',e,G,H,g1,g2,g3,h1,h2⟩:=ho
 have hc:c=c'∧d=d':=by
  rw [e] at hcs
  have:=(List.append_inj hcs (by rw [GT.len (GT.own_rep h1),hl]))
  exact ⟨this.1.symm,this.2.symm⟩
 obtain ⟨rfl,rfl⟩:=hc
 obtain ⟨s1,s2⟩:=hs G h1
 have hk:k<c.length:=(lgE.1 s1).1
 refine ⟨by rw [hcs,List.getElem?_append_left hk];exact s1,λy=>⟨c.set k (.int .i64 y),d,by rw [hcs,List.set_append_left _ _ hk],G,H,g1,g2,g3,s2 y,h2⟩⟩
theorem fst_deep {F:Nat→Prop} {h:Heap} {cs c d:List Value} {p:α × β} {n:Int} {b i:Nat} {g:Int→α} (ho:GT.own F h cs p) (hcs:cs=c++d) (hl:c.length=GT.sz α) (hs:∀ G,GT.own G h c p.1→Deep G h c b i n g):Deep F h cs b i n (λy=>(g y,p.2)):=by
 obtain ⟨c',d',e,G,H,g1,g2,g3,h1,h2⟩:=ho
 have hc:c=c'∧d=d':=by
  rw [e] at hcs
  have:=(List.append_inj hcs (by rw [GT.len (GT.own_rep h1),hl]))
  exact ⟨this.1.symm,this.2.symm⟩
 obtain ⟨rfl,rfl⟩:=hc
 obtain ⟨s0,s1,s2⟩:=hs G h1
 exact ⟨g1 b s0,s1,λy=>⟨c,d,hcs,G,H,g1,g2,g3,s2 y,GT.own_loc h2 λq hq=>hupd_ne λe=>g3 b s0 (by rw [← e];exact hq)⟩⟩
theorem snd_shal {F:Nat→Prop} {h:Heap} {cs c d:List Value} {p:α × β} {n:Int} {k:Nat} {g:Int→β} (ho:GT.own F h cs p) (hcs:cs=c++d) (hl:c.length=GT.sz α) (hs:∀ G,GT.own G h d p.2→Shal G h d k n g):Shal F h cs (c.length+k) n (λy=>(p.1,g y)):=by
 obtain ⟨c',d',e,G,H,g1,g2,g3,h1,h2⟩:=ho
 have hc:c=c'∧d=d':=by
  rw [e] at hcs
  have:=(List.append_inj hcs (by rw [GT.len (GT.own_rep h1),hl]))
  exact ⟨this.1.symm,this.2.symm⟩
 obtain ⟨rfl,rfl⟩:=hc
 obtain ⟨s1,s2⟩:=hs H h2
 refine ⟨by rw [hcs,List.getElem?_append_right (by omega),Nat.add_sub_cancel_left];exact s1,λy=>⟨c,d.set k (.int .i64 y),by rw [hcs,List.set_append_right _ _ (by omega),Nat.add_sub_cancel_left],G,H,g1,g2,g3,h1,s2 y⟩⟩
theorem snd_deep {F:Nat→Prop} {h:Heap} {cs c d:List Value} {p:α × β} {n:Int} {b i:Nat} {g:Int→β} (ho:GT.own F h cs p) (hcs:cs=c++d) (hl:c.length=GT.sz α) (hs:∀ G,GT.own G h d p.2→Deep G h d b i n g):Deep F h cs b i n (λy=>(p.1,g y)):=by
 obtain ⟨c',d',e,G,H,g1,g2,g3,h1,h2⟩:=ho
 have hc:c=c'∧d=d':=by
  rw [e] at hcs
  have:=(List.append_inj hcs (by rw [GT.len (GT.own_rep h1),hl]))
  exact ⟨this.1.symm,this.2.symm⟩
 obtain ⟨rfl,rfl⟩:=hc
 obtain ⟨s0,s1,s2⟩:=hs H h2
 exact ⟨g2 b s0,s1,λy=>⟨c,d,hcs,G,H,g1,g2,g3,GT.own_loc h1 λq hq=>hupd_ne λe=>g3 q hq (by rw [e];exact s0),s2 y⟩⟩
theorem Mem.visited {w0 w w' : World} {hz : Heap} {L : List Ch} {cs : List Value} {x : α} {b i : Nat} {n y : Int} {g : Int → α} (hm : Mem w0 hz w (ow cs x :: L)) (hd : ∀ F, GT.own F (hp w) cs x → Deep F (hp w) cs b i n g) (hs : Same w w') (hh : ∀ c, c < w.heap.size → hp w' c = hupd (hp w) b i (.int .i64 y) c) :
  Mem w0 hz w' (ow cs (g y)::L):=by
 have:=hm.upd (c':=ow cs (g y)) 0 rfl hs λF hF hlt=>by
  obtain ⟨s0,s1,s2⟩:=hd F hF
  refine ⟨F,λ_ h=>.inl h,λc hc=>Nat.lt_of_lt_of_le (hlt c hc) hs.size,GT.own_loc (s2 y) λc hc=>hh c (hlt c hc),λc hc hne=>?_⟩
  have:=hh c hc
  rw [hupd_ne (λe=>hne (by rw [e];exact s0))] at this
  exact this
 exact this
theorem Mem.spot {w0 w:World} {hz:Heap} {L:List Ch} {cs:List Value} {x:α} {b i:Nat} {n:Int} {g:Int→α} (hm:Mem w0 hz w (ow cs x::L)) (hd:∀ F,GT.own F (hp w) cs x→Deep F (hp w) cs b i n g):hcell (hp w) b i (.int .i64 n)∧hz b=none:=by
 obtain ⟨F,hF,h1⟩:=hm.get 0 rfl
 obtain ⟨s0,s1,_⟩:=hd F hF
 exact ⟨s1,(h1 b s0).2⟩
end
theorem FnOk.mono {P:Program} {fv:Value} {args:List Value} {w:World} {R R':Value→World→Prop} (h:FnOk P fv args w R) (hr:∀ v w',R v w'→R' v w'):FnOk P fv args w R':=by
 obtain ⟨k,cs,h1,h2,h3⟩:=h
 refine ⟨k,cs,h1,h2,Calls.mono h3 λe w' h=>?_⟩
 cases e with
 | returned v=>exact hr v w' h
 | _=>exact h
theorem gin {ρ:Type} {m:Option ρ} {r:ρ} {n:Nat} {l:Env} {w:World} {φ:Act→World→Prop} (k:m=some r→G (some r) r n l φ w):G m r n l φ w:=λhe=>k he rfl
end Go.Wk
namespace Go.Wk
open Go Go.RowKit
section
variable {α:Type} [GT α]
def hole2E (b off len cap:Nat) (xs:List α) (i:Nat) (ecs:List Value) (i2:Nat) (fcs:List Value):Ch where
 pr R h := ∃ C T, ∃ fps : Nat → Nat → Prop, h b = some (.cells C T (0, 0)) ∧ R b ∧ xs.length = len ∧ len ≤ cap ∧ (cap ≤ maxLen ∧ len ≤ 140737488355328) ∧ off + cap * GT.sz α ≤ C.size ∧
  (∀ j c,fps j c→R c∧c≠b)∧(∀ j k c,j≠k→fps j c→¬ fps k c)∧(∀ (j:Nat) (x:α),j≠i→j≠i2→xs[j]?=some x→GT.own (fps j) h (seg C (off+j*GT.sz α) (GT.sz α)) x)∧(i<xs.length∧seg C (off+i*GT.sz α) (GT.sz α)=ecs)∧(i2<xs.length∧seg C (off+i2*GT.sz α) (GT.sz α)=fcs)∧i≠i2
 loc R h h2 hp hh:=by
  obtain ⟨C,T,fps,e1,e2,e3,e4,e5,e6,e7,e8,e9,e10,e11⟩:=hp
  exact ⟨C,T,fps,(hh b e2).trans e1,e2,e3,e4,e5,e6,e7,e8,λj x hj hj2 hx=>GT.own_loc (e9 j x hj hj2 hx) λc hc=>hh c (e7 j c hc).1,e10,e11⟩
 mono R R' h hp hR:=by
  obtain ⟨C,T,fps,e1,e2,e3,e4,e5,e6,e7,e8,e9,e10,e11⟩:=hp
  exact ⟨C,T,fps,e1,hR b e2,e3,e4,e5,e6,λj c hc=>⟨hR c (e7 j c hc).1,(e7 j c hc).2⟩,e8,e9,e10,e11⟩
variable {w0 w:World} {hz:Heap} {L:List Ch} {b off len cap i i2:Nat} {xs:List α} {x:α} {ecs fcs:List Value}
end
def neI (i j:Int):Option Unit:=if i=j then none else some ()
end Go.Wk
namespace Go.Wk
open Go Go.RowKit
section
variable {α:Type} [GT α]
def gap (b off len cap:Nat) (ys zs:List α):Ch where
 pr R h := ∃ C T, ∃ fps : Nat → Nat → Prop, h b = some (.cells C T (0, 0)) ∧ R b ∧ ys.length + zs.length ≤ len ∧ len ≤ cap ∧ (cap ≤ maxLen ∧ len ≤ 140737488355328) ∧ off + cap * GT.sz α ≤ C.size ∧
  (∀ j c,fps j c→R c∧c≠b)∧(∀ j k c,j≠k→fps j c→¬ fps k c) ∧
  (∀ (j:Nat) (x:α),ys[j]?=some x→GT.own (fps j) h (seg C (off+j*GT.sz α) (GT.sz α)) x) ∧
  (∀ (j:Nat) (x:α),zs[j]?=some x→GT.own (fps (len - zs.length+j)) h (seg C (off+(len - zs.length+j)*GT.sz α) (GT.sz α)) x)
 loc R h h2 hp hh:=by
  obtain ⟨C,T,fps,e1,e2,e3,e4,e5,e6,e7,e8,e9,e10⟩:=hp
  exact ⟨C,T,fps,(hh b e2).trans e1,e2,e3,e4,e5,e6,e7,e8,λj x hx=>GT.own_loc (e9 j x hx) λc hc=>hh c (e7 j c hc).1,λj x hx=>GT.own_loc (e10 j x hx) λc hc=>hh c (e7 _ c hc).1⟩
 mono R R' h hp hR:=by
  obtain ⟨C,T,fps,e1,e2,e3,e4,e5,e6,e7,e8,e9,e10⟩:=hp
  exact ⟨C,T,fps,e1,hR b e2,e3,e4,e5,e6,λj c hc=>⟨hR c (e7 j c hc).1,(e7 j c hc).2⟩,e8,e9,e10⟩
variable {w0 w:World} {hz:Heap} {L:List Ch} {b off len cap:Nat} {xs ys zs:List α} {x:α} {ecs:List Value}
theorem Mem.gap_take (hm : Mem w0 hz w L) (k : Nat) (hk : L[k]? = some (gap b off len cap ys (x :: zs))) :
  ∃ ecs,CellsAt (hp w) b (off+(len - (zs.length+1))*GT.sz α) ecs∧Mem w0 hz w (ow ecs x::L.set k (gap b off len cap ys zs)):=by
 obtain ⟨F,hF,hFw⟩:=hm.get k hk
 obtain ⟨C,T,fps,e1,e2,e3,e4,e5,e6,e7,e8,e9,e10⟩:=hF
 simp only [List.length_cons] at e3
 refine ⟨seg C (off+(len - (zs.length+1))*GT.sz α) (GT.sz α),cellsAt_seg e1,hm.split k hk λF' hF'=>?_⟩
 obtain ⟨C',T',fps',a1,a2,a3,a4,a5,a6,a7,a8,a9,a10⟩:=hF'
 rw [e1] at a1
 simp only [osI,Obj.cells.injEq] at a1
 obtain ⟨rfl,rfl,_⟩:=a1
 simp only [List.length_cons] at a3 a10
 refine ⟨λc=>F' c∧¬ fps' (len - (zs.length+1)) c,fps' (len - (zs.length+1)),λc hc=>hc.1,λc hc=>(a7 _ c hc).1,λc hc=>hc.2,?_,show GT.own _ _ _ _ from by simpa using a10 0 x rfl⟩
 refine ⟨C,T,λj c=>j≠len - (zs.length+1)∧fps' j c,e1,⟨a2,λhc=>(a7 _ b hc).2 rfl⟩,by omega,a4,a5,a6,?_,?_,λj y hy=>?_,λj y hy=>?_⟩
 ·rintro j c ⟨hj, hc⟩
  exact ⟨⟨(a7 j c hc).1,λhc'=>a8 j _ c hj hc hc'⟩,(a7 j c hc).2⟩
 ·rintro j q c hjq ⟨_, hc⟩ ⟨_, hc'⟩
  exact a8 j q c hjq hc hc'
 ·have := (lgE.1 hy).1
  exact GT.own_mono (λc hc=>⟨by omega,hc⟩) (a9 j y hy)
 ·have hj := (lgE.1 hy).1
  have h:=a10 (j+1) y (by simpa using hy)
  rw [show len - (zs.length+1)+(j+1)=len - zs.length+j by omega] at h
  exact GT.own_mono (λc hc=>⟨by omega,hc⟩) h
theorem Mem.gap_len (hm:Mem w0 hz w L) (k:Nat) (hk:L[k]?=some (gap b off len cap ys zs)):ys.length+zs.length≤len∧len≤cap:=by
 obtain ⟨F,hF,_⟩:=hm.get k hk
 obtain ⟨C,T,fps,e1,e2,e3,e4,_⟩:=hF
 exact ⟨e3,e4⟩
def drn (b off cap:Nat) (xs:List α) (i:Nat):Ch:=gap b off xs.length cap [] (xs.drop i)
theorem Mem.drn_take {i : Nat} (hm : Mem w0 hz w L) (k : Nat) (hk : L[k]? = some (drn b off cap xs i)) (hx : xs[i]? = some x) :
  ∃ ecs,CellsAt (hp w) b (off+i*GT.sz α) ecs∧Mem w0 hz w (ow ecs x::L.set k (drn b off cap xs (i+1))):=by
 obtain ⟨hi,hxi⟩:=lgE.1 hx
 have e:xs.drop i=x::xs.drop (i+1):=by rw [List.drop_eq_getElem_cons hi,hxi]
 have h:=hm.gap_take (b:=b) (off:=off) (len:=xs.length) (cap:=cap) (ys:=[]) (x:=x) (zs:=xs.drop (i+1)) k (by rw [hk];unfold drn;rw [e])
 rw [show xs.length - ((xs.drop (i+1)).length+1)=i by simp;omega] at h
 exact h
def drnV (v:Value) (xs:List α) (i:Int):Ch where
 pr R h:=xs.length≤i.toNat∨∃ b off cap,v=.slice (some ⟨b,off,none⟩) xs.length cap∧(drn b off cap xs i.toNat).pr R h
 loc R h h2 hp hh:=hp.imp id λ⟨b,off,cap,e,hd⟩=>⟨b,off,cap,e,(drn b off cap xs i.toNat).loc R h h2 hd hh⟩
 mono R R' h hp hR:=hp.imp id λ⟨b,off,cap,e,hd⟩=>⟨b,off,cap,e,(drn b off cap xs i.toNat).mono R R' h hd hR⟩
def drnH (b off len cap:Nat) (xs:List α) (i:Nat) (ecs:List Value):Ch where
 pr R h:=(drn b off cap xs (i+1)).pr R h∧CellsAt h b (off+i*GT.sz α) ecs∧R b∧xs.length=len
 loc R h h2 hp hh:=⟨(drn b off cap xs (i+1)).loc R h h2 hp.1 hh,by
  obtain ⟨C,T,fz,h1,h2'⟩:=hp.2.1
  exact ⟨C,T,fz,(hh b hp.2.2.1).trans h1,h2'⟩,hp.2.2⟩
 mono R R' h hp hR:=⟨(drn b off cap xs (i+1)).mono R R' h hp.1 hR,hp.2.1,hR b hp.2.2.1,hp.2.2.2⟩
variable {v:Value} {i j:Int}
theorem Mem.drnV0 (hm:Mem w0 hz w L) (k:Nat) (hk:L[k]?=some (ow [v] xs)):Mem w0 hz w (L.set k (drnV v xs 0)) :=
 hm.imp k hk λF hF=>by
  have hF':=hF
  rcases own_list.1 hF with ⟨hv,hx⟩ | ⟨b,off,len,cap,C,T,hv,hFb,hb,hlen,hcap,hmx,hs,fps,h1,h2,h3⟩
  ·exact .inl (by rw [hx];simp)
  ·subst hv; subst hlen
   refine .inr ⟨b,off,cap,rfl,C,T,fps,hb,hFb,by simp,hcap,hmx,hs,h1,h2,λq y hq=>by simp at hq,λq y hq=>?_⟩
   simp only [Int.toNat_zero,List.drop_zero] at hq ⊢
   rw [show xs.length - xs.length+q=q by omega]
   exact h3 q y hq
theorem Mem.drn_form (hm:Mem w0 hz w L) (k:Nat) (hk:L[k]?=some (drnV v xs i)) (hx:xs[i.toNat]?=some x):∃ b off cap,v=.slice (some ⟨b,off,none⟩) xs.length cap:=by
 obtain ⟨F,hF,_⟩:=hm.get k hk
 have:=(lgE.1 hx).1
 rcases hF with h | ⟨b,off,cap,e,_⟩
 ·omega
 ·exact ⟨b,off,cap,e⟩
theorem Mem.drn_pin (hm : Mem w0 hz w L) (k : Nat) (hk : L[k]? = some (drnV (.slice (some ⟨b, off, none⟩) len cap) xs i)) (hx : xs[i.toNat]? = some x) :
  ∃ ecs,CellsAt (hp w) b (off+i.toNat*GT.sz α) ecs∧Mem w0 hz w (ow ecs x::L.set k (drnH b off len cap xs i.toNat ecs)):=by
 have hi:=(lgE.1 hx).1
 have h1:Mem w0 hz w (L.set k (drn b off cap xs i.toNat)):=hm.imp k hk λF hF=>by
  rcases hF with h | ⟨b',off',cap',e,hd⟩
  ·omega
  ·simp only [Value.slice.injEq, osI, Addr.mk.injEq] at e
   obtain ⟨⟨rfl,rfl,_⟩,_,rfl⟩:=e
   exact hd
 have hlen:xs.length=len:=by
  obtain ⟨F,hF,_⟩:=hm.get k hk
  rcases hF with h | ⟨b',off',cap',e,hd⟩
  ·omega
  ·simp only [Value.slice.injEq] at e
   exact e.2.1.symm
 have hkl:=(lgE.1 hk).1
 obtain ⟨ecs,hc,h2⟩:=h1.drn_take k (List.getElem?_set_self hkl) hx
 refine ⟨ecs,hc,?_⟩
 rw [List.set_set] at h2
 have h3:=h2.imp (c':=drnH b off len cap xs i.toNat ecs) (k+1) (by rw [List.getElem?_cons_succ,List.getElem?_set_self hkl]) λF hF=>⟨hF,hc,by
  obtain ⟨C,T,fps,e1,e2,_⟩:=hF
  exact e2,hlen⟩
 simpa [List.set_set] using h3
theorem Mem.drnH_at {i:Nat} (hm:Mem w0 hz w L) (k:Nat) (hk:L[k]?=some (drnH b off len cap xs i ecs)):CellsAt (hp w) b (off+i*GT.sz α) ecs:=by
 obtain ⟨F,hF,_⟩:=hm.get k hk
 exact hF.2.1
theorem Mem.drnH_len {i:Nat} (hm:Mem w0 hz w L) (k:Nat) (hk:L[k]?=some (drnH b off len cap xs i ecs)):xs.length=len:=by
 obtain ⟨F,hF,_⟩:=hm.get k hk
 exact hF.2.2.2
def drnS (v:Value) (xs:List α) (i:Int):Ch where
 pr R h:=(0≤i∧i.toNat<xs.length∧xs.length≤140737488355328)∧(drnV v xs (i+1)).pr R h
 loc R h h2 hp hh:=⟨hp.1,(drnV v xs (i+1)).loc R h h2 hp.2 hh⟩
 mono R R' h hp hR:=⟨hp.1,(drnV v xs (i+1)).mono R R' h hp.2 hR⟩
theorem Mem.drnH_gone (hm:Mem w0 hz w L) (k:Nat) (hk:L[k]?=some (drnH b off len cap xs i.toNat ecs)) (h0:0≤i) (hx:xs[i.toNat]?=some x):Mem w0 hz w (L.set k (drnS (.slice (some ⟨b,off,none⟩) len cap) xs i)) :=
 hm.imp k hk λF hF=>by
  refine ⟨⟨h0,(lgE.1 hx).1,?_⟩,.inr ⟨b,off,cap,by rw [hF.2.2.2],by rw [show (i+1).toNat=i.toNat+1 by omega];exact hF.1⟩⟩
  obtain ⟨C,T,fps,e1,e2,e3,e4,e5,_⟩:=hF.1
  have:=e5.2
  omega
theorem Mem.drnS_next (hm:Mem w0 hz w L) (k:Nat) (hk:L[k]?=some (drnS v xs i)):Mem w0 hz w (L.set k (drnV v xs (i+1))):=hm.imp k hk λF hF=>hF.2
end
end Go.Wk
namespace Go.Wk
open Go Go.RowKit
section
variable {α:Type} [GT α] {w0 w:World} {hz:Heap} {L:List Ch} {b off len cap:Nat} {xs ys zs:List α} {x:α} {ecs:List Value}
def gapC (b off len cap:Nat) (ys zs:List α) (ecs:List Value):Ch where
 pr R h:=(gap b off len cap ys zs).pr R h∧CellsAt h b (off+ys.length*GT.sz α) ecs∧R b∧ys.length+zs.length<len
 loc R h h2 hp hh:=⟨(gap b off len cap ys zs).loc R h h2 hp.1 hh,by
  obtain ⟨C,T,fz,h1,h2'⟩:=hp.2.1
  exact ⟨C,T,fz,(hh b hp.2.2.1).trans h1,h2'⟩,hp.2.2⟩
 mono R R' h hp hR:=⟨(gap b off len cap ys zs).mono R R' h hp.1 hR,hp.2.1,hR b hp.2.2.1,hp.2.2.2⟩
theorem y_subL {P : Program} {l : Env} {o : Oper} {X Y : Operand} {t e : TypeId} {k : IntKind} {lo : Nat} (hT : SliceTy P t e (GT.sz α)) (ho : o.op = .slice t X (some Y) none none) (hx : ev l X = some (.slice (some ⟨b, off, none⟩) len cap)) (hl : ev l Y = some (.int k (lo : Int))) (h1 : lo ≤ len) (h2 : len ≤ cap) :
  Yl P l w o (subV (GT.sz α) (.slice (some ⟨b,off,none⟩) len cap) lo len):=λn a hf=>by
 have:=run_sub (α:=α) (P:=P) hT (p:=some ⟨b,off,none⟩) (len:=len) (cap:=cap) w (some (.int k lo)) none lo len (.inr ⟨_,rfl⟩) (.inl ⟨rfl,rfl⟩) h1 (Nat.le_refl _) h2
 simp [execOp,ho,hf.eval hx,hf.eval hl,Instr.sliceAt,run_underlying hT.und,this]
theorem y_subH {P : Program} {l : Env} {o : Oper} {X Y : Operand} {t e : TypeId} {k : IntKind} {hi : Nat} (hT : SliceTy P t e (GT.sz α)) (ho : o.op = .slice t X none (some Y) none) (hx : ev l X = some (.slice (some ⟨b, off, none⟩) len cap)) (hh : ev l Y = some (.int k (hi : Int))) (h1 : hi ≤ len) (h2 : len ≤ cap) (h3 : 0 < cap) :
  Yl P l w o (.slice (some ⟨b,off,none⟩) hi cap):=λn a hf=>by
 have:=run_sub (α:=α) (P:=P) hT (p:=some ⟨b,off,none⟩) (len:=len) (cap:=cap) w none (some (.int k hi)) 0 hi (.inl ⟨rfl,rfl⟩) (.inr ⟨_,rfl⟩) (Nat.zero_le _) h1 h2
 have e:subV (GT.sz α) (.slice (some ⟨b,off,none⟩) len cap) 0 hi=.slice (some ⟨b,off,none⟩) hi cap:=by
  simp [subV,add_none]
 rw [e] at this
 simp [execOp,ho,hf.eval hx,hf.eval hh,Instr.sliceAt,run_underlying hT.und,this]
end
end Go.Wk
namespace Go.Wk
open Go Go.RowKit
section
variable {α:Type} [GT α] {w0 w:World} {hz:Heap} {L:List Ch} {b off len cap:Nat} {xs ys zs:List α} {x:α} {ecs:List Value}
theorem e_appendE {P : Program} {a : Act} {o : Oper} {n : Nat} {l : Env} {v sv z : Value} {X Y : Operand} {t e : TypeId} {news : List Value} (k : Nat) (hT : ElemTy P t e (GT.sz α) z) (hf : Fr n l a) (hm : Mem w0 hz w L)
  (hk:L[k]?=some (both (ow [sv] xs) (els news ys))) (hS:Src w (GT.sz α) ys.length v news) (ho:o.op=.call { callee:=.builtin .append,args:=#[X,Y],argTypes:=#[t,t] })
  (hx:ev l X=some sv) (hy:ev l Y=some v) (hlen:xs.length+ys.length≤2147483648) :
  Ef P a w o (λv' w'=>Mem w0 hz w' (L.set k (ow [v'] (xs++ys)))):=by
 have key : ∀ F G : Nat → Prop, (∀ b, F b → b < w.heap.size) → (∀ b, G b → b < w.heap.size) → (∀ b, F b → ¬ G b) → GT.own F (hp w) [sv] xs → (els news ys).pr G (hp w) →
   ∃ v' w',(Builtin.append_ #[t,t] o.type #[sv,v]).run P w=.ok v' w'∧Same w w'∧(∀ b,b<w.heap.size→¬ F b→w'.heap[b]?=w.heap[b]?) ∧
   ∃ F',(∀ b,F' b→F b∨G b∨w.heap.size≤b)∧(∀ b,F' b→b<w'.heap.size)∧sliceOwn F' (hp w') v' (xs++ys):=by
  intro F G hF hG hFG hx hy
  obtain ⟨_,fps,g2,g3,g1⟩:=hy
  obtain ⟨v',w',hr,hs,hout,F',f1,f2,f3⟩:=run_app (ty:=o.type) hT (own_list.1 hx) hF hS rfl fps g1 (λi c hc=>⟨λhf=>hFG c hf (g2 i c hc),hG c (g2 i c hc)⟩) g3 hlen
  exact ⟨v',w',hr,hs,hout,F',λb hb=>by
   rcases f1 b hb with h | ⟨i,h⟩ | h
   ·exact .inl h
   ·exact .inr (.inl (g2 i b h))
   ·exact .inr (.inr h),f2,f3⟩
 obtain ⟨F0,⟨F,G,a1,a2,a3,hF,hG⟩,hFw⟩:=hm.get k hk
 obtain ⟨v',w',hr,hs,hout,F',f1,f2,f3⟩:=key F G (λb hb=>(hFw b (a1 b hb)).1) (λb hb=>(hFw b (a2 b hb)).1) a3 hF hG
 refine ef_value (w':=w') (v:=v') ?_ ?_
 ·simp [execOp,ho,resolve,invoke,builtin,hf.eval hx,hf.eval hy,hr]
 ·refine hm.upd k hk hs fun H0 ⟨H, I, b1, b2, b3, hH, hI⟩ hGw => ?_
  obtain ⟨v2,w2,hr2,hs2,hout2,F2,p1,p2,p3⟩:=key H I (λb hb=>hGw b (b1 b hb)) (λb hb=>hGw b (b2 b hb)) b3 hH hI
  rw [hr] at hr2
  simp only [Result.ok.injEq] at hr2
  obtain ⟨rfl,rfl⟩:=hr2
  refine ⟨F2,λb hb=>?_,p2,own_list.2 p3,λb hb hn=>hout2 b hb (λh=>hn (b1 b h))⟩
  rcases p1 b hb with h | h | h
  ·exact .inl (b1 b h)
  ·exact .inl (b2 b h)
  ·exact .inr h
theorem Mem.gap_ys (hm : Mem w0 hz w L) (k : Nat) (hk : L[k]? = some (gap b off len cap ys zs)) :
  ∃ news,(∀ c,Src w (GT.sz α) ys.length (.slice (some ⟨b,off,none⟩) ys.length c) news)∧Mem w0 hz w (els news ys::L.set k (gap b off len cap [] zs)):=by
 obtain ⟨F,hF,hFw⟩:=hm.get k hk
 obtain ⟨C,T,fps,e1,e2,e3,e4,e5,e6,e7,e8,e9,e10⟩:=hF
 have hfit:off+ys.length*GT.sz α≤C.size:=by
  have:=Nat.mul_le_mul_right (GT.sz α) (show ys.length≤cap by omega)
  omega
 have hone:∀ u∈seg C off (ys.length*GT.sz α),u.oneCell'=true:=by
  intro u hu
  obtain ⟨j,hj,hju⟩:=List.mem_iff_getElem.1 hu
  have hsl:=seg_len hfit
  have hpos:0<GT.sz α:=by
   rcases Nat.eq_zero_or_pos (GT.sz α) with h | h
   ·rw [hsl,h] at hj;omega
   ·exact h
  have hi:j / GT.sz α<ys.length:=(Nat.div_lt_iff_lt_mul hpos).2 (by omega)
  have h4:=e9 _ _ (List.getElem?_eq_getElem hi)
  rw [seg_seg (mul_lt_of hi)] at h4
  refine GT.one (GT.own_rep h4) u (List.mem_iff_getElem?.2 ⟨j % GT.sz α,?_⟩)
  rw [List.getElem?_take_of_lt (Nat.mod_lt j hpos),List.getElem?_drop,show j / GT.sz α*GT.sz α+j % GT.sz α=j by rw [Nat.mul_comm];exact Nat.div_add_mod j _,List.getElem?_eq_getElem hj,hju]
 refine ⟨seg C off (ys.length*GT.sz α),λc=>⟨seg_len hfit,hone,.inr ⟨_,c,rfl,cells_of_seg e1⟩⟩,hm.split k hk λF' hF'=>?_⟩
 obtain ⟨C',T',fps',a1,a2,a3,a4,a5,a6,a7,a8,a9,a10⟩:=hF'
 rw [e1] at a1
 simp only [osI,Obj.cells.injEq] at a1
 obtain ⟨rfl,rfl,_⟩:=a1
 refine ⟨λc=>F' c∧¬ ∃ j,j<ys.length∧fps' j c,λc=>∃ j,j<ys.length∧fps' j c,λc hc=>hc.1,λc ⟨j,_,hc⟩=>(a7 j c hc).1,λc hc=>hc.2,?_,?_⟩
 ·refine ⟨C, T, fun j c => ys.length ≤ j ∧ fps' j c, e1, ⟨a2, fun ⟨j, _, hc⟩ => (a7 j b hc).2 rfl⟩, by simp; omega, a4, a5, a6, ?_, ?_, fun j y hy => by simp at hy, fun j y hy => ?_⟩
  ·rintro j c ⟨hj, hc⟩
   exact ⟨⟨(a7 j c hc).1,λ⟨q,hq,hc'⟩=>a8 j q c (by omega) hc hc'⟩,(a7 j c hc).2⟩
  ·rintro j q c hjq ⟨_, hc⟩ ⟨_, hc'⟩
   exact a8 j q c hjq hc hc'
  ·exact GT.own_mono (λc hc=>⟨by omega,hc⟩) (a10 j y hy)
 ·refine ⟨seg_len hfit, fun j c => j < ys.length ∧ fps' j c, fun j c hc => ⟨j, hc⟩, fun i j c hij hi hj => a8 i j c hij hi.2 hj.2, fun j y hy => ?_⟩
  have hj:=(lgE.1 hy).1
  have h:=a9 j y hy
  rw [seg_seg (mul_lt_of hj)] at h
  exact GT.own_mono (λc hc=>⟨hj,hc⟩) h
end
end Go.Wk
namespace Go.Wk
open Go Go.RowKit
section
variable {α:Type} [GT α] {w0 w:World} {hz:Heap} {L:List Ch} {b off len cap i j:Nat} {xs ys zs:List α} {x:α} {ecs news:List Value}
theorem Mem.gap_max (hm:Mem w0 hz w L) (k:Nat) (hk:L[k]?=some (gap b off len cap ys zs)):(ys.length+zs.length≤len∧len≤cap)∧len≤140737488355328:=by
 refine ⟨hm.gap_len k hk,?_⟩
 obtain ⟨F,⟨C,T,fps,e1,e2,e3,e4,e5,_⟩,hFw⟩:=hm.get k hk
 exact e5.2
theorem Mem.gap_zsG (hm : Mem w0 hz w L) (k : Nat) (hk : L[k]? = some (gap b off len cap ys zs)) :
  ∃ news,(∀ c,Src w (GT.sz α) zs.length (.slice (some ⟨b,off+(len - zs.length)*GT.sz α,none⟩) zs.length c) news)∧Mem w0 hz w (els news zs::L.set k (gap b off len cap ys [])):=by
 obtain ⟨F,hF,hFw⟩:=hm.get k hk
 obtain ⟨C,T,fps,e1,e2,e3,e4,e5,e6,e7,e8,e9,e10⟩:=hF
 have hsum:(len - zs.length)*GT.sz α+zs.length*GT.sz α=len*GT.sz α:=by rw [← Nat.add_mul];congr 1;omega
 have hcl:len*GT.sz α≤cap*GT.sz α:=Nat.mul_le_mul_right _ e4
 have hfit:off+(len - zs.length)*GT.sz α+zs.length*GT.sz α≤C.size:=by omega
 have hpos2:∀ j,off+(len - zs.length+j)*GT.sz α=off+(len - zs.length)*GT.sz α+j*GT.sz α:=λj=>by rw [Nat.add_mul];omega
 have hone:∀ u∈seg C (off+(len - zs.length)*GT.sz α) (zs.length*GT.sz α),u.oneCell'=true:=by
  intro u hu
  obtain ⟨j,hj,hju⟩:=List.mem_iff_getElem.1 hu
  have hsl:=seg_len hfit
  have hpos:0<GT.sz α:=by
   rcases Nat.eq_zero_or_pos (GT.sz α) with h | h
   ·rw [hsl,h] at hj;omega
   ·exact h
  have hi:j / GT.sz α<zs.length:=(Nat.div_lt_iff_lt_mul hpos).2 (by omega)
  have h4:=e10 _ _ (List.getElem?_eq_getElem hi)
  rw [hpos2,seg_seg (mul_lt_of hi)] at h4
  refine GT.one (GT.own_rep h4) u (List.mem_iff_getElem?.2 ⟨j % GT.sz α,?_⟩)
  rw [List.getElem?_take_of_lt (Nat.mod_lt j hpos),List.getElem?_drop,show j / GT.sz α*GT.sz α+j % GT.sz α=j by rw [Nat.mul_comm];exact Nat.div_add_mod j _,List.getElem?_eq_getElem hj,hju]
 refine ⟨seg C (off+(len - zs.length)*GT.sz α) (zs.length*GT.sz α),λc=>⟨seg_len hfit,hone,.inr ⟨_,c,rfl,cells_of_seg e1⟩⟩,hm.split k hk λF' hF'=>?_⟩
 obtain ⟨C',T',fps',a1,a2,a3,a4,a5,a6,a7,a8,a9,a10⟩:=hF'
 rw [e1] at a1
 simp only [osI,Obj.cells.injEq] at a1
 obtain ⟨rfl,rfl,_⟩:=a1
 refine ⟨λc=>F' c∧¬ ∃ j,len - zs.length≤j∧fps' j c,λc=>∃ j,len - zs.length≤j∧fps' j c,λc hc=>hc.1,λc ⟨j,_,hc⟩=>(a7 _ c hc).1,λc hc=>hc.2,?_,?_⟩
 ·refine ⟨C, T, fun j c => j < len - zs.length ∧ fps' j c, e1, ⟨a2, fun ⟨j, _, hc⟩ => (a7 j b hc).2 rfl⟩, by simp; omega, a4, a5, a6, ?_, ?_, fun j y hy => ?_, fun j y hy => by simp at hy⟩
  ·rintro j c ⟨hj, hc⟩
   exact ⟨⟨(a7 j c hc).1,λ⟨q,hq,hc'⟩=>a8 j q c (by omega) hc hc'⟩,(a7 j c hc).2⟩
  ·rintro j q c hjq ⟨_, hc⟩ ⟨_, hc'⟩
   exact a8 j q c hjq hc hc'
  ·have hj := (lgE.1 hy).1
   exact GT.own_mono (λc hc=>⟨by omega,hc⟩) (a9 j y hy)
 ·refine ⟨seg_len hfit, fun j c => j < zs.length ∧ fps' (len - zs.length + j) c, fun j c hc => ⟨_, by omega, hc.2⟩, fun i j c hij hi hj => a8 _ _ c (by omega) hi.2 hj.2, fun j y hy => ?_⟩
  have hj:=(lgE.1 hy).1
  have h:=a10 j y hy
  rw [hpos2,seg_seg (mul_lt_of hj)] at h
  exact GT.own_mono (λc hc=>⟨hj,hc⟩) h
theorem src_sub {n : Nat} (hS : ∀ c, Src w (GT.sz α) zs.length (.slice (some ⟨b, off + (len - zs.length) * GT.sz α, none⟩) zs.length c) news) (hn : n = len - zs.length) (h1 : zs.length ≤ len) (h2 : len ≤ cap) :
  Src w (GT.sz α) zs.length (subV (GT.sz α) (.slice (some ⟨b,off,none⟩) len cap) n len) news:=by
 subst hn
 have e:len - (len - zs.length)=zs.length:=by omega
 by_cases hc:cap=len - zs.length
 ·have hz0 : zs.length = 0 := by omega
  obtain ⟨g1,g2,_⟩:=hS 0
  refine ⟨g1,g2,.inr ⟨⟨b,off,none⟩,cap - (len - zs.length),?_,λj u hj=>?_⟩⟩
  ·simp [subV,hc,e]
  ·rw [hz0] at g1
   have:news=[]:=List.eq_nil_of_length_eq_zero (by simpa using g1)
   subst this
   simp at hj
 ·simp only [subV, hc, if_false, Option.map_some, add_none, e]
  exact hS _
section
variable {P:Program} {l:Env} {o:Oper} {X Y Z Z1:Operand} {t e:TypeId} {k k2 k3:IntKind} {lo hi:Int} {n m:Nat}
theorem y_subHI (hT : SliceTy P t e (GT.sz α)) (ho : o.op = .slice t X none (some Y) none) (hx : ev l X = some (.slice (some ⟨b, off, none⟩) len cap)) (hh : ev l Y = some (.int k hi)) (h0 : 0 ≤ hi) (h1 : hi.toNat < len) (h2 : len ≤ cap) (hn : n = hi.toNat) :
  Yl P l w o (.slice (some ⟨b,off,none⟩) n cap):=by
 obtain ⟨q,rfl⟩:=Int.eq_ofNat_of_zero_le h0
 simp only [Int.toNat_natCast] at h1 hn
 subst hn
 exact y_subH hT ho hx hh (by omega) h2 (by omega)
theorem y_subLI (hT : SliceTy P t e (GT.sz α)) (ho : o.op = .slice t X (some Y) none none) (hx : ev l X = some (.slice (some ⟨b, off, none⟩) len cap)) (hl : ev l Y = some (.int k lo)) (h0 : 0 ≤ lo) (h1 : lo.toNat ≤ len) (h2 : len ≤ cap) (hn : n = lo.toNat) :
  Yl P l w o (subV (GT.sz α) (.slice (some ⟨b,off,none⟩) len cap) n len):=by
 obtain ⟨q,rfl⟩:=Int.eq_ofNat_of_zero_le h0
 simp only [Int.toNat_natCast] at h1 hn
 subst hn
 exact y_subL hT ho hx hl h1 h2
end
end
end Go.Wk
namespace Go.Wk
open Go Go.RowKit
structure Hdr where
 v:Value
instance:MV Hdr:=⟨Hdr.v,λa b h=>by cases a;cases b;cases h;rfl⟩
def hd0 (mh:MapS Hdr) (k:Int):Value:=(mh.get k).elim (.slice none 0 0) Hdr.v
def entL (Q:Value→List Int→Prop) (mh:MapS Hdr) (m:MapS (List Int)) (k:Int):Prop:=(mh.get k=none∧m.get k=none)∨∃ sv l,mh.get k=some sv∧m.get k=some l∧Q sv.v l
theorem entL.imp {Q Q':Value→List Int→Prop} {mh mh':MapS Hdr} {m:MapS (List Int)} {k:Int} (h:entL Q mh m k) (hg:mh.get k=mh'.get k) (hQ:∀ v l,Q v l→Q' v l):entL Q' mh' m k:=by
 rcases h with ⟨h1,h2⟩ | ⟨sv,l,h1,h2,h3⟩
 ·exact .inl ⟨hg▸h1,h2⟩
 ·exact .inr ⟨sv,l,hg▸h1,h2,hQ _ _ h3⟩
def owl (v:Value) (m:MapS (List Int)):Ch where
 pr F h:=∃ r mh,∃ fps:Int→Nat→Prop,v=.map (some r)∧F r∧mapAt h r mh∧(∀ k c,fps k c→F c∧c≠r)∧(∀ k j c,k≠j→fps k c→¬ fps j c)∧∀ k,entL (λsv l=>GT.own (fps k) h [sv] l) mh m k
 loc F h h2:=λ⟨r,mh,fps,e1,e2,⟨E,c,es,a1,a2⟩,e4,e5,e6⟩ hh=>⟨r,mh,fps,e1,e2,⟨E,c,es,(hh r e2).trans a1,a2⟩,e4,e5,λk=>(e6 k).imp rfl λ_ _ ho=>GT.own_loc ho λc hc=>hh c (e4 k c hc).1⟩
 mono F F2 h:=λ⟨r,mh,fps,e1,e2,e3,e4,e5,e6⟩ hF=>⟨r,mh,fps,e1,hF r e2,e3,λk c hc=>⟨hF c (e4 k c hc).1,(e4 k c hc).2⟩,e5,e6⟩
def owlH (v:Value) (m:MapS (List Int)) (key:Int) (sv:Value):Ch where
 pr F h:=∃ r mh,∃ fps:Int→Nat→Prop,v=.map (some r)∧F r∧mapAt h r mh∧(∀ k c,fps k c→F c∧c≠r)∧(∀ k j c,k≠j→fps k c→¬ fps j c)∧(∀ k,k≠key→entL (λsv l=>GT.own (fps k) h [sv] l) mh m k)∧hd0 mh key=sv
 loc F h h2:=λ⟨r,mh,fps,e1,e2,⟨E,c,es,a1,a2⟩,e4,e5,e6,e7⟩ hh=>⟨r,mh,fps,e1,e2,⟨E,c,es,(hh r e2).trans a1,a2⟩,e4,e5,λk hk=>(e6 k hk).imp rfl λ_ _ ho=>GT.own_loc ho λc hc=>hh c (e4 k c hc).1,e7⟩
 mono F F2 h:=λ⟨r,mh,fps,e1,e2,e3,e4,e5,e6,e7⟩ hF=>⟨r,mh,fps,e1,hF r e2,e3,λk c hc=>⟨hF c (e4 k c hc).1,(e4 k c hc).2⟩,e5,e6,e7⟩
instance:GT (MapS (List Int)) where
 sz:=1
 rep h cs m:=∃ v,cs=[v]∧((v=.map none∧m.es=[])∨∃ r mh,v=.map (some r)∧mapAt h r mh∧∀ k,entL (λsv l=>GT.rep h [sv] l) mh m k)
 own F h cs m:=∃ v,cs=[v]∧((v=.map none∧m.es=[])∨(owl v m).pr F h)
 len:=by rintro h cs m ⟨v,rfl,_⟩;rfl
 mono:=by
  rintro h h' cs m hh ⟨v,rfl,hr⟩
  refine ⟨v,rfl,?_⟩
  rcases hr with hr | ⟨r,mh,hv,⟨E,c,es,h1,h2⟩,h3⟩
  ·exact .inl hr
  ·exact .inr ⟨r,mh,hv,⟨E,c,es,hh _ _ h1,h2⟩,λk=>(h3 k).imp rfl λ_ _ hr=>GT.mono hh hr⟩
 own_rep:=by
  rintro F h cs m ⟨v,rfl,hr⟩
  refine ⟨v,rfl,?_⟩
  rcases hr with hr | ⟨r,mh,fps,hv,_,h1,_,_,h2⟩
  ·exact .inl hr
  ·exact .inr ⟨r,mh,hv,h1,λk=>(h2 k).imp rfl λ_ _ ho=>GT.own_rep ho⟩
 own_loc:=by
  rintro F h h' cs m ⟨v,rfl,hr⟩ hh
  exact ⟨v,rfl,hr.imp id λhp=>(owl v m).loc _ _ _ hp hh⟩
 own_mono:=by
  rintro F F' h cs m hF ⟨v,rfl,hr⟩
  exact ⟨v,rfl,hr.imp id λhp=>(owl v m).mono _ _ _ hp hF⟩
 one:=by
  rintro h cs m ⟨v,rfl,hr⟩ u hu
  simp at hu
  subst hu
  rcases hr with ⟨rfl,_⟩ | ⟨r,_,rfl,_⟩<;>rfl
section
variable {P:Program} {a:Act} {w w0:World} {hz:Heap} {L:List Ch} {o:Oper} {n:Nat} {l:Env} {x y z:Operand} {t kt vt:TypeId} {r:Nat} {m:MapS (List Int)} {v sv sv1:Value} {key:Int} {l1:List Int}
end
end Go.Wk
namespace Go.Wk
open Go Go.RowKit
section
variable {α:Type} [GT α] {w0 w:World} {hz:Heap} {L:List Ch} {b off len cap i i2:Nat} {xs:List α} {ecs fcs:List Value}
end
end Go.Wk
namespace Go.Wk
open Go Go.RowKit
section
variable {α:Type} [GT α]
def dho (h0:Heap) (b i:Nat) (cs:List Value) (g:Int→α):Ch where
 pr F h:=∀ (h':Heap) (y:Int),(∀ c,F c→h' c=h c)→h' b=hupd h0 b i (.int .i64 y) b→GT.own (λc=>F c∨c=b) h' cs (g y)
 loc _ _ _ hp hh:=λh' y h1 h2=>hp h' y (λc hc=>(h1 c hc).trans (hh c hc)) h2
 mono _ _ _ hp hF:=λh' y h1 h2=>GT.own_mono (λc hc=>hc.elim (λh=>.inl (hF c h)) .inr) (hp h' y (λc hc=>h1 c (hF c hc)) h2)
variable {w0 w:World} {hz:Heap} {L:List Ch} {cs:List Value} {x:α} {b i:Nat} {n y:Int} {g:Int→α} {h0:Heap}
end
def VisitS {σ:Type} (P:Program) (vf:Value) (f:Int→σ→Option (Int × σ)) (hzc:Heap) (K:σ→Ch):Prop :=
 ∀ (w:World) (hz h0:Heap) (b i:Nat) (x:Int) (s:σ) (y:Int × σ),Heap.le hzc hz→Mem w hz w [celc h0 b i (.int .i64 x),K s]→f x s=some y→FnOk P vf [.pointer (some ⟨b,i,none⟩)] w λ_ w'=>Mem w hz w' [celc h0 b i (.int .i64 y.1),K y.2]
def capM (b:Nat) (T:TypeId) (s:MapS Int):Ch where
 pr F h:=∃ v,(Go.Wk.both (blk b [v] T) (owm v s)).pr F h
 loc _ _ _:=λ⟨v,hp⟩ hh=>⟨v,(Go.Wk.both (blk b [v] T) (owm v s)).loc _ _ _ hp hh⟩
 mono _ _ _:=λ⟨v,hp⟩ hF=>⟨v,(Go.Wk.both (blk b [v] T) (owm v s)).mono _ _ _ hp hF⟩
section
variable {w0 w:World} {hz:Heap} {c:Ch} {b:Nat} {T:TypeId} {s:MapS Int} {v:Value}
end
end Go.Wk
namespace Go.Wk
open Go Go.RowKit
inductive Ou (α:Type) where
 | el (x:α)
 | out (cs:List Value)
section
variable {α:Type} [GT α]
def Ou.rp (h : Heap) (cs : List Value) : Ou α → Prop
 | .el x=>GT.rep h cs x
 | .out ds=>cs=ds∧ds.length=GT.sz α∧∀ u∈ds,u.oneCell'=true
def Ou.ow (F : Nat → Prop) (h : Heap) (cs : List Value) : Ou α → Prop
 | .el x=>GT.own F h cs x
 | .out ds=>cs=ds∧ds.length=GT.sz α∧∀ u∈ds,u.oneCell'=true
instance:GT (Ou α) where
 sz:=GT.sz α
 rep:=Ou.rp
 own:=Ou.ow
 len {h cs x} hr:=by
  cases x with
  | el x=>exact GT.len (α:=α) hr
  | out ds=>have hr:cs=ds∧_:=hr;rw [hr.1];exact hr.2.1
 mono {h h' cs x} hl hr:=by
  cases x with
  | el x=>exact GT.mono (α:=α) hl hr
  | out ds=>exact hr
 own_rep {F h cs x} hr:=by
  cases x with
  | el x=>exact GT.own_rep (α:=α) hr
  | out ds=>exact hr
 own_loc {F h h' cs x} hr hl:=by
  cases x with
  | el x=>exact GT.own_loc (α:=α) hr hl
  | out ds=>exact hr
 own_mono {F F' h cs x} hF hr:=by
  cases x with
  | el x=>exact GT.own_mono (α:=α) hF hr
  | out ds=>exact hr
 one {h cs x} hr:=by
  cases x with
  | el x=>exact GT.one (α:=α) hr
  | out ds=>have hr:cs=ds∧_:=hr;rw [hr.1];exact hr.2.2
def mkOu (xs:List α) (i:Nat) (ecs:List Value):List (Ou α):=(xs.map .el).set i (.out ecs)
variable {w0 w:World} {hz:Heap} {L:List Ch} {b off len cap i j:Nat} {xs ys zs:List α} {x:α} {ecs:List Value}
theorem own_ou {F:Nat→Prop} {h:Heap} (h1:∀ u∈ecs,u.oneCell'=true) (hp:(holeE b off len cap xs i ecs).pr F h):GT.own F h [.slice (some ⟨b,off,none⟩) len cap] (mkOu xs i ecs):=by
 obtain ⟨C,T,fps,e1,e2,e3,e4,e5,e6,e7,e8,e9,e10,e11⟩:=hp
 have hil:off+i*GT.sz α+GT.sz α≤C.size:=by
  have:=mul_lt_of (s:=GT.sz α) (show i<cap by omega)
  omega
 refine own_list.2 (.inr ⟨b,off,len,cap,C,T,rfl,e2,e1,by simp [mkOu,e3],e4,e5,e6,λq c=>q≠i∧fps q c,λq c hc=>e7 q c hc.2,λq r c hqr hc hc'=>e8 q r c hqr hc.2 hc'.2,λq y hy=>?_⟩)
 unfold mkOu at hy
 by_cases e:q=i
 ·subst e
  rw [List.getElem?_set_self (by simpa using e10)] at hy
  obtain rfl:=Option.some.inj hy
  exact ⟨e11,by rw [← e11];exact seg_len hil,h1⟩
 ·rw [List.getElem?_set_ne (Ne.symm e), List.getElem?_map] at hy
  obtain ⟨z,hz,rfl⟩:=Option.map_eq_some_iff.1 hy
  exact GT.own_mono (α:=α) (λc hc=>⟨e,hc⟩) (e9 q z e hz)
theorem ou_own {F:Nat→Prop} {h:Heap} {v:Value} (hi:i<xs.length) (ho:GT.own F h [v] (mkOu xs i ecs)):∃ b off cap,v=.slice (some ⟨b,off,none⟩) xs.length cap∧(holeE b off xs.length cap xs i ecs).pr F h:=by
 rcases own_list.1 ho with ⟨_,hx⟩ | ⟨b,off,len,cap,C,T,hv,hFb,hb,hlen,hcap,hmx,hs,fps,h1,h2,h3⟩
 ·exfalso
  have:=congrArg List.length hx
  simp [mkOu] at this
  subst this;simp at hi
 ·have hl : xs.length = len := by simpa [mkOu] using hlen
  subst hl
  refine ⟨b,off,cap,hv,C,T,fps,hb,hFb,rfl,hcap,hmx,hs,h1,h2,λq y hq hy=>?_,hi,?_⟩
  ·refine h3 q (.el y) ?_
   rw [mkOu,List.getElem?_set_ne (Ne.symm hq),List.getElem?_map,hy];rfl
  ·have := h3 i (.out ecs) (by rw [mkOu, List.getElem?_set_self (by simpa using hi)])
   exact this.1
theorem Mem.holeE_in (hm:Mem w0 hz w L) (k:Nat) (hk:L[k]?=some (holeE b off len cap xs i ecs)):i<xs.length:=by
 obtain ⟨F,⟨C,T,fps,e1,e2,e3,e4,e5,e6,e7,e8,e9,e10,e11⟩,_⟩:=hm.get k hk
 exact e10
theorem Mem.holeE_ex (hm:Mem w0 hz w L) (k:Nat) (hk:L[k]?=some (holeE b off len cap xs i ecs)):∃ x,xs[i]?=some x :=
 ⟨_,List.getElem?_eq_getElem (hm.holeE_in k hk)⟩
theorem e_appendH {P : Program} {a : Act} {o : Oper} {n : Nat} {l : Env} {v z : Value} {X Y : Operand} {t e : TypeId} (k : Nat) (hT : ElemTy P t e (GT.sz α) z) (hf : Fr n l a) (hm : Mem w0 hz w L)
  (hk:L[k]?=some (both (holeE b off len cap xs i ecs) (ow [v] ys))) (h1:∀ u∈ecs,u.oneCell'=true) (ho:o.op=.call { callee:=.builtin .append,args:=#[X,Y],argTypes:=#[t,t] })
  (hx:ev l X=some (.slice (some ⟨b,off,none⟩) len cap)) (hy:ev l Y=some v) (hlen:xs.length+ys.length≤2147483648) :
  Ef P a w o (λv' w'=>∃ b' off' cap',v'=.slice (some ⟨b',off',none⟩) (xs++ys).length cap'∧Mem w0 hz w' (L.set k (holeE b' off' (xs++ys).length cap' (xs++ys) i ecs))):=by
 have hi:i<xs.length:=by
  obtain ⟨F0,⟨F,G,a1,a2,a3,hF,hG⟩,hFw⟩:=hm.get k hk
  obtain ⟨C,T,fps,e1,e2,e3,e4,e5,e6,e7,e8,e9,e10,e11⟩:=hF
  exact e10
 have hm2:Mem w0 hz w (L.set k (both (ow [.slice (some ⟨b,off,none⟩) len cap] (mkOu xs i ecs)) (ow [v] (ys.map Ou.el)))):=hm.imp k hk λF ⟨F1,G,a1,a2,a3,hF,hG⟩=>by
  refine ⟨F1,G,a1,a2,a3,own_ou h1 hF,own_list.2 ?_⟩
  rcases own_list.1 hG with ⟨hv,hx⟩ | ⟨b,off,len,cap,C,T,hv,hFb,hb,hlen,hcap,hmx,hs,fps,h1,h2,h3⟩
  ·exact .inl ⟨hv,by rw [hx];rfl⟩
  ·refine .inr ⟨b, off, len, cap, C, T, hv, hFb, hb, by simpa using hlen, hcap, hmx, hs, fps, h1, h2, fun q y hy => ?_⟩
   rw [List.getElem?_map] at hy
   obtain ⟨z,hz,rfl⟩:=Option.map_eq_some_iff.1 hy
   exact h3 q z hz
 have hkl:k<L.length:=(lgE.1 hk).1
 refine (e_appendD (α:=Ou α) k hT hf hm2 (List.getElem?_set_self hkl) ho hx hy (by simpa [mkOu] using hlen)).mono λv' w' hm3=>?_
 rw [List.set_set] at hm3
 have he:mkOu xs i ecs++ys.map Ou.el=mkOu (xs++ys) i ecs:=by
  unfold mkOu
  rw [List.map_append,List.set_append_left _ _ (by simpa using hi)]
 rw [he] at hm3
 have hi2:i<(xs++ys).length:=by simp;omega
 obtain ⟨F,hF,_⟩:=hm3.get k (List.getElem?_set_self hkl)
 obtain ⟨b',off',cap',rfl,_⟩:=ou_own hi2 hF
 refine ⟨b',off',cap',rfl,?_⟩
 have:=hm3.imp (c':=holeE b' off' (xs++ys).length cap' (xs++ys) i ecs) k (List.getElem?_set_self hkl) λF hF=>by
  obtain ⟨b2,off2,cap2,hv,hp⟩:=ou_own hi2 hF
  simp only [Value.slice.injEq,osI,Addr.mk.injEq,true_and] at hv
  obtain ⟨⟨rfl,rfl,_⟩,rfl⟩:=hv
  exact hp
 rwa [List.set_set] at this
theorem e_appendHx {P : Program} {a : Act} {o : Oper} {n : Nat} {l : Env} {v z : Value} {X Y : Operand} {t e : TypeId} (k : Nat) (hT : ElemTy P t e (GT.sz α) z) (hf : Fr n l a) (hm : Mem w0 hz w L)
  (hk:L[k]?=some (both (holeE b off len cap xs i ecs) (ow [v] ys))) (h1:∀ u∈ecs,u.oneCell'=true) (ho:o.op=.call { callee:=.builtin .append,args:=#[X,Y],argTypes:=#[t,t] })
  (hx:ev l X=some (.slice (some ⟨b,off,none⟩) len cap)) (hy:ev l Y=some v) (hlen:xs.length+ys.length≤2147483648) (he:xs++ys=zs) :
  Ef P a w o (λv' w'=>∃ b' off' cap',v'=.slice (some ⟨b',off',none⟩) zs.length cap'∧Mem w0 hz w' (L.set k (holeE b' off' zs.length cap' zs i ecs))):=by
 subst he
 exact e_appendH k hT hf hm hk h1 ho hx hy hlen
theorem own_el {F:Nat→Prop} {h:Heap} {v:Value} (ho:GT.own F h [v] xs):GT.own F h [v] (xs.map Ou.el):=by
 rcases own_list.1 ho with ⟨hv,hx⟩ | ⟨b,off,len,cap,C,T,hv,hFb,hb,hlen,hcap,hmx,hs,fps,h1,h2,h3⟩
 ·exact own_list.2 (.inl ⟨hv,by rw [hx];rfl⟩)
 ·refine own_list.2 (.inr ⟨b, off, len, cap, C, T, hv, hFb, hb, by simpa using hlen, hcap, hmx, hs, fps, h1, h2, fun q y hy => ?_⟩)
  rw [List.getElem?_map] at hy
  obtain ⟨z,hz,rfl⟩:=Option.map_eq_some_iff.1 hy
  exact h3 q z hz
theorem e_appendP {P : Program} {a : Act} {o : Oper} {n bb ty : Nat} {l : Env} {sv z : Value} {X Y : Operand} {t e : TypeId} {cs : List Value} (x : α) (k : Nat) (hT : ElemTy P t e (GT.sz α) z) (hf : Fr n l a) (hm : Mem w0 hz w L)
  (hk:L[k]?=some (both (ow [sv] xs) (blk bb cs ty))) (hcl:cs.length=GT.sz α) (h1:∀ u∈cs,u.oneCell'=true) (ho:o.op=.call { callee:=.builtin .append,args:=#[X,Y],argTypes:=#[t,t] })
  (hx:ev l X=some sv) (hy:ev l Y=some (.slice (some ⟨bb,0,none⟩) 1 1)) (hlen:xs.length+[x].length≤2147483648) (he:xs++[x]=zs) :
  Ef P a w o (λv' w'=>∃ b' off' cap',v'=.slice (some ⟨b',off',none⟩) zs.length cap'∧Mem w0 hz w' (L.set k (holeE b' off' zs.length cap' zs ((xs.length:Nat):Int).toNat cs))):=by
 subst he
 rw [Int.toNat_natCast]
 have hm2:Mem w0 hz w (L.set k (both (ow [sv] (xs.map Ou.el)) (ow [.slice (some ⟨bb,0,none⟩) 1 1] [(Ou.out cs:Ou α)]))):=hm.imp k hk λF ⟨F1,G,a1,a2,a3,hF,hG⟩=>by
  refine ⟨F1,G,a1,a2,a3,own_el hF,own_list.2 (.inr ⟨bb,0,1,1,cs.toArray,ty,rfl,hG.1,hG.2,rfl,Nat.le_refl _,⟨by simp [maxLen],by omega⟩,?_,λ_ _=>False,λ_ _ h=>h.elim,λ_ _ _ _ h=>h.elim,λq y hy=>?_⟩)⟩
  ·show 0 + 1 * GT.sz α ≤ cs.toArray.size
   simp [hcl]
  ·cases q with
   | zero =>
    obtain rfl:=Option.some.inj hy
    refine ⟨?_,hcl,h1⟩
    rw [seg_list]
    show List.take (GT.sz α) (List.drop (0+0*GT.sz α) cs)=cs
    simp [← hcl]
   | succ q=>simp at hy
 have hkl:k<L.length:=(lgE.1 hk).1
 refine (e_appendD (α:=Ou α) k hT hf hm2 (List.getElem?_set_self hkl) ho hx hy (by simpa using hlen)).mono λv' w' hm3=>?_
 rw [List.set_set] at hm3
 have he:xs.map Ou.el++[(Ou.out cs:Ou α)]=mkOu (xs++[x]) xs.length cs:=by
  unfold mkOu
  rw [List.map_append,List.set_append_right _ _ (by simp)]
  simp
 rw [he] at hm3
 have hi2:xs.length<(xs++[x]).length:=by simp
 obtain ⟨F,hF,_⟩:=hm3.get k (List.getElem?_set_self hkl)
 obtain ⟨b',off',cap',rfl,_⟩:=ou_own hi2 hF
 refine ⟨b',off',cap',rfl,?_⟩
 have:=hm3.imp (c':=holeE b' off' (xs++[x]).length cap' (xs++[x]) xs.length cs) k (List.getElem?_set_self hkl) λF hF=>by
  obtain ⟨b2,off2,cap2,hv,hp⟩:=ou_own hi2 hF
  simp only [Value.slice.injEq,osI,Addr.mk.injEq,true_and] at hv
  obtain ⟨⟨rfl,rfl,_⟩,rfl⟩:=hv
  exact hp
 rwa [List.set_set] at this
theorem snoc_at {α:Type} {xs zs:List α} {x:α} (he:xs++[x]=zs):zs[((xs.length:Nat):Int).toNat]?=some x:=by
 subst he;simp
theorem Mem.hole_gap (hm:Mem w0 hz w L) (k:Nat) (hk:L[k]?=some (holeE b off len cap xs i ecs)) (hj:j=i+1):Mem w0 hz w (L.set k (gap b off len cap (xs.take i) (xs.drop j))) :=
 hm.imp k hk λF ⟨C,T,fps,e1,e2,e3,e4,e5,e6,e7,e8,e9,e10,e11⟩=>by
  subst hj
  refine ⟨C,T,fps,e1,e2,by simp;omega,e4,e5,e6,e7,e8,λq y hq=>?_,λq y hq=>?_⟩
  ·have hlt := (lgE.1 hq).1
   simp at hlt
   rw [List.getElem?_take,if_pos (by omega)] at hq
   exact e9 q y (by omega) hq
  ·have hlt := (lgE.1 hq).1
   simp at hlt
   rw [List.getElem?_drop] at hq
   have:=e9 (i+1+q) y (by omega) hq
   rw [List.length_drop,show len - (xs.length - (i+1))+q=i+1+q by omega]
   exact this
theorem Mem.gap_clip (hm:Mem w0 hz w L) (k:Nat) (hk:L[k]?=some (gap b off len cap ys zs)):Mem w0 hz w (L.set k (ow [.slice (some ⟨b,off,none⟩) ys.length ys.length] ys)) :=
 hm.imp k hk λF ⟨C,T,fps,e1,e2,e3,e4,e5,e6,e7,e8,e9,e10⟩=>by
  have h2:=e5.2
  refine own_list.2 (.inr ⟨b,off,_,_,C,T,rfl,e2,e1,rfl,Nat.le_refl _,⟨by omega,by omega⟩,?_,fps,e7,e8,e9⟩)
  have:=Nat.mul_le_mul_right (GT.sz α) (show ys.length≤cap by omega)
  omega
theorem subV_some {s:Nat} {p:Addr} {len cap lo hi:Nat}:subV s (.slice (some p) len cap) lo hi=.slice (some (if cap=lo then p else p.add (lo*s))) (hi - lo) (cap - lo):=by
 simp only [subV];split<;>rfl
theorem y_clip {P : Program} {l : Env} {o : Oper} {t e : TypeId} {X Y Z : Operand} {n : Nat} {k k3 : IntKind} (hT : SliceTy P t e (GT.sz α)) (ho : o.op = .slice t X none (some Y) (some Z)) (hx : ev l X = some (.slice (some ⟨b, off, none⟩) n cap)) (hh : ev l Y = some (.int k (n : Int))) (hq : ev l Z = some (.int k3 (n : Int))) (h3 : n ≤ cap) :
  Yl P l w o (.slice (some ⟨b,off,none⟩) n n):=λq a hf=>by
 by_cases hc:n=0
 ·subst hc
  simp [execOp,ho,hf.eval hx,hf.eval hh,hf.eval hq,Instr.sliceAt,run_underlying hT.und,Instr.slice,Instr.sliceBounds,Instr.sliceBound,asIntOf,h3,hT.size]
 ·simp [execOp, ho, hf.eval hx, hf.eval hh, hf.eval hq, Instr.sliceAt, run_underlying hT.und, Instr.slice, Instr.sliceBounds, Instr.sliceBound, asIntOf, h3, hT.size, hc]
  try simp [add_none]
end
end Go.Wk
namespace Go.Wk
open Go Go.RowKit
def NonInt (v:Value):Prop:=∀ k n,v≠.int k n
def IntEq (o o':Option Obj):Prop:=∀ C T z,o=some (.cells C T z)→∃ C',o'=some (.cells C' T z)∧C'.size=C.size∧∀ (j:Nat) (v:Value),C[j]?=some v→NonInt v→C'[j]?=some v
theorem IntEq.refl (o:Option Obj):IntEq o o:=λC _ _ h=>⟨C,h,rfl,λ_ _ h _=>h⟩
def Shp (_:Heap) (α:Type):Type:=α
instance {α:Type} [GT α] {h0:Heap}:GT (Shp h0 α) where
 sz:=GT.sz α
 rep h cs x:=GT.rep (α:=α) h cs x
 own F h cs x:=∃ F0:Nat→Prop,(∀ b,F0 b→F b)∧GT.own (α:=α) F0 h cs x∧∀ b,F0 b→IntEq (h0 b) (h b)
 len hr:=GT.len (α:=α) hr
 mono hl hr:=GT.mono (α:=α) hl hr
 own_rep:=λ⟨_,_,h,_⟩=>GT.own_rep (α:=α) h
 own_loc:=λ⟨F0,a,b,c⟩ hl=>⟨F0,a,GT.own_loc (α:=α) b λq hq=>hl q (a q hq),λq hq=>by rw [hl q (a q hq)];exact c q hq⟩
 own_mono:=λhF ⟨F0,a,b,c⟩=>⟨F0,λq hq=>hF q (a q hq),b,c⟩
 one hr:=GT.one (α:=α) hr
theorem sh_rep {α:Type} [GT α] {h0 h:Heap} {cs:List Value} {x:α} (hr:GT.rep (α:=Shp h0 α) h cs x):GT.rep (α:=α) h cs x:=hr
section
variable {α:Type} [GT α] {w0 w:World} {hz h0:Heap} {L:List Ch} {b off len cap i:Nat} {cs:List Value} {n:Int}
theorem Mem.sh_in {x:α} (hm:Mem w0 hz w L) (k:Nat) (hk:L[k]?=some (ow cs x)):Mem w0 hz w (L.set k (ow (α:=Shp (hp w) α) cs x)) :=
 hm.imp k hk λF hF=>⟨F,λ_ h=>h,hF,λ_ _=>IntEq.refl _⟩
theorem sh_deep {g:Int→α} {h:Heap} {x:Shp h0 α} (hd:∀ F,GT.own (α:=α) F h cs x→Deep F h cs b i n g):∀ F,GT.own (α:=Shp h0 α) F h cs x→Deep (α:=Shp h0 α) F h cs b i n g:=by
 rintro F ⟨F0,a1,a2,a3⟩
 obtain ⟨d1,⟨C,T,c1,c2⟩,d3⟩:=hd F0 a2
 refine ⟨a1 b d1,⟨C,T,c1,c2⟩,λy=>⟨F0,a1,d3 y,λc hc=>?_⟩⟩
 by_cases e:c=b
 ·subst e
  rw [hupd_at c1]
  intro C0 T0 z0 h
  obtain ⟨C1,e1,e2,e3⟩:=a3 c hc C0 T0 z0 h
  rw [c1] at e1
  simp only [osI,Obj.cells.injEq] at e1
  obtain ⟨rfl,rfl,rfl⟩:=e1
  refine ⟨_,rfl,by simpa using e2,λj v hj hv=>?_⟩
  have hne:i≠j:=by
   rintro rfl
   have:=e3 i v hj hv
   rw [c2] at this
   exact hv _ _ (Option.some.inj this).symm
  rw [Array.getElem?_setIfInBounds_ne hne]
  exact e3 j v hj hv
 ·rw [hupd_ne e];exact a3 c hc
theorem Mem.sh_one {xs : List α} {x : α} (hm : Mem w0 hz w L) (k : Nat) (hk : L[k]? = some (ow (α := Shp h0 (List α)) [.slice (some ⟨b, off, none⟩) len cap] xs)) (hx : xs[0]? = some x) (hc : CellsAt h0 b off cs) :
  ∃ cs',Mem w0 hz w (L.set k (ow cs' x))∧∀ (j:Nat) (v:Value),cs[j]?=some v→NonInt v→j<GT.sz α→cs'[j]?=some v:=by
 obtain ⟨F,⟨F0,a1,a2,a3⟩,hFw⟩:=hm.get k hk
 have hlt:=(lgE.1 hx).1
 rcases own_list.1 a2 with ⟨hv,_⟩ | ⟨b',off',len',cap',C,T,hv,hFb,hb,hlen,hcap,hmx,hs,fps,h1,h2,h3⟩
 ·cases hv
 simp only [Value.slice.injEq,osI,Addr.mk.injEq] at hv
 obtain ⟨⟨rfl,rfl,_⟩,rfl,rfl⟩:=hv
 refine ⟨seg C off (GT.sz α),hm.imp k hk λF' ⟨F1,g1,g2,_⟩=>?_,λj v hj hv hjs=>?_⟩
 ·rcases own_list.1 g2 with ⟨hv, _⟩ | ⟨b', off', len', cap', C', T', hv, hFb', hb', hlen', hcap', hmx', hs', fps', h1', h2', h3'⟩
  ·cases hv
  simp only [Value.slice.injEq,osI,Addr.mk.injEq] at hv
  obtain ⟨⟨rfl,rfl,_⟩,rfl,rfl⟩:=hv
  rw [hb] at hb'
  simp only [osI,Obj.cells.injEq] at hb'
  obtain ⟨rfl,rfl,_⟩:=hb'
  have:=h3' 0 x hx
  rw [Nat.zero_mul,Nat.add_zero] at this
  exact GT.own_mono (λc hc=>g1 c (h1' 0 c hc).1) this
 ·obtain ⟨C0, T0, z0, e1, e2⟩ := hc
  obtain ⟨C1,f1,_,f3⟩:=a3 b hFb C0 T0 z0 e1
  rw [hb] at f1
  simp only [osI,Obj.cells.injEq] at f1
  obtain ⟨rfl,_,_⟩:=f1
  rw [seg_get hjs,f3 (off+j) v (e2 j v hj) hv]
theorem isSl {h:Heap} {v:Value} {xs:List α} (hr:GT.rep h [v] xs):∃ a n c,v=.slice a n c:=by
 obtain ⟨p,c,rfl,_⟩:=(rep_list.1 hr).len
 exact ⟨_,_,_,rfl⟩
end
end Go.Wk
namespace Go.Wk
open Go Go.RowKit
def neM {β:Type} (m:MapS β):Option Unit:=if m.es.isEmpty=true then none else some ()
theorem Mem.ow_owm {β:Type} [MV β] {w0 w:World} {hz:Heap} {L:List Ch} {v:Value} {m:MapS β} {u:Unit} (hm:Mem w0 hz w L) (k:Nat) (hk:L[k]?=some (ow [v] m)) (h:neM m=some u):Mem w0 hz w (L.set k (owm v m)) :=
 hm.imp k hk λF h0=>by
  rcases own_map.1 h0 with ⟨_,e⟩ | h1
  ·unfold neM at h
   rw [e] at h
   cases h
  ·exact h1
end Go.Wk
