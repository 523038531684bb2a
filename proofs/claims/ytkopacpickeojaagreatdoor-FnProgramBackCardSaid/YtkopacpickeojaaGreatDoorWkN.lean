/- A part of a proof: general laws of walks, no statement of the seat. -/
import Derived.Test.YtkopacpickeojaaGreatDoorWkI
import Derived.Laws.BytesString
import Derived.Laws.Concat
import Derived.MapKept
import Derived.Test.YtkopacpickeojaaGreatDoorWkA
namespace Go.Wk
open Go Go.RowKit
def yr (l:List UInt8):Str:=⟨l.take 140737488355328,by simp;omega⟩
theorem ap4 {l:List UInt8} (h:l.length≤140737488355328):(yr l).b=l:=by simp [yr,List.take_of_length_le h]
def ll (s t:Str):Option Str:=if h:s.b.length+t.b.length≤140737488355328 then some ⟨s.b++t.b,by simpa using h⟩ else none
theorem kq {s t u:Str}:ll s t=some u↔s.b.length+t.b.length≤140737488355328∧u.b=s.b++t.b:=by
 unfold ll
 by_cases h:s.b.length+t.b.length≤140737488355328
 ·simp only [h,dif_pos,osI,true_and]
  constructor
  ·rintro rfl;rfl
  ·intro e;exact (Str.ext' e.symm)
 ·simp [h]
section
variable {P:Program} {l:Env} {w:World} {o:Oper} {x y:Operand} {t t' s e:TypeId}
theorem lh {p q u:Str} (ho:o.op=.binOp .add t x y t') (hx:ev l x=some (.string ⟨p.b.toArray⟩)) (hy:ev l y=some (.string ⟨q.b.toArray⟩)) (hu:p.b.length+q.b.length≤140737488355328∧u.b=p.b++q.b) :
  Yl P l w o (.string ⟨u.b.toArray⟩):=λn a hf=>by
 have h:=run_string_add_sum (P:=P) w ⟨p.b.toArray⟩ ⟨q.b.toArray⟩ (by show p.b.toArray.size+q.b.toArray.size≤_;simp;omega)
 rw [ByteArray.mk_append_mk,← hu.2] at h
 simp [execOp,ho,hf.eval hx,hf.eval hy,binOp,eqGuard,h]
theorem bd3 (xs:List UInt8) (r:ByteArray):(xs.map λb=>(b.toNat:Int)).foldl (λr n=>r.push (UInt8.ofNat n.toNat)) r=⟨r.data++xs.toArray⟩:=by
 induction xs generalizing r with
 | nil=>simp
 | cons b xs ih =>
  rw [List.map_cons,List.foldl_cons,ih]
  congr 1
  simp
theorem aw5 (xs:List UInt8):xs.flatMap Flat.enc=xs.map (Value.int .u8 ∘ λb=>(b.toNat:Int)):=by
 induction xs with
 | nil=>rfl
 | cons b xs ih=>rw [List.flatMap_cons,ih];rfl
theorem zZ {xs:List UInt8} {v:Value} (hs:P.underlying s=some (.slice e)) (he:P.underlying e=some (.int .u8)) (hd:P.underlying t=some .string) (ho:o.op=.convert s t x) (hx:ev l x=some v) (hr:GT.rep (hp w) [v] xs) :
  Yl P l w o (.string ⟨(yr xs).b.toArray⟩):=λn a hf=>by
 rw [ap4 (bn1 hr)]
 rcases nF.1 hr with ⟨rfl | ⟨p,cap,rfl⟩,rfl⟩ | ⟨b,off,len,cap,rfl,hl,hc,hm,h3⟩
 ·simp [execOp,ho,hf.eval hx,convert,run_underlying hs,run_underlying hd,run_underlying he,Conv.bytesToString]
  rfl
 ·have h:=run_bytesToString (P:=P) w p 0 cap [] (by
   have:=run_loadCells_list (P:=P) w p [] (λj v hj=>by simp at hj)
   simpa using this)
  simp [execOp,ho,hf.eval hx,convert,run_underlying hs,run_underlying hd,run_underlying he,h]
  rfl
 ·have hsrc:=ae8 hr
  obtain ⟨q1,_,⟨hv,_⟩ | ⟨ad,c,hv,q3⟩⟩:=hsrc
  ·cases hv
  ·simp only [Value.slice.injEq,osI] at hv
   obtain ⟨rfl,rfl,rfl⟩:=hv
   have hcs:xs.flatMap Flat.enc=(xs.map λb=>(b.toNat:Int)).map (Value.int .u8):=by
    rw [List.map_map]
    exact aw5 xs
   have hld:=run_loadCells_list (P:=P) w ⟨b,off,none⟩ _ q3
   rw [hcs] at hld
   have h:=run_bytesToString (P:=P) w ⟨b,off,none⟩ xs.length cap (xs.map λb=>(b.toNat:Int)) (by simpa using hld)
   rw [bd3] at h
   simp [execOp,ho,hf.eval hx,convert,run_underlying hs,run_underlying hd,run_underlying he,h]
end
end Go.Wk
namespace Go.Wk
open Go Go.RowKit
section
variable {κ β:Type} [DecidableEq κ]
def pW (k:κ):List (κ × β)→Nat→Option (Nat × β)
 | [],_=>none
 | p::r,i=>if k=p.1 then some (i,p.2) else pW k r (i+1)
def rT (es:List (κ × β)) (k:κ):Option β:=(pW k es 0).map (·.2)
def ch4 (es:List (κ × β)) (k:κ) (v:β):List (κ × β):=match pW k es 0 with
 | some (i,_)=>es.set i (k,v)
 | none=>es++[(k,v)]
theorem sF {k:κ}:∀ {es:List (κ × β)} {i j:Nat} {v:β},pW k es i=some (j,v)→i≤j∧es[j - i]?=some (k,v)
 | [],_,_,_,h=>by simp [pW] at h
 | p::r,i,j,v,h=>by
  unfold pW at h
  split at h
  ·rename_i he
   simp only [osI,Prod.mk.injEq] at h
   obtain ⟨rfl,rfl⟩:=h
   subst he
   simp
  ·obtain ⟨h1,h2⟩:=sF h
   refine ⟨by omega,?_⟩
   rw [show j - i=(j - (i+1))+1 by omega,List.getElem?_cons_succ]
   exact h2
theorem vf {k:κ}:∀ {es:List (κ × β)} {i:Nat},pW k es i=none↔∀ p∈es,k≠p.1
 | [],_=>by simp [pW]
 | p::r,i=>by
  unfold pW
  by_cases he:k=p.1
  ·simp [he]
  ·simp [he,vf (es:=r)]
structure bk4 (P:Program) (kt:TypeId) (kenc:κ→Value):Prop where
 check:∀ n e k w,(Instr.checkKey e (n+1) kt (kenc k)).run P w=.ok () w
 und:∃ d,P.underlying kt=some d∧∀ a b,Instr.sameNow d (kenc a) (kenc b)=some (decide (a=b))
 bits:∀ a,Instr.sameBits 10000 (kenc a) (kenc a)=true
def ch1 (kenc:κ→Value) (venc:β→Value) (r:Nat) (es:List (κ × β)):Ch where
 pr F h:=F r∧∃ E clock,h r=some (.map E clock)∧E.toList.map (λe=>(e.key,e.val))=es.map (λp=>(kenc p.1,venc p.2))
 loc F h h':=λ⟨hF,E,c,h1,h2⟩ hh=>⟨hF,E,c,(hh r hF).trans h1,h2⟩
 mono F F' h:=λ⟨hF,hr⟩ hFF=>⟨hFF r hF,hr⟩
theorem aa8 {P:Program} {kt:TypeId} {kenc:κ→Value} {venc:β→Value} {d:TypeDesc} (hd:∀ a b,Instr.sameNow d (kenc a) (kenc b)=some (decide (a=b))) (k:κ) :
  ∀ (E:List MapEntry) (es:List (κ × β)) (i:Nat),E.map (λe=>(e.key,e.val))=es.map (λp=>(kenc p.1,venc p.2))→Instr.findNow d (kenc k) E i=some ((pW k es i).map λq=>(q.1,venc q.2))
 | [],[],i,_=>rfl
 | [],_::_,_,h=>by simp at h
 | _::_,[],_,h=>by simp at h
 | e::E,p::es,i,h=>by
  simp only [List.map_cons,List.cons.injEq,Prod.mk.injEq] at h
  obtain ⟨⟨h1,h2⟩,h3⟩:=h
  unfold Instr.findNow pW
  rw [h1,hd]
  by_cases he:k=p.1
  ·simp [he,h2]
  ·simp only [he,decide_false,if_false]
   exact aa8 (P:=P) (kt:=kt) hd k E es (i+1) h3
variable {P:Program} {a:Act} {w w0:World} {hz:kX} {L:List Ch} {o:Oper} {n:Nat} {l:Env} {x y z:Operand} {t kt vt:TypeId} {kenc:κ→Value} {venc:β→Value} {r:Nat} {es:List (κ × β)}
theorem vc (hK:bk4 P kt kenc) {E:List MapEntry} (hE:E.map (λe=>(e.key,e.val))=es.map (λp=>(kenc p.1,venc p.2))) (k:κ) (w:World) :
  (Instr.findKey kt (kenc k) E).run P w=.ok ((pW k es 0).map λq=>(q.1,venc q.2)) w:=by
 obtain ⟨d,h1,h2⟩:=hK.und
 have h:=aa8 (P:=P) (kt:=kt) (venc:=venc) h2 k E es 0 hE
 simp [Instr.findKey,run_underlying h1,h]
end
theorem zJ {P:Program} {kt:TypeId} (h:P.underlying kt=some (.int .i64)):bk4 P kt (Value.int .i64) where
 check n e k w:=by
  unfold Instr.checkKey
  simp [run_underlying h]
 und:=⟨_,h,λa b=>by simp [Instr.sameNow];rfl⟩
 bits a:=by simp [Instr.sameBits]
section
variable {P:Program} {l:Env} {w:World} {o:Oper} {x y:Operand} {t t' s:TypeId} {k':IntKind} {i:Int} {b c:UInt8}
end
section
variable {P:Program} {fn:Func} {R:Value→World→Prop} {a:Act} {w w0:World} {hz:kX} {L:List Ch} {n:Nat} {l:Env} {v2 v3:Value} {t t2 t3:Nat}
end
end Go.Wk
namespace Go.Wk
open Go Go.RowKit
section
variable {α β:Type} [GT α] [GT β] {F:Nat→Prop} {h:kX} {cs cs' ds ds':List Value} {x x':α} {y y':β}
end
end Go.Wk
namespace Go.Wk
open Go Go.RowKit
section
variable {α β γ:Type} [GT α] [GT β] [GT γ] {h:kX}
def cg4 (h:kX) (cs:List Value) (x:α) (v:List Value) (inner:β) (put:β→α) (b:Nat):Prop :=
 ∀ (F:Nat→Prop),GT.own F h cs x→∃ R G:Nat→Prop,R b∧(∀ b,R b→F b)∧(∀ b,G b→F b)∧(∀ b,R b→¬ G b)∧GT.own G h v inner ∧
  ∀ (h':kX) (G':Nat→Prop) (y:β),(∀ b,R b→h' b=h b)→(∀ b,G' b→¬ R b)→GT.own G' h' v y→GT.own (λb=>R b∨G' b) h' cs (put y)
def cg2 (b o:Nat) (ecs cs:List Value) (v:List Value) (put:β→α):Ch where
 pr R h:=(bm2 cs v put).pr R h∧R b∧lq h b o ecs
 loc R h h2 hp hh:=⟨(bm2 cs v put).loc R h h2 hp.1 hh,hp.2.1,by
  obtain ⟨C,T,fz,e1,e2⟩:=hp.2.2
  exact ⟨C,T,fz,(hh b hp.2.1).trans e1,e2⟩⟩
 mono R R' h hp hR:=⟨(bm2 cs v put).mono R R' h hp.1 hR,hR b hp.2.1,hp.2.2⟩
variable {w0 w:World} {hz:kX} {L:List Ch}
theorem lq.inj {b o:Nat} {cs ds:List Value} (h1:lq h b o cs) (h2:lq h b o ds) (hl:cs.length=ds.length):cs=ds:=by
 obtain ⟨C,T,fz,e1,e2⟩:=h1
 obtain ⟨C',T',fz',e3,e4⟩:=h2
 rw [e1] at e3
 simp only [osI,Obj.cells.injEq] at e3
 obtain ⟨rfl,_,_⟩:=e3
 apply List.ext_getElem?
 intro j
 by_cases hj:j<cs.length
 ·have a1:=e2 j _ (List.getElem?_eq_getElem hj)
  have a2:=e4 j _ (List.getElem?_eq_getElem (show j<ds.length by omega))
  rw [List.getElem?_eq_getElem hj,List.getElem?_eq_getElem (show j<ds.length by omega),← a1,← a2]
 ·rw [List.getElem?_eq_none (by omega),List.getElem?_eq_none (by omega)]
end
end Go.Wk
namespace Go.Wk
open Go
section
variable {S X:Type} {body:Int→S→Option (S ⊕ X)} {k:Nat} {i:Int} {s:S}
theorem tR {s':S} (h:body i s=some (.inl s')):forN body (k+1) i s=forN body k (i+1) s':=by simp [forN,h]
theorem aa1 {x:X} (h:body i s=some (.inr x)):forN body (k+1) i s=some (.inr x):=by simp [forN,h]
theorem al9 (I:Int→S→Prop) (Q:X→Prop) (h0:I i s)
  (hs:∀ j s,i≤j→j<i+k→I j s→(∃ s',body j s=some (.inl s')∧I (j+1) s')∨∃ x,body j s=some (.inr x)∧Q x) :
  (∃ s',forN body k i s=some (.inl s')∧I (i+k) s')∨∃ x,forN body k i s=some (.inr x)∧Q x:=by
 induction k generalizing i s with
 | zero=>exact .inl ⟨s,rfl,by simpa using h0⟩
 | succ k ih =>
  rcases hs i s (by omega) (by omega) h0 with ⟨s',h1,h2⟩ | ⟨x,h1,h2⟩
  ·rw [tR h1]
   have:=ih h2 (λj s h3 h4 h5=>hs j s (by omega) (by omega) h5)
   rwa [show i+1+(k:Int)=i+((k+1:Nat):Int) by omega] at this
  ·rw [aa1 h1]
   exact .inr ⟨x,rfl,h2⟩
end
section
variable {α β:Type} {xs ys:List α} {x:α} {j:Int} {n:Nat}
theorem sg:kn xs (n:Int)=xs[n]?:=by simp [kn]
theorem ar5 (h0:0≤j) (h:j<(xs.length:Int)):kn xs j=some (xs[j.toNat]'(by omega)):=by
 rw [kn,if_pos h0,List.getElem?_eq_getElem]
theorem vz (h0:0≤j) (h:j<(xs.length:Int)):∃ x,kn xs j=some x∧xs[j.toNat]?=some x∧x∈xs :=
 ⟨_,ar5 h0 h,List.getElem?_eq_getElem (by omega),List.getElem_mem _⟩
theorem ai0 {z:α} {n:Int} (h0:0≤n) (h:n≤2147483648):aj7 z n=some (List.replicate n.toNat z):=if_pos ⟨h0,h⟩
theorem nC (h:xs.length+ys.length≤2147483648):lD xs ys=some (xs++ys):=if_pos h
theorem mr {S X:Type} {body:Int→S→Option (S ⊕ X)} {s:S} (I:List α→S→Prop) (Q:X→Prop) (h0:I [] s)
  (hs:∀ (l:List α) x r s,xs=l++x::r→I l s→(∃ s',body (l.length:Int) s=some (.inl s')∧I (l++[x]) s')∨∃ y,body (l.length:Int) s=some (.inr y)∧Q y) :
  (∃ s',forN body ((xs.length:Int) - 0).toNat 0 s=some (.inl s')∧I xs s')∨∃ y,forN body ((xs.length:Int) - 0).toNat 0 s=some (.inr y)∧Q y:=by
 have e:((xs.length:Int) - 0).toNat=xs.length:=by omega
 rw [e]
 rcases al9 (body:=body) (k:=xs.length) (i:=0) (s:=s) (λj s=>I (xs.take j.toNat) s) Q (by simpa using h0) (λj s h1 h2 h3=>by
  have hl:j.toNat<xs.length:=by omega
  have hx:xs=xs.take j.toNat++xs[j.toNat]::xs.drop (j.toNat+1):=by
   rw [← List.drop_eq_getElem_cons hl,List.take_append_drop]
  have hn:((xs.take j.toNat).length:Int)=j:=by simp;omega
  have:=hs _ _ _ s hx h3
  rw [hn] at this
  rcases this with ⟨s',q1,q2⟩ | ⟨y,q1,q2⟩
  ·refine .inl ⟨s',q1,?_⟩
   rw [show (j+1).toNat=j.toNat+1 by omega,List.take_succ_eq_append_getElem hl]
   exact q2
  ·exact .inr ⟨y,q1,q2⟩) with ⟨s',h1,h2⟩ | h
 ·refine .inl ⟨s',h1,?_⟩
  have:((0:Int)+(xs.length:Int)).toNat=xs.length:=by omega
  simpa [this] using h2
 ·exact .inr h
theorem mA {l r:List α}:kn (l++x::r) (l.length:Int)=some x:=by
 rw [sg,List.getElem?_append_right (Nat.le_refl _)];simp
theorem am3 {X:Type} {body:Int→List β→Option (List β ⊕ X)} (f:α→β) {z:β}
  (hb:∀ (l:List α) x r ys,xs=l++x::r→l.length<ys.length→body (l.length:Int) ys=some (.inl (ys.set l.length (f x)))) :
  forN body ((xs.length:Int) - 0).toNat 0 (List.replicate xs.length z)=some (.inl (xs.map f)):=by
 rcases mr (xs:=xs) (body:=body) (s:=List.replicate xs.length z) (λl ys=>∃ r,xs=l++r∧ys=l.map f++List.replicate r.length z) (λ_=>False)
  ⟨xs, rfl, by simp⟩ (fun l x r ys he ⟨r', h1, h2⟩ => .inl (by
   have hr:r'=x::r:=by
    rw [he] at h1
    exact (List.append_cancel_left h1).symm
   subst hr
   refine ⟨_,hb l x r ys he (by rw [h2];simp),r,by simpa using he,?_⟩
   subst h2
   rw [List.set_append_right _ _ (by simp)]
   simp [List.replicate_succ])) with ⟨s',h1,r,h2,h3⟩ | ⟨_,_,h⟩
 ·have:r=[]:=by
   have:=congrArg List.length h2
   simp at this
   exact this
  subst this
  rw [h1,h3]
  simp
 ·exact h.elim
theorem qT {X:Type} {body:Int→Unit→Option (Unit ⊕ X)} (p:α→Bool) (e:X)
  (hb:∀ (l:List α) x r,xs=l++x::r→body (l.length:Int) ()=if p x then some (.inr e) else some (.inl ())) :
  forN body ((xs.length:Int) - 0).toNat 0 ()=if xs.any p then some (.inr e) else some (.inl ()):=by
 rcases mr (xs:=xs) (body:=body) (s:=()) (λl _=>l.any p=false) (λy=>y=e∧xs.any p=true) rfl (λl x r s he hI=>by
  have:=hb l x r he
  cases hp:p x with
  | true =>
   rw [hp] at this
   refine .inr ⟨e,by simpa using this,rfl,?_⟩
   rw [he];simp [hp]
  | false =>
   rw [hp] at this
   exact .inl ⟨(),by simpa using this,by simp [hI,hp]⟩) with ⟨s',h1,h2⟩ | ⟨y,h1,rfl,h3⟩
 ·rw [h1,h2];rfl
 ·rw [h1,h3];rfl
theorem ad2 {X:Type} {body:Int→Unit→Option (Unit ⊕ X)} (p:α→Bool) (e:Int→X)
  (hb:∀ (l:List α) x r,xs=l++x::r→body (l.length:Int) ()=if p x then some (.inr (e (l.length:Int))) else some (.inl ())) :
  (xs.any p=false∧forN body ((xs.length:Int) - 0).toNat 0 ()=some (.inl ())) ∨
   ∃ (l:List α) (x:α) (r:List α),xs=l++x::r∧l.any p=false∧p x=true∧forN body ((xs.length:Int) - 0).toNat 0 ()=some (.inr (e (l.length:Int))):=by
 rcases mr (xs:=xs) (body:=body) (s:=()) (λl _=>l.any p=false) (λy=>∃ (l:List α) (x:α) (r:List α),xs=l++x::r∧l.any p=false∧p x=true∧y=e (l.length:Int)) rfl (λl x r s he hI=>by
  have:=hb l x r he
  cases hp:p x with
  | true =>
   rw [hp] at this
   exact .inr ⟨_,by simpa using this,l,x,r,he,hI,hp,rfl⟩
  | false =>
   rw [hp] at this
   exact .inl ⟨(),by simpa using this,by simp [hI,hp]⟩) with ⟨s',h1,h2⟩ | ⟨y,h1,l,x,r,h2,h3,h4,rfl⟩
 ·exact .inl ⟨h2,h1⟩
 ·exact .inr ⟨l,x,r,h2,h3,h4,h1⟩
end
section
variable {α:Type}
def mkL (f:Int→α→α) (s:α→Nat):List α→Int→List α
 | [],_=>[]
 | x::r,k=>f k x::mkL f s r (k+s x)
def cf4 (s:α→Nat):List α→Nat
 | []=>0
 | x::r=>s x+cf4 s r
end
theorem mQ {S X:Type} {body:S→Option (S ⊕ X)} {s s':S} (h:body s=some (.inl s')):lH body s=lH body s':=by
 rw [wt,h]
theorem lJ {S X:Type} {body:S→Option (S ⊕ X)} {s:S} {x:X} (h:body s=some (.inr x)):lH body s=some x:=by
 rw [wt,h]
theorem vj {α β:Type} {o o':Option α} {f:α→Option β} (h:o=o'):Option.bind o f=Option.bind o' f:=by rw [h]
theorem ko {α β:Type} {o:Option α} {a:α} {f:α→Option β} {b:Option β} (h:o=some a) (h2:f a=b):Option.bind o f=b:=by rw [h];exact h2
end Go.Wk
