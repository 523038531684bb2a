/- A part of a proof: general laws of walks, no statement of the seat. -/
import Derived.Test.YtkopacpickeojaaGreatDoorWkN
import Derived.Test.YtkopacpickeojaaGreatDoorWkA
import Derived.ProofKit
import Derived.SizedLaws
import Derived.Deep.Slices
import Derived.Deep.Fields
import Derived.JoinedCond
namespace Go.Wk
open Go
end Go.Wk
namespace Go.Wk
open Go Go.ChangeShapes Go.WideShapes Go.Deep Go.RowKit
def Opn (P:Program) (α:Type) [GT α] (R:α→Prop) (t:TypeId):Prop :=
 ∀ (H:Type) (enc:TypeId × Value→H) (w:World) (base:Nat) (spare:Nat→Bool) (held:Bool) (fuel:Nat) (cs:List Value) (d:DataW H) (ps:List MemPlace),
  DataW.trod enc P w base spare held fuel t cs=some (d,ps)→(∀ n∈d.weights P t,n≤reachBytes)→∃ m:α,GT.rep (hp w) cs m∧R m
section
variable {P:Program} {t e:TypeId}
theorem bz8 (ht:P.underlying t=some (.int .u8)):Opn P UInt8 (λ_=>True) t:=by
 intro H enc w base spare held fuel cs d ps h _
 cases fuel with
 | zero=>simp [DataW.trod] at h
 | succ fuel =>
  unfold DataW.trod at h
  rw [ht] at h
  match cs,h with
  | [.int k n],h =>
   simp only at h
   split at h
   ·rename_i hk
    obtain ⟨rfl,hw⟩:=hk
    simp [Lit.wf,IntKind.min,IntKind.max,IntKind.bits,IntKind.signed] at hw
    refine ⟨UInt8.ofNat n.toNat,?_,trivial⟩
    show [Value.int .u8 n]=[.int .u8 ((UInt8.ofNat n.toNat).toNat:Int)]
    have:((UInt8.ofNat n.toNat).toNat:Int)=n:=by
     simp
     omega
    rw [this]
   ·cases h
theorem yT {H:Type} {ds:List (DataW H)} {d:DataW H} (hd:d∈ds):∀ n∈d.weights P e,n∈DataW.weightsAll P e ds:=by
 induction ds with
 | nil=>cases hd
 | cons x r ih =>
  intro n hn
  rw [DataW.weightsAll,List.mem_append]
  rcases List.mem_cons.1 hd with rfl | h
  ·exact .inl hn
  ·exact .inr (ih h n hn)
theorem yH {w:World} {base n:Nat} {a:Addr} {k:Nat} {cs:List Value} (hc:w.cells? base (a.add k) n=some cs) (hn:0<n):lq (hp w) a.block (a.off+k) cs:=by
 obtain ⟨_,hl,h1⟩:=World.cells?_some hc
 have hb:∀ i,((a.add k).add i).block=a.block∧((a.add k).add i).off=a.off+k+i:=λi=>by
  unfold Addr.add
  by_cases h:k=0<;>by_cases h':i=0<;>simp [h,h']<;>omega
 have h0:∃ C T fz,hp w a.block=some (.cells C T fz):=by
  have:=h1 0 hn
  rw [List.getElem?_eq_getElem (by omega)] at this
  unfold World.cell? at this
  rw [(hb 0).1] at this
  unfold hp
  split at this
  ·rename_i c t fz he
   exact ⟨c,t,fz,he⟩
  ·cases this
 obtain ⟨C,T,fz,hC⟩:=h0
 refine ⟨C,T,fz,hC,λj v hj=>?_⟩
 have hjn:j<n:=by rw [← hl];exact (lgE.1 hj).1
 have:=h1 j hjn
 rw [hj] at this
 unfold World.cell? at this
 rw [(hb j).1] at this
 unfold hp at hC
 rw [hC] at this
 simp only at this
 split at this
 ·cases this
 ·rw [(hb j).2] at this
  exact this
section
variable {α β:Type} [GT α] [GT β] {R:α→Prop} {R2:β→Prop}
theorem bq3 (ht:P.underlying t=some (.slice e)) (hs:P.cellsOf e=GT.sz α) (hz:0<GT.sz α) (hb:0<P.bytesOf e) (he:Opn P α R e) :
  Opn P (List α) (λl=>l.length≤140737488351232∧∀ x∈l,R x) t:=by
 intro H enc w base spare held fuel cs d ps h hw
 rcases open_slice ht h with ⟨rfl,hx⟩ | ⟨a,len,cap,m,n,D,Pl,rfl,hb0,hl,hm,hmm,hx,hi⟩
 ·exact ⟨[],pU,by simp,by simp⟩
 ·simp only [Prod.mk.injEq] at hx
  obtain ⟨rfl,rfl⟩:=hx
  have hlm:len≤m:=by rw [hmm];split<;>omega
  have hlen:len≤140737488351232:=by
   have:=hw _ (by rw [DataW.weights];simp only [ht];exact List.mem_cons_self)
   simp only [List.length_map,List.length_range] at this
   have h2:reachBytes=140737488351232:=rfl
   have h3:(len+(m - len))*1≤(len+(m - len))*P.bytesOf e:=Nat.mul_le_mul_left _ hb
   omega
  have hel:∀ i,i<len→∃ (x:α) (c:List Value),lq (hp w) a.block (a.off+i*GT.sz α) c∧GT.rep (hp w) c x∧R x:=by
   intro i hil
   obtain ⟨cs',hc,ht'⟩:=hi i (by omega)
   obtain ⟨x,hx1,hx2⟩:=he H enc w base spare held n cs' (D i) (Pl i) ht' (λn hn=>hw n (by
    rw [DataW.weights];simp only [ht]
    refine List.mem_cons_of_mem _ (List.mem_append_left _ (yT (List.mem_map.2 ⟨i,List.mem_range.2 hil,rfl⟩) n hn))))
   refine ⟨x,cs',?_,hx1,hx2⟩
   rw [hs] at hc
   exact yH hc hz
  by_cases h0:len=0
  ·subst h0
   exact ⟨[],nF.2 (.inl ⟨.inr ⟨a,cap,rfl⟩,rfl⟩),by simp,by simp⟩
  ·have hspot:a=⟨a.block,a.off,none⟩:=by
    obtain ⟨cs',hc,_⟩:=hi 0 (by omega)
    rw [hs,Nat.zero_mul,show a.add 0=a from rfl] at hc
    obtain ⟨_,_,h1⟩:=World.cells?_some hc
    have h2:=h1 0 hz
    rw [show a.add 0=a from rfl] at h2
    obtain ⟨_,hl0,_⟩:=World.cells?_some hc
    rw [List.getElem?_eq_getElem (by omega)] at h2
    unfold World.cell? at h2
    cases hsp:a.spot with
    | none=>rw [← hsp]
    | some q =>
     rw [hsp] at h2
     split at h2<;>simp at h2
   have hex:∀ i,∃ x:Option α,i<len→∃ y,x=some y∧∃ c,lq (hp w) a.block (a.off+i*GT.sz α) c∧GT.rep (hp w) c y∧R y:=λi=>by
    by_cases hil:i<len
    ·obtain ⟨x,c,h1,h2,h3⟩:=hel i hil
     exact ⟨some x,λ_=>⟨x,rfl,c,h1,h2,h3⟩⟩
    ·exact ⟨none,λh=>absurd h hil⟩
   obtain ⟨f,hf⟩:=Classical.axiomOfChoice hex
   have hlist:∀ k,k≤len→∃ l:List α,l.length=k∧∀ i,i<k→f i=l[i]?:=by
    intro k
    induction k with
    | zero=>exact λ_=>⟨[],rfl,λi hi=>by omega⟩
    | succ k ih =>
     intro hk
     obtain ⟨l,h1,h2⟩:=ih (by omega)
     obtain ⟨y,hy,_⟩:=hf k (by omega)
     refine ⟨l++[y],by simp [h1],λi hi=>?_⟩
     by_cases hik:i<k
     ·rw [h2 i hik,List.getElem?_append_left (by omega)]
     ·obtain rfl : i = k := by omega
      rw [hy,List.getElem?_append_right (by omega),h1]
      simp
   obtain ⟨l,hl1,hl2⟩:=hlist len (Nat.le_refl _)
   have hall:∀ (i:Nat) (x:α),l[i]?=some x→(∃ c,lq (hp w) a.block (a.off+i*GT.sz α) c∧GT.rep (hp w) c x)∧R x:=λi x hx=>by
    have hil:i<len:=by rw [← hl1];exact (lgE.1 hx).1
    obtain ⟨y,hy,c,h1,h2,h3⟩:=hf i hil
    rw [hl2 i hil,hx] at hy
    simp only [osI] at hy
    subst hy
    exact ⟨⟨c,h1,h2⟩,h3⟩
   refine ⟨l,nF.2 (.inr ⟨a.block,a.off,len,cap,by rw [← hspot],hl1,hl,⟨hm,by omega⟩,λi x hx=>(hall i x hx).1⟩),by omega,λx hx=>?_⟩
   obtain ⟨i,hi',rfl⟩:=List.mem_iff_getElem.1 hx
   exact (hall i _ (List.getElem?_eq_getElem hi')).2
def OpF (P:Program) (fs:List Field) (α:Type) [GT α] (R:α→Prop) (off:Nat):Prop :=
 ∀ (H:Type) (enc:TypeId × Value→H) (w:World) (base:Nat) (spare:Nat→Bool) (held:Bool) (n:Nat) (cs:List Value) (xs:List (DataW H × List MemPlace)),
  xs.length=fs.length→(∀ (j:Nat) (f:Field),fs[j]?=some f→DataW.trod enc P w base spare held n f.type ((cs.drop f.offset).take (P.cellsOf f.type))=xs[j]?) →
  (∀ n∈DataW.weightsEach P (fs.map (·.type)) (xs.map (·.1)),n≤reachBytes)→cs.length=off+GT.sz α→∃ m:α,GT.rep (hp w) (cs.drop off) m∧R m
end
section
variable {H:Type} {enc:TypeId × Value→H} {w w':World} {base b0:Nat} {spare sp:Nat→Bool} {held:Bool} {d:DataW H} {ps:List MemPlace} {v:Value} {r:Reach}
variable {α:Type} [GT α] {R:α→Prop}
theorem ax7 (hu:match P.underlying t with | some (.struct _) | some (.array _ _)=>False | _=>True) (hv:Value.okWide P w r b0 t v):v.cells.toList=[v]:=by
 cases v<;>try rfl
 rename_i cs
 exfalso
 unfold Value.okWide at hv
 split at hv
 ·rename_i h;rw [h] at hu;exact hu
 ·rename_i h;rw [h] at hu;exact hu
 ·revert hv
  simp only [Cell.okWide]
  cases P.underlying t with
  | none=>simp [Cell.ok]
  | some d=>cases d<;>simp [Cell.ok]
theorem bw3 (ho:Opn P α R t) (h:DataW.Trod enc P w base spare held t v d ps) (hw:∀ n∈d.weights P t,n≤reachBytes):∃ m:α,GT.rep (hp w) v.cells.toList m∧R m:=by
 obtain ⟨fuel,h⟩:=h
 exact ho H enc w base spare held fuel _ d ps h hw
theorem ac2 (hl:laidOutB P=true) {ts:List TypeId} (hread:∀ t∈ts,P.readableRec t=true∧t<P.types.size):∀ {vs:List Value} {ds:List (DataW H)} {ps:List MemPlace},
  DataW.TrodAll enc P w 0 (λ_=>true) true ts vs ds ps→(∀ p∈ps,w.sameAt w' p)→(∀ p∈ps,sp p.block=true)→DataW.TrodAll enc P w' 0 sp true ts vs ds ps:=by
 induction ts with
 | nil =>
  intro vs ds ps h _ _
  obtain ⟨rfl,rfl,rfl⟩:=trodAll_nil h
  exact rfl
 | cons t ts ih =>
  intro vs ds ps h hs hsp
  obtain ⟨v,vs1,d,ds1,a,b,rfl,rfl,rfl,h1,h2⟩:=trodAll_cons h
  have hr:=hread t List.mem_cons_self
  exact ⟨a,b,WideElems.Trod_stays hl hr.1 hr.2 h1 (λp hp=>hs p (List.mem_append_left _ hp)) (λp hp=>hsp p (List.mem_append_left _ hp)),
   ih (λt ht=>hread t (List.mem_cons_of_mem _ ht)) h2 (λp hp=>hs p (List.mem_append_right _ hp)) (λp hp=>hsp p (List.mem_append_right _ hp)),rfl⟩
end
end
end Go.Wk
namespace Go.Wk
open Go Go.WideShapes Go.ChangeShapes Go.RowKit
def jf1 (P:Program) (f:FuncId) (fn:Func) (s:ChangeSpec) (c:OpenClaim):Bool:=c.wf (OpenSpec.ofChange s)&&laidOutB P&&mapsRowed P&&fn.params.all (P.readableRec ·)&&namedTie P c.named s.vars&&(c.stops == [])&&(P.stops == [])&&(c.knobs == [])&&(P.stopKnobs == [])
def jf2 (P:Program) (f:FuncId) (fn:Func) (s:ChangeSpec) (c:OpenClaim):Bool:=(c.inPlace == P.inPlace f)&&(c.unfollowed == P.unfollowed f)&&(c.recurses == P.recurses f)&&(c.named == P.varsNamed f)
def jf3 (P:Program) (f:FuncId) (fn:Func) (s:ChangeSpec) (c:OpenClaim):Bool:=(c.maps == (fn.params.toList++s.plain.varTypes P).any (P.mapsRec ·))&&(c.ifaces == (fn.params.toList++s.plain.varTypes P).any (P.ifacesRec ·))&&(c.mapsOut == P.mapsAmong fn.resultTypes.toList)&&(c.loops == (fn.params.toList++s.plain.varTypes P).any (P.loopsFrom ·))&&(c.wideKeys == (fn.params.toList++s.plain.varTypes P++fn.resultTypes.toList).any (P.wideKeysFrom ·))&&s.vars.all (P.varReadable ·)&&fn.resultTypes.all (λt=>P.readableRec t&&decide (t<P.types.size))&&(c.ifacesOut == fn.resultTypes.toList.any (P.ifacesRec ·))&&(c.loopsOut == fn.resultTypes.toList.any (P.loopsFrom ·))&&(c.plainKeys == P.plainKeys)&&c.shortTexts.isNone
def jf4 (P:Program) (f:FuncId) (fn:Func) (s:ChangeSpec) (c:OpenClaim):Bool:=P.stopsHeard
def jf5 (P:Program) (f:FuncId) (fn:Func) (s:ChangeSpec) (c:OpenClaim):Bool:=P.mayEnter&&(c.lifted == P.liftsFinal)
def jf6 (P:Program) (f:FuncId) (fn:Func) (s:ChangeSpec) (c:OpenClaim):Bool:=(P.make == some c.make)&&(c.kinds == (if c.domain.isEmpty then [] else fn.params.toList.map λt=>match P.underlying t with | some (.int k)=>some k | _=>none))&&(c.pinned == c.pinnedBy)&&(c.veiled == (fn.params.toList++s.plain.varTypes P++fn.resultTypes.toList).any (P.veiledRec ·))&&c.veiledFits P fn.params.toList (fn.params.toList++s.plain.varTypes P++fn.resultTypes.toList)
end Go.Wk
namespace Go.Wk
open Go Lean.Order
theorem wb {α:Type} {a b:Option α}:PartialOrder.rel a b↔∀ x,a=some x→b=some x:=by
 constructor
 ·intro h
  change FlatOrder.rel (b:=none) a b at h
  cases h with
  | bot=>intro x hx;cases hx
  | refl=>exact λ_ h=>h
 ·intro h
  change FlatOrder.rel (b:=none) a b
  cases a with
  | none=>exact .bot
  | some x=>rw [h x rfl];exact .refl
universe u
variable {γ:Type u} [PartialOrder γ] {α β S X:Type}
@[partial_fixpoint_monotone]
theorem bu5 (f:γ→Option α) (g:γ→α→Option β) (hf:monotone f) (hg:monotone g):monotone λx=>Option.bind (f x) (g x):=λx y h=>wb.2 λz hz=>by
 obtain ⟨a,h1,h2⟩:=Option.bind_eq_some_iff.1 hz
 exact Option.bind_eq_some_iff.2 ⟨a,wb.1 (hf x y h) a h1,wb.1 (hg x y h a) z h2⟩
@[partial_fixpoint_monotone]
theorem bp1 {A B:Type} (f:γ→A→Option β) (g:γ→B→Option β) (hf:monotone f) (hg:monotone g):monotone λx=>Sum.elim (f x) (g x):=λx y h s=>by
 cases s with
 | inl a=>exact hf x y h a
 | inr b=>exact hg x y h b
@[partial_fixpoint_monotone]
theorem bv9 (o:Option α) (f:γ→Option β) (g:γ→α→Option β) (hf:monotone f) (hg:monotone g):monotone λx=>Option.elim o (f x) (g x):=λx y h=>by
 cases o with
 | none=>exact hf x y h
 | some a=>exact hg x y h a
theorem bm7 {b1 b2:Int→S→Option (S ⊕ X)} (h:∀ i s z,b1 i s=some z→b2 i s=some z):∀ (k:Nat) (i:Int) (s:S) (z:S ⊕ X),forN b1 k i s=some z→forN b2 k i s=some z:=by
 intro k
 induction k with
 | zero=>intro i s z hz;exact hz
 | succ k ih =>
  intro i s z hz
  cases hb:b1 i s with
  | none=>rw [forN] at hz;simp [hb] at hz
  | some r =>
   cases r with
   | inl s'=>rw [tR (h _ _ _ hb)];rw [tR hb] at hz;exact ih _ _ _ hz
   | inr x=>rw [aa1 (h _ _ _ hb)];rw [aa1 hb] at hz;exact hz
@[partial_fixpoint_monotone]
theorem by6 (f:γ→Int→S→Option (S ⊕ X)) (k:Nat) (i:Int) (s:S) (hf:monotone f):monotone λx=>forN (f x) k i s:=λx y h =>
 wb.2 (bm7 (λi s z hz=>wb.1 (hf x y h i s) z hz) k i s)
theorem bb9 {b1 b2:S→Option (S ⊕ X)} (h:∀ s z,b1 s=some z→b2 s=some z):∀ (n:Nat) (s:S) (z:X),qo b1 n s=some z→qo b2 n s=some z:=by
 intro n
 induction n with
 | zero=>intro s z hz;exact hz
 | succ n ih =>
  intro s z hz
  simp only [qo] at hz ⊢
  cases hb:b1 s with
  | none=>simp [hb] at hz
  | some r =>
   rw [h _ _ hb]
   cases r with
   | inl s'=>simp only [hb] at hz ⊢;exact ih _ _ hz
   | inr x=>simp only [hb] at hz ⊢;exact hz
@[partial_fixpoint_monotone]
theorem bx7 (f:γ→S→Option (S ⊕ X)) (s:S) (hf:monotone f):monotone λx=>lH (f x) s:=λx y h =>
 wb.2 λz hz=>by
  obtain ⟨n,hn⟩:=rP.1 hz
  exact rP.2 ⟨n,bb9 (λs z hz=>wb.1 (hf x y h s) z hz) n s z hn⟩
section
variable {P:Program} {l:Env} {w:World} {o:Oper} {x:Operand} {t:TypeId} {i:Int}
theorem bt2 (ho:o.op=.unOp .neg t x) (hx:ev l x=some (.int .i64 i)):Yl P l w o (.int .i64 (w64 (0 - i))):=λn a hf=>by
 simp [execOp,ho,hf.eval hx,Op.unary,Op.intArith,w64]
end
end Go.Wk
namespace Go.Wk
open Go Go.RowKit
def RtX (R:Value→World→Prop) (X:List PanicEntry→World→Prop):Ending→World→Prop
 | .returned v,w=>R v w
 | .panicked c,w=>X c w
 | .outgrown,_=>False
def EfX (P:Program) (a:Act) (w:World) (o:Oper) (R:Value→World→Prop) (X:List PanicEntry→World→Prop):Prop :=
 ∀ (K:Act→World→Prop) (Q:Exit→Act→World→Prop),(∀ v w',R v w'→K (a.put o.dst v) w')→(∀ c w',X c w'→Q (.panic c) a w')→o.wp P a w K Q
def bm9 (P:Program) (f:FuncId) (args:List Value) (w:World) (R:Value→World→Prop) (X:List PanicEntry→World→Prop):Prop:=Calls P f args.toArray w (RtX R X)
def pch (T:TypeId) (e:Int):List PanicEntry:=[{ v:=.iface T (.int .i64 e),recovered:=false }]
section
variable {P:Program} {ops:Array Oper} {Q:Exit→Act→World→Prop} {a:Act} {w:World} {rest:List Oper} {o:Oper} {n:Nat} {l:Env} {d:Nat} {v:Value} {R:Value→World→Prop} {X:List PanicEntry→World→Prop}
section
variable {S:World→Prop} {ns:List Nat} {t:Ord} {i:Nat}
end
end
def ch0 (n:Nat) (arr:List Int):List Value:=(List.range n).map λj=>.int .i64 (arr.getD j 0)
def cg8 (n:Nat) (arr:List Int) (i:Nat) (x:Int):List Int:=(List.range n).map λj=>if j=i then x else arr.getD j 0
def cg7 (n:Nat) (i:Int):Option Int:=if 0≤i∧i.toNat<n then some i else none
section
variable {P:Program} {a:Act} {w w0:World} {hz:kX} {L:List Ch} {o:Oper} {n n':Nat} {l:Env} {v:Value} {x y:Operand} {t e T:TypeId} {i:Int} {arr:List Int} {pre post:List Value} {b:Nat} {k:IntKind}
def cf7 (n:Nat) (arr:List Int):List Int:=(List.range n).map λj=>arr.getD j 0
theorem zd {b off:Nat} (ht:P.underlying t=some (.array n e)) (ho:o.op=.slice t x none none none) (hx:ev l x=some (.pointer (some ⟨b,off,none⟩))) (hs:∀ w,(sizeOf e).run P w=.ok 1 w) :
  Yl P l w o (.slice (some ⟨b,off,none⟩) n n):=λnn a hf=>by
 by_cases h:n=0
 ·subst h
  simp [execOp,ho,hf.eval hx,Instr.sliceAt,run_underlying ht,Instr.sureAddr,Instr.sliceBounds,Instr.sliceBound,hs]
 ·simp [execOp,ho,hf.eval hx,Instr.sliceAt,run_underlying ht,Instr.sureAddr,Instr.sliceBounds,Instr.sliceBound,hs,h,pq]
end
section
open Lean.Order
universe u
variable {γ:Type u} [PartialOrder γ] {β:Type}
@[partial_fixpoint_monotone]
theorem bk5 {A B:Type} (f:γ→A→Option β) (g:γ→B→Option β) (s:A ⊕ B) (hf:monotone f) (hg:monotone g):monotone λx=>Sum.elim (f x) (g x) s:=λx y h=>by
 cases s with
 | inl a=>exact hf x y h a
 | inr b=>exact hg x y h b
end
end Go.Wk
