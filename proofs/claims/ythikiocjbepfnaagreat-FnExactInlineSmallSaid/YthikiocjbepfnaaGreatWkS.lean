/- A part of a proof: general laws of walks, no statement of the seat. -/
import Derived.Test.YthikiocjbepfnaaGreatWkN
import Derived.Test.YthikiocjbepfnaaGreatWkA
import Derived.ProofKit
import Derived.SizedLaws
import Derived.Deep.Slices
import Derived.Deep.Fields
import Derived.JoinedCond
namespace Go.Wk
open Go
theorem loopM_law {S X : Type} {b1 : S → Option (S ⊕ X)} (R : S → Prop) (Q : X → Prop) (μ : S → Nat)
  (hs:∀ s,R s→(∃ s',b1 s=some (.inl s')∧R s'∧μ s'<μ s)∨∃ x,b1 s=some (.inr x)∧Q x) :
  ∀ (n:Nat) (s:S),R s→μ s<n→∃ x,loopM b1 s=some x∧Q x:=by
 intro n
 induction n with
 | zero=>intro s _ h;omega
 | succ n ih =>
  intro s hr hn
  rcases hs s hr with ⟨s',h1,h3,h4⟩ | ⟨x,h1,h3⟩
  ·obtain ⟨x, g1, g3⟩ := ih s' h3 (by omega)
   exact ⟨x,(loopM_inl h1).trans g1,g3⟩
  ·exact ⟨x,loopM_inr h1,h3⟩
end Go.Wk
namespace Go.Wk
open Go Go.ChangeShapes Go.WideShapes Go.Deep Go.RowKit
def Opn (P:Program) (α:Type) [GT α] (R:α→Prop) (t:TypeId):Prop :=
 ∀ (H : Type) (enc : TypeId × Value → H) (w : World) (base : Nat) (spare : Nat → Bool) (held : Bool) (fuel : Nat) (cs : List Value) (d : DataW H) (ps : List MemPlace),
  DataW.trod enc P w base spare held fuel t cs=some (d,ps)→(∀ n∈d.weights P t,n≤reachBytes)→∃ m:α,GT.rep (hp w) cs m∧R m
section
variable {P:Program} {t e:TypeId}
theorem op_int (ht:P.underlying t=some (.int .i64)):Opn P Int (λn=>-9223372036854775808≤n∧n<9223372036854775808) t:=by
 intro H enc w base spare held fuel cs d ps h _
 cases fuel with
 | zero=>simp [DataW.trod] at h
 | succ fuel =>
  unfold DataW.trod at h
  rw [ht] at h
  match cs,h with
  | [.int k n],h =>
   simp only at h
   split at h
   ·rename_i hk
    obtain ⟨rfl,hw⟩:=hk
    refine ⟨n,rfl,?_⟩
    simp [Lit.wf,IntKind.min,IntKind.max,IntKind.bits,IntKind.signed] at hw
    omega
   ·cases h
theorem weights_mem {H:Type} {ds:List (DataW H)} {d:DataW H} (hd:d∈ds):∀ n∈d.weights P e,n∈DataW.weightsAll P e ds:=by
 induction ds with
 | nil=>cases hd
 | cons x r ih =>
  intro n hn
  rw [DataW.weightsAll,List.mem_append]
  rcases List.mem_cons.1 hd with rfl | h
  ·exact .inl hn
  ·exact .inr (ih h n hn)
theorem cellsAt_of_cells {w:World} {base n:Nat} {a:Addr} {k:Nat} {cs:List Value} (hc:w.cells? base (a.add k) n=some cs) (hn:0<n):CellsAt (hp w) a.block (a.off+k) cs:=by
 obtain ⟨_,hl,h1⟩:=World.cells?_some hc
 have hb:∀ i,((a.add k).add i).block=a.block∧((a.add k).add i).off=a.off+k+i:=λi=>by
  unfold Addr.add
  by_cases h:k=0<;>by_cases h':i=0<;>simp [h,h']<;>omega
 have h0:∃ C T fz,hp w a.block=some (.cells C T fz):=by
  have:=h1 0 hn
  rw [List.getElem?_eq_getElem (by omega)] at this
  unfold World.cell? at this
  rw [(hb 0).1] at this
  unfold hp
  split at this
  ·rename_i c t fz he
   exact ⟨c,t,fz,he⟩
  ·cases this
 obtain ⟨C,T,fz,hC⟩:=h0
 refine ⟨C,T,fz,hC,λj v hj=>?_⟩
 have hjn:j<n:=by rw [← hl];exact (lgE.1 hj).1
 have:=h1 j hjn
 rw [hj] at this
 unfold World.cell? at this
 rw [(hb j).1] at this
 unfold hp at hC
 rw [hC] at this
 simp only at this
 split at this
 ·cases this
 ·rw [(hb j).2] at this
  exact this
section
variable {α β:Type} [GT α] [GT β] {R:α→Prop} {R2:β→Prop}
theorem op_list (ht : P.underlying t = some (.slice e)) (hs : P.cellsOf e = GT.sz α) (hz : 0 < GT.sz α) (hb : 0 < P.bytesOf e) (he : Opn P α R e) :
  Opn P (List α) (λl=>l.length≤140737488351232∧∀ x∈l,R x) t:=by
 intro H enc w base spare held fuel cs d ps h hw
 rcases open_slice ht h with ⟨rfl,hx⟩ | ⟨a,len,cap,m,n,D,Pl,rfl,hb0,hl,hm,hmm,hx,hi⟩
 ·exact ⟨[],rep_nil,by simp,by simp⟩
 ·simp only [Prod.mk.injEq] at hx
  obtain ⟨rfl,rfl⟩:=hx
  have hlm:len≤m:=by rw [hmm];split<;>omega
  have hlen:len≤140737488351232:=by
   have:=hw _ (by rw [DataW.weights];simp only [ht];exact List.mem_cons_self)
   simp only [List.length_map,List.length_range] at this
   have h2:reachBytes=140737488351232:=rfl
   have h3:(len+(m - len))*1≤(len+(m - len))*P.bytesOf e:=Nat.mul_le_mul_left _ hb
   omega
  have hel:∀ i,i<len→∃ (x:α) (c:List Value),CellsAt (hp w) a.block (a.off+i*GT.sz α) c∧GT.rep (hp w) c x∧R x:=by
   intro i hil
   obtain ⟨cs',hc,ht'⟩:=hi i (by omega)
   obtain ⟨x, hx1, hx2⟩ := he H enc w base spare held n cs' (D i) (Pl i) ht' (fun n hn => hw n (by
    rw [DataW.weights];simp only [ht]
    refine List.mem_cons_of_mem _ (List.mem_append_left _ (weights_mem (List.mem_map.2 ⟨i,List.mem_range.2 hil,rfl⟩) n hn))))
   refine ⟨x,cs',?_,hx1,hx2⟩
   rw [hs] at hc
   exact cellsAt_of_cells hc hz
  by_cases h0:len=0
  ·subst h0
   exact ⟨[],rep_list.2 (.inl ⟨.inr ⟨a,cap,rfl⟩,rfl⟩),by simp,by simp⟩
  ·have hspot:a=⟨a.block,a.off,none⟩:=by
    obtain ⟨cs',hc,_⟩:=hi 0 (by omega)
    rw [hs,Nat.zero_mul,show a.add 0=a from rfl] at hc
    obtain ⟨_,_,h1⟩:=World.cells?_some hc
    have h2:=h1 0 hz
    rw [show a.add 0=a from rfl] at h2
    obtain ⟨_,hl0,_⟩:=World.cells?_some hc
    rw [List.getElem?_eq_getElem (by omega)] at h2
    unfold World.cell? at h2
    cases hsp:a.spot with
    | none=>rw [← hsp]
    | some q =>
     rw [hsp] at h2
     split at h2<;>simp at h2
   have hex:∀ i,∃ x:Option α,i<len→∃ y,x=some y∧∃ c,CellsAt (hp w) a.block (a.off+i*GT.sz α) c∧GT.rep (hp w) c y∧R y:=λi=>by
    by_cases hil:i<len
    ·obtain ⟨x, c, h1, h2, h3⟩ := hel i hil
     exact ⟨some x,λ_=>⟨x,rfl,c,h1,h2,h3⟩⟩
    ·exact ⟨none,λh=>absurd h hil⟩
   obtain ⟨f,hf⟩:=Classical.axiomOfChoice hex
   have hlist:∀ k,k≤len→∃ l:List α,l.length=k∧∀ i,i<k→f i=l[i]?:=by
    intro k
    induction k with
    | zero=>exact λ_=>⟨[],rfl,λi hi=>by omega⟩
    | succ k ih =>
     intro hk
     obtain ⟨l,h1,h2⟩:=ih (by omega)
     obtain ⟨y,hy,_⟩:=hf k (by omega)
     refine ⟨l++[y],by simp [h1],λi hi=>?_⟩
     by_cases hik:i<k
     ·rw [h2 i hik,List.getElem?_append_left (by omega)]
     ·obtain rfl : i = k := by omega
      rw [hy,List.getElem?_append_right (by omega),h1]
      simp
   obtain ⟨l,hl1,hl2⟩:=hlist len (Nat.le_refl _)
   have hall:∀ (i:Nat) (x:α),l[i]?=some x→(∃ c,CellsAt (hp w) a.block (a.off+i*GT.sz α) c∧GT.rep (hp w) c x)∧R x:=λi x hx=>by
    have hil:i<len:=by rw [← hl1];exact (lgE.1 hx).1
    obtain ⟨y,hy,c,h1,h2,h3⟩:=hf i hil
    rw [hl2 i hil,hx] at hy
    simp only [osI] at hy
    subst hy
    exact ⟨⟨c,h1,h2⟩,h3⟩
   refine ⟨l,rep_list.2 (.inr ⟨a.block,a.off,len,cap,by rw [← hspot],hl1,hl,⟨hm,by omega⟩,λi x hx=>(hall i x hx).1⟩),by omega,λx hx=>?_⟩
   obtain ⟨i,hi',rfl⟩:=List.mem_iff_getElem.1 hx
   exact (hall i _ (List.getElem?_eq_getElem hi')).2
def OpF (P:Program) (fs:List Field) (α:Type) [GT α] (R:α→Prop) (off:Nat):Prop :=
 ∀ (H : Type) (enc : TypeId × Value → H) (w : World) (base : Nat) (spare : Nat → Bool) (held : Bool) (n : Nat) (cs : List Value) (xs : List (DataW H × List MemPlace)),
  xs.length=fs.length→(∀ (j:Nat) (f:Field),fs[j]?=some f→DataW.trod enc P w base spare held n f.type ((cs.drop f.offset).take (P.cellsOf f.type))=xs[j]?) →
  (∀ n∈DataW.weightsEach P (fs.map (·.type)) (xs.map (·.1)),n≤reachBytes)→cs.length=off+GT.sz α→∃ m:α,GT.rep (hp w) (cs.drop off) m∧R m
theorem opf_last {f:Field} {off:Nat} (hf:f.offset=off) (hc:P.cellsOf f.type=GT.sz α) (h:Opn P α R f.type):OpF P [f] α R off:=by
 intro H enc w base spare held n cs xs hlen hj hw hl
 subst hf
 match xs,hlen with
 | [x],_ =>
  have h0:=hj 0 f rfl
  rw [List.take_of_length_le (by rw [List.length_drop];omega)] at h0
  exact h H enc w base spare held n _ x.1 x.2 h0 (λn hn=>hw n (by simp [DataW.weightsEach,hn]))
theorem opf_cons {f : Field} {fs : List Field} {off : Nat} (hf : f.offset = off) (hc : P.cellsOf f.type = GT.sz α) (h : Opn P α R f.type) (h2 : OpF P fs β R2 (off + GT.sz α)) :
  OpF P (f::fs) (α × β) (λp=>R p.1∧R2 p.2) off:=by
 intro H enc w base spare held n cs xs hlen hj hw hl
 subst hf
 match xs,hlen with
 | x::xs,hlen =>
  have h0:=hj 0 f rfl
  obtain ⟨a,ha1,ha2⟩:=h H enc w base spare held n _ x.1 x.2 h0 (λn hn=>hw n (by simp [DataW.weightsEach,hn]))
  obtain ⟨b, hb1, hb2⟩ := h2 H enc w base spare held n cs xs (by simpa using hlen) (fun j g hg => by simpa using hj (j + 1) g (by simpa using hg))
   (λn hn=>hw n (by simp [DataW.weightsEach,hn])) (by rw [hl];show _+(_+_)=_;omega)
  rw [hc] at ha1
  refine ⟨(a,b),⟨_,_,?_,ha1,hb1⟩,ha2,hb2⟩
  rw [← List.drop_drop,List.take_append_drop]
theorem op_struct {fs:Array Field} {fl:List Field} (ht:P.underlying t=some (.struct fs)) (hfl:fs.toList=fl) (hc:P.cellsOf t=GT.sz α) (h:OpF P fl α R 0):Opn P α R t:=by
 intro H enc w base spare held fuel cs d ps hd hw
 subst hfl
 obtain ⟨xs,n,_,hx,hcl,hlen,hf⟩:=DataW.trod_struct ht hd
 simp only [Prod.mk.injEq] at hx
 obtain ⟨rfl,rfl⟩:=hx
 have:=h H enc w base spare held n cs xs (by simpa using hlen) (λj f hj=>hf j f (by simpa using hj)) (λn hn=>hw n (by rw [DataW.weights];simp only [ht];exact hn)) (by omega)
 simpa using this
theorem op_map {R':α→Prop} (g:β→α) (hg:∀ h cs b,GT.rep h cs b→GT.rep h cs (g b)) (hR:∀ b,R2 b→R' (g b)) (h:Opn P β R2 t):Opn P α R' t:=by
 intro H enc w base spare held fuel cs d ps hd hw
 obtain ⟨m,h1,h2⟩:=h H enc w base spare held fuel cs d ps hd hw
 exact ⟨g m,hg _ _ _ h1,hR _ h2⟩
end
section
variable {H:Type} {enc:TypeId × Value→H} {w w':World} {base b0:Nat} {spare sp:Nat→Bool} {held:Bool} {d:DataW H} {ps:List MemPlace} {v:Value} {r:Reach}
variable {α:Type} [GT α] {R:α→Prop}
theorem arg_cells (hu:match P.underlying t with | some (.struct _) | some (.array _ _)=>False | _=>True) (hv:Value.okWide P w r b0 t v):v.cells.toList=[v]:=by
 cases v<;>try rfl
 rename_i cs
 exfalso
 unfold Value.okWide at hv
 split at hv
 ·rename_i h;rw [h] at hu;exact hu
 ·rename_i h;rw [h] at hu;exact hu
 ·revert hv
  simp only [Cell.okWide]
  cases P.underlying t with
  | none=>simp [Cell.ok]
  | some d=>cases d<;>simp [Cell.ok]
theorem op_arg (ho:Opn P α R t) (h:DataW.Trod enc P w base spare held t v d ps) (hw:∀ n∈d.weights P t,n≤reachBytes):∃ m:α,GT.rep (hp w) v.cells.toList m∧R m:=by
 obtain ⟨fuel,h⟩:=h
 exact ho H enc w base spare held fuel _ d ps h hw
theorem trodAll_stays (hl : laidOutB P = true) {ts : List TypeId} (hread : ∀ t ∈ ts, P.readableRec t = true ∧ t < P.types.size) : ∀ {vs : List Value} {ds : List (DataW H)} {ps : List MemPlace},
  DataW.TrodAll enc P w 0 (λ_=>true) true ts vs ds ps→(∀ p∈ps,w.sameAt w' p)→(∀ p∈ps,sp p.block=true)→DataW.TrodAll enc P w' 0 sp true ts vs ds ps:=by
 induction ts with
 | nil =>
  intro vs ds ps h _ _
  obtain ⟨rfl,rfl,rfl⟩:=trodAll_nil h
  exact rfl
 | cons t ts ih =>
  intro vs ds ps h hs hsp
  obtain ⟨v,vs1,d,ds1,a,b,rfl,rfl,rfl,h1,h2⟩:=trodAll_cons h
  have hr:=hread t List.mem_cons_self
  exact ⟨a, b, WideElems.Trod_stays hl hr.1 hr.2 h1 (fun p hp => hs p (List.mem_append_left _ hp)) (fun p hp => hsp p (List.mem_append_left _ hp)),
   ih (λt ht=>hread t (List.mem_cons_of_mem _ ht)) h2 (λp hp=>hs p (List.mem_append_right _ hp)) (λp hp=>hsp p (List.mem_append_right _ hp)),rfl⟩
theorem post_true {f : Func} {s : ChangeSpec} {apart fresh handsOn again : Bool} {W W' : World} {args : Array Value} {ds gs : List (DataW H)} {before : List MemPlace} {tb : TypeId}
  (hl:laidOutB P=true) (hread:∀ t∈f.params.toList,P.readableRec t=true∧t<P.types.size) (hrt:f.resultTypes=#[tb]) (htb:P.underlying tb=some .bool) (hvars:s.vars=[])
  (hfn:s.fn H (ds++gs)={ results:=[.lit (.bool true)],args:=ds }) (hW:DataW.Whole enc P f.params.toList s.vars apart W args.toList ds gs before) (hb:Below W.heap.size W W') :
  s.post enc P f apart fresh handsOn again W args (.bool true) W':=by
 have hlt:∀ p∈before,p.block<W.heap.size:=λp hp=>hW.lt p hp
 obtain ⟨p,q,hA,hV,rfl,hz,hn⟩:=hW
 have hV':=hV
 rw [hvars] at hV'
 obtain ⟨rfl,rfl⟩:=trodVars_none hV'
 have hargs:∀ sp:Nat→Bool,(∀ p'∈p++[],sp p'.block=true)→DataW.TrodAll enc P W' 0 sp true f.params.toList args.toList ds p:=λsp hsp =>
  trodAll_stays hl hread hA (λx hx=>hb.same (hlt x (by simpa using hx))) (λx hx=>hsp x (by simpa using hx))
 have hres:∀ (b:Nat) (sp:Nat→Bool) (hd:Bool),DataW.TrodAll enc P W' b sp hd f.resultTypes.toList ((Value.bool true).resultList f.resultTypes.size) (s.fn H (ds++[])).results []:=λb sp hd=>by
  rw [hfn,hrt]
  exact trodAll_mk1 (shut_bool htb _)
 have hold:∀ p'∈p++[],(λb=>decide (b<W.heap.size)) p'.block=true:=λp' hp=>by simpa using hlt p' hp
 have hva:∀ sp:Nat→Bool,DataW.TrodVars enc P W' sp s.vars (s.fn H (ds++[])).vars []:=λsp=>by rw [hvars,hfn];exact rfl
 refine ⟨ds,[],p++[],[],p,[],⟨p,[],hA,hV,rfl,hz,hn⟩,hres _ _ _,by rw [hfn];exact hargs _ hold,hva _,World.keptBut_mono (λx hx=>⟨hx,?_⟩) (hb.frame _),λ_=>?_⟩
 ·exact .inr (.inl (by simpa using hx))
 ·refine ⟨fun j t' r h1 h2 => ?_, _, _, ([] ++ p) ++ [], ⟨[] ++ p, [], trodAll_append (by rw [hfn] at *; exact hargs _ (fun _ _ => rfl)) (hres _ _ _), hva _, rfl, ?_, ?_⟩, ?_⟩
  ·exact ok_one (v:=.bool true) (by rw [hrt]) rfl (okWide_bool_mk htb _) j t' r h1 h2
  ·intro b off hp
   rw [hb.frozen (hlt _ (by simpa using hp))]
   exact hz b off (by simpa using hp)
  ·intro ha
   simpa using hn ha
  ·intro x hx _
   simpa using hx
end
end
end Go.Wk
namespace Go.Wk
open Go Go.WideShapes Go.ChangeShapes Go.RowKit
def jf1 (P:Program) (f:FuncId) (fn:Func) (s:ChangeSpec) (c:OpenClaim):Bool:=c.wf (OpenSpec.ofChange s)&&laidOutB P&&mapsRowed P&&fn.params.all (P.readableRec ·)&&namedTie P c.named s.vars&&(c.stops == [])&&(P.stops == [])&&(c.knobs == [])&&(P.stopKnobs == [])
def jf2 (P:Program) (f:FuncId) (fn:Func) (s:ChangeSpec) (c:OpenClaim):Bool:=(c.inPlace == P.inPlace f)&&(c.unfollowed == P.unfollowed f)&&(c.recurses == P.recurses f)&&(c.named == P.varsNamed f)
def jf3 (P:Program) (f:FuncId) (fn:Func) (s:ChangeSpec) (c:OpenClaim):Bool:=(c.maps == (fn.params.toList++s.plain.varTypes P).any (P.mapsRec ·))&&(c.ifaces == (fn.params.toList++s.plain.varTypes P).any (P.ifacesRec ·))&&(c.mapsOut == P.mapsAmong fn.resultTypes.toList)&&(c.loops == (fn.params.toList++s.plain.varTypes P).any (P.loopsFrom ·))&&(c.wideKeys == (fn.params.toList++s.plain.varTypes P++fn.resultTypes.toList).any (P.wideKeysFrom ·))&&s.vars.all (P.varReadable ·)&&fn.resultTypes.all (λt=>P.readableRec t&&decide (t<P.types.size))&&(c.ifacesOut == fn.resultTypes.toList.any (P.ifacesRec ·))&&(c.loopsOut == fn.resultTypes.toList.any (P.loopsFrom ·))&&(c.plainKeys == P.plainKeys)&&c.shortTexts.isNone
def jf4 (P:Program) (f:FuncId) (fn:Func) (s:ChangeSpec) (c:OpenClaim):Bool:=P.stopsHeard
def jf5 (P:Program) (f:FuncId) (fn:Func) (s:ChangeSpec) (c:OpenClaim):Bool:=P.mayEnter&&(c.lifted == P.liftsFinal)
def jf6 (P:Program) (f:FuncId) (fn:Func) (s:ChangeSpec) (c:OpenClaim):Bool:=(P.make == some c.make)&&(c.kinds == (if c.domain.isEmpty then [] else fn.params.toList.map λt=>match P.underlying t with | some (.int k)=>some k | _=>none))&&(c.pinned == c.pinnedBy)&&(c.veiled == (fn.params.toList++s.plain.varTypes P++fn.resultTypes.toList).any (P.veiledRec ·))&&c.veiledFits P fn.params.toList (fn.params.toList++s.plain.varTypes P++fn.resultTypes.toList)
theorem jf_all {P:Program} {f:FuncId} {fn:Func} {s:ChangeSpec} {c:OpenClaim} (h1:jf1 P f fn s c=true) (h2:jf2 P f fn s c=true) (h3:jf3 P f fn s c=true) (h4:jf4 P f fn s c=true) (h5:jf5 P f fn s c=true) (h6:jf6 P f fn s c=true):joinedFacts P f fn s c=true:=by
 unfold joinedFacts
 simp only [jf1,Bool.and_eq_true] at h1
 simp only [jf2,Bool.and_eq_true] at h2
 simp only [jf3,Bool.and_eq_true] at h3
 simp only [jf4,Bool.and_eq_true] at h4
 simp only [jf5,Bool.and_eq_true] at h5
 simp only [jf6,Bool.and_eq_true] at h6
 simp only [Bool.and_eq_true]
 exact ⟨⟨⟨⟨⟨⟨⟨⟨⟨⟨⟨⟨⟨⟨⟨⟨⟨⟨⟨⟨⟨⟨⟨⟨⟨⟨⟨⟨⟨⟨⟨h1.1.1.1.1.1.1.1.1,h1.1.1.1.1.1.1.1.2⟩,h1.1.1.1.1.1.1.2⟩,h1.1.1.1.1.1.2⟩,h1.1.1.1.1.2⟩,h1.1.1.1.2⟩,h1.1.1.2⟩,h1.1.2⟩,h1.2⟩,h2.1.1.1⟩,h2.1.1.2⟩,h2.1.2⟩,h2.2⟩,h3.1.1.1.1.1.1.1.1.1.1⟩,h3.1.1.1.1.1.1.1.1.1.2⟩,h3.1.1.1.1.1.1.1.1.2⟩,h3.1.1.1.1.1.1.1.2⟩,h3.1.1.1.1.1.1.2⟩,h3.1.1.1.1.1.2⟩,h3.1.1.1.1.2⟩,h3.1.1.1.2⟩,h3.1.1.2⟩,h3.1.2⟩,h3.2⟩,h4⟩,h5.1⟩,h5.2⟩,h6.1.1.1.1⟩,h6.1.1.1.2⟩,h6.1.1.2⟩,h6.1.2⟩,h6.2⟩
end Go.Wk
namespace Go.Wk
open Go Lean.Order
theorem le_opt {α:Type} {a b:Option α}:PartialOrder.rel a b↔∀ x,a=some x→b=some x:=by
 constructor
 ·intro h
  change FlatOrder.rel (b:=none) a b at h
  cases h with
  | bot=>intro x hx;cases hx
  | refl=>exact λ_ h=>h
 ·intro h
  change FlatOrder.rel (b:=none) a b
  cases a with
  | none=>exact .bot
  | some x=>rw [h x rfl];exact .refl
universe u
variable {γ:Type u} [PartialOrder γ] {α β S X:Type}
@[partial_fixpoint_monotone]
theorem mono_obind (f:γ→Option α) (g:γ→α→Option β) (hf:monotone f) (hg:monotone g):monotone λx=>Option.bind (f x) (g x):=λx y h=>le_opt.2 λz hz=>by
 obtain ⟨a,h1,h2⟩:=Option.bind_eq_some_iff.1 hz
 exact Option.bind_eq_some_iff.2 ⟨a,le_opt.1 (hf x y h) a h1,le_opt.1 (hg x y h a) z h2⟩
@[partial_fixpoint_monotone]
theorem mono_sumElim {A B:Type} (f:γ→A→Option β) (g:γ→B→Option β) (hf:monotone f) (hg:monotone g):monotone λx=>Sum.elim (f x) (g x):=λx y h s=>by
 cases s with
 | inl a=>exact hf x y h a
 | inr b=>exact hg x y h b
@[partial_fixpoint_monotone]
theorem mono_oelim (o:Option α) (f:γ→Option β) (g:γ→α→Option β) (hf:monotone f) (hg:monotone g):monotone λx=>Option.elim o (f x) (g x):=λx y h=>by
 cases o with
 | none=>exact hf x y h
 | some a=>exact hg x y h a
theorem forN_le {b1 b2:Int→S→Option (S ⊕ X)} (h:∀ i s z,b1 i s=some z→b2 i s=some z):∀ (k:Nat) (i:Int) (s:S) (z:S ⊕ X),forN b1 k i s=some z→forN b2 k i s=some z:=by
 intro k
 induction k with
 | zero=>intro i s z hz;exact hz
 | succ k ih =>
  intro i s z hz
  cases hb:b1 i s with
  | none=>rw [forN] at hz;simp [hb] at hz
  | some r =>
   cases r with
   | inl s'=>rw [forN_inl (h _ _ _ hb)];rw [forN_inl hb] at hz;exact ih _ _ _ hz
   | inr x=>rw [forN_inr (h _ _ _ hb)];rw [forN_inr hb] at hz;exact hz
@[partial_fixpoint_monotone]
theorem mono_forN (f:γ→Int→S→Option (S ⊕ X)) (k:Nat) (i:Int) (s:S) (hf:monotone f):monotone λx=>forN (f x) k i s:=λx y h =>
 le_opt.2 (forN_le (λi s z hz=>le_opt.1 (hf x y h i s) z hz) k i s)
theorem loopN_le {b1 b2:S→Option (S ⊕ X)} (h:∀ s z,b1 s=some z→b2 s=some z):∀ (n:Nat) (s:S) (z:X),loopN b1 n s=some z→loopN b2 n s=some z:=by
 intro n
 induction n with
 | zero=>intro s z hz;exact hz
 | succ n ih =>
  intro s z hz
  simp only [loopN] at hz ⊢
  cases hb:b1 s with
  | none=>simp [hb] at hz
  | some r =>
   rw [h _ _ hb]
   cases r with
   | inl s'=>simp only [hb] at hz ⊢;exact ih _ _ hz
   | inr x=>simp only [hb] at hz ⊢;exact hz
@[partial_fixpoint_monotone]
theorem mono_loopM (f:γ→S→Option (S ⊕ X)) (s:S) (hf:monotone f):monotone λx=>loopM (f x) s:=λx y h =>
 le_opt.2 λz hz=>by
  obtain ⟨n,hn⟩:=loopM_eq.1 hz
  exact loopM_eq.2 ⟨n,loopN_le (λs z hz=>le_opt.1 (hf x y h s) z hz) n s z hn⟩
section
variable {P:Program} {l:Env} {w:World} {o:Oper} {x:Operand} {t:TypeId} {i:Int}
end
end Go.Wk
namespace Go.Wk
open Go Go.RowKit
def RtX (R : Value → World → Prop) (X : List PanicEntry → World → Prop) : Ending → World → Prop
 | .returned v,w=>R v w
 | .panicked c,w=>X c w
 | .outgrown,_=>False
def EfX (P:Program) (a:Act) (w:World) (o:Oper) (R:Value→World→Prop) (X:List PanicEntry→World→Prop):Prop :=
 ∀ (K:Act→World→Prop) (Q:Exit→Act→World→Prop),(∀ v w',R v w'→K (a.put o.dst v) w')→(∀ c w',X c w'→Q (.panic c) a w')→o.wp P a w K Q
def ConX (P:Program) (f:FuncId) (args:List Value) (w:World) (R:Value→World→Prop) (X:List PanicEntry→World→Prop):Prop:=Calls P f args.toArray w (RtX R X)
def pch (T:TypeId) (e:Int):List PanicEntry:=[{ v:=.iface T (.int .i64 e),recovered:=false }]
section
variable {P:Program} {ops:Array Oper} {Q:Exit→Act→World→Prop} {a:Act} {w:World} {rest:List Oper} {o:Oper} {n:Nat} {l:Env} {d:Nat} {v:Value} {R:Value→World→Prop} {X:List PanicEntry→World→Prop}
section
variable {S:World→Prop} {ns:List Nat} {t:Ord} {i:Nat}
end
end
def encA (n:Nat) (arr:List Int):List Value:=(List.range n).map λj=>.int .i64 (arr.getD j 0)
def setA (n:Nat) (arr:List Int) (i:Nat) (x:Int):List Int:=(List.range n).map λj=>if j=i then x else arr.getD j 0
def idxA (n:Nat) (i:Int):Option Int:=if 0≤i∧i.toNat<n then some i else none
section
variable {P:Program} {a:Act} {w w0:World} {hz:Heap} {L:List Ch} {o:Oper} {n n':Nat} {l:Env} {v:Value} {x y:Operand} {t e T:TypeId} {i:Int} {arr:List Int} {pre post:List Value} {b:Nat} {k:IntKind}
def normA (n:Nat) (arr:List Int):List Int:=(List.range n).map λj=>arr.getD j 0
end
section
open Lean.Order
universe u
variable {γ:Type u} [PartialOrder γ] {β:Type}
@[partial_fixpoint_monotone]
theorem mono_sumElimA {A B:Type} (f:γ→A→Option β) (g:γ→B→Option β) (s:A ⊕ B) (hf:monotone f) (hg:monotone g):monotone λx=>Sum.elim (f x) (g x) s:=λx y h=>by
 cases s with
 | inl a=>exact hf x y h a
 | inr b=>exact hg x y h b
end
end Go.Wk
