/- A part of a proof: general laws of walks, no statement of the seat. -/
import Derived.Test.YtkihhabnfheieaaGreatWkN
import Derived.Test.YtkihhabnfheieaaGreatWkA
import Derived.ProofKit
import Derived.SizedLaws
import Derived.Deep.Slices
import Derived.Deep.Fields
import Derived.JoinedCond
namespace Go.Wk
open Go
theorem bv6 {S T X Y:Type} {b1:S->Option (S ⊕ X)} {b2:T->Option (T ⊕ Y)} (R:S->T->Prop) (Q:X->Y->Prop) (μ:S->Nat)
  (hs:∀ s t,R s t->(∃ K M,b1 s=some (.inl K)/\b2 t=some (.inl M)/\R K M/\μ K<μ s)\/∃ x y,b1 s=some (.inr x)/\b2 t=some (.inr y)/\Q x y) :
  ∀ (n:Nat) (s:S) (t:T),R s t->μ s<n->∃ x y,kx b1 s=some x/\kx b2 t=some y/\Q x y:=by
 intro n
 induction n with
 | zero=>intro s t _ h;omega
 | succ n ih =>
  intro s t hr _;rcases hs s t hr with ⟨K,M,O,N,W,_⟩ | ⟨x,y,O,N,W⟩
  ·obtain ⟨x, y, g1, g2, g3⟩ := ih K M W (by omega);exact ⟨x,y,(sR O).trans g1,(sR N).trans g2,g3⟩
  ·exact ⟨x,y,rH O,rH N,W⟩
theorem lp {S X:Type} {b1:S->Option (S ⊕ X)} (R:S->Prop) (Q:X->Prop) (μ:S->Nat)
  (hs:∀ s,R s->(∃ K,b1 s=some (.inl K)/\R K/\μ K<μ s)\/∃ x,b1 s=some (.inr x)/\Q x) :
  ∀ (n:Nat) (s:S),R s->μ s<n->∃ x,kx b1 s=some x/\Q x:=by
 intro n
 induction n with
 | zero=>intro s _ h;omega
 | succ n W =>
  intro s hr _;rcases hs s hr with ⟨K,M,N,_⟩ | ⟨x,M,N⟩
  ·obtain ⟨x, O, g3⟩ := W K N (by omega);exact ⟨x,(sR M).trans O,g3⟩
  ·exact ⟨x,rH M,N⟩
end Go.Wk
namespace Go.Wk
open Go Go.ChangeShapes Go.WideShapes Go.Deep Go.RowKit
def Opn (P:Program) (α:Type) [GT α] (R:α->Prop) (t:TypeId):Prop :=
 ∀ (H:Type) (enc:TypeId × Value->H) (w:World) (base:Nat) (spare:Nat->Bool) (held:Bool) (K:Nat) (cs:List Value) (d:DataW H) (ps:List MemPlace),
  DataW.trod enc P w base spare held K t cs=some (d,ps)->(∀ n∈d.weights P t,n<=reachBytes)->∃ m:α,GT.rep (hp w) cs m/\R m
section
variable {P:Program} {t e:TypeId}
theorem cw8 (O:P.underlying t=some (.int .i64)):Opn P Int (λn=>-9223372036854775808<=n/\n<9223372036854775808) t:=by
 intro H enc w base spare held K cs d ps h _;cases K with
 | zero=>simp [DataW.trod] at h
 | succ K =>
  unfold DataW.trod at h;rw [O] at h
  match cs,h with
  | [.int k n],h =>
   simp only at h;split at h
   ·rename_i N;obtain ⟨rfl,M⟩:=N;refine ⟨n,rfl,?_⟩;simp [Lit.wf,IntKind.min,IntKind.max,IntKind.bits,IntKind.signed] at M;omega
   ·cases h
theorem bf4 {H:Type} {ds:List (DataW H)} {d:DataW H} (K:d∈ds):∀ n∈d.weights P e,n∈DataW.weightsAll P e ds:=by
 induction ds with
 | nil=>cases K
 | cons x r N =>
  intro n M;rw [DataW.weightsAll,List.mem_append];rcases List.mem_cons.1 K with rfl | h
  ·exact .inl M
  ·exact .inr (N h n M)
theorem ab1 {w:World} {base n:Nat} {a:Addr} {k:Nat} {cs:List Value} (hc:w.cells? base (a.add k) n=some cs) (hn:0<n):kS (hp w) a.block (a.off+k) cs:=by
 obtain ⟨_,hl,h1⟩:=World.cells?_some hc
 have O:∀ i,((a.add k).add i).block=a.block/\((a.add k).add i).off=a.off+k+i:=λi=>by
  unfold Addr.add;by_cases h:k=0<;>by_cases h':i=0<;>simp [h,h']<;>omega
 have h0:∃ C T K,hp w a.block=some (.cells C T K):=by
  have:=h1 0 hn;rw [List.getElem?_eq_getElem (by omega)] at this;unfold World.cell? at this;rw [(O 0).1] at this;unfold hp;split at this
  ·rename_i c t K he;exact ⟨c,t,K,he⟩
  ·cases this
 obtain ⟨C,T,K,N⟩:=h0;refine ⟨C,T,K,N,λj v W=>?_⟩;have M:j<n:=by rw [<- hl];exact (lgE.1 W).1
 have:=h1 j M;rw [W] at this;unfold World.cell? at this;rw [(O j).1] at this;unfold hp at N;rw [N] at this;simp only at this;split at this
 ·cases this
 ·rw [(O j).2] at this;exact this
section
variable {α β:Type} [GT α] [GT β] {R:α->Prop} {R2:β->Prop}
theorem zK (ht:P.underlying t=some (.slice e)) (hs:P.cellsOf e=GT.sz α) (hz:0<GT.sz α) (hb:0<P.bytesOf e) (he:Opn P α R e) :
  Opn P (List α) (λl=>l.length<=140737488351232/\∀ x∈l,R x) t:=by
 intro H enc w base spare held _ cs d ps h hw;rcases open_slice ht h with ⟨rfl,N⟩ | ⟨a,len,cap,m,n,D,Pl,rfl,_,hl,hm,a5,N,hi⟩
 ·exact ⟨[],ay3,by simp,by simp⟩
 ·simp only [Prod.mk.injEq] at N;obtain ⟨rfl,rfl⟩:=N;have aE:len<=m:=by rw [a5];split<;>omega
  have aD:len<=140737488351232:=by
   have:=hw _ (by rw [DataW.weights];simp only [ht];exact List.mem_cons_self);simp only [List.length_map,List.length_range] at this;have M:reachBytes=140737488351232:=rfl;have h3:(len+(m - len))*1<=(len+(m - len))*P.bytesOf e:=Nat.mul_le_mul_left _ hb;omega
  have a8:∀ i,i<len->∃ (x:α) (c:List Value),kS (hp w) a.block (a.off+i*GT.sz α) c/\GT.rep (hp w) c x/\R x:=by
   intro i K;obtain ⟨cs',hc,aB⟩:=hi i (by omega)
   obtain ⟨x,a9,a4⟩:=he H enc w base spare held n cs' (D i) (Pl i) aB (λn hn=>hw n (by
    rw [DataW.weights];simp only [ht]
    refine List.mem_cons_of_mem _ (List.mem_append_left _ (bf4 (List.mem_map.2 ⟨i,List.mem_range.2 K,rfl⟩) n hn))))
   refine ⟨x,cs',?_,a9,a4⟩;rw [hs] at hc;exact ab1 hc hz
  by_cases h0:len=0
  ·subst h0;exact ⟨[],og.2 (.inl ⟨.inr ⟨a,cap,rfl⟩,rfl⟩),by simp,by simp⟩
  ·have a1:a=⟨a.block,a.off,none⟩:=by
    obtain ⟨cs',hc,_⟩:=hi 0 (by omega);rw [hs,Nat.zero_mul,show a.add 0=a from rfl] at hc;obtain ⟨_,_,O⟩:=World.cells?_some hc;have M:=O 0 hz;rw [show a.add 0=a from rfl] at M;obtain ⟨_,_,_⟩:=World.cells?_some hc;rw [List.getElem?_eq_getElem (by omega)] at M;unfold World.cell? at M;cases a2:a.spot with
    | none=>rw [<- a2]
    | some q =>
     rw [a2] at M;split at M<;>simp at M
   have aC:∀ i,∃ x:Option α,i<len->∃ y,x=some y/\∃ c,kS (hp w) a.block (a.off+i*GT.sz α) c/\GT.rep (hp w) c y/\R y:=λi=>by
    by_cases K:i<len
    ·obtain ⟨x,c,O,M,h3⟩:=a8 i K;exact ⟨some x,λ_=>⟨x,rfl,c,O,M,h3⟩⟩
    ·exact ⟨none,λh=>absurd h K⟩
   obtain ⟨f,hf⟩:=Classical.axiomOfChoice aC
   have a0:∀ k,k<=len->∃ l:List α,l.length=k/\∀ i,i<k->f i=l[i]?:=by
    intro k
    induction k with
    | zero=>exact λ_=>⟨[],rfl,λi hi=>by omega⟩
    | succ k ih =>
     intro _;obtain ⟨l,O,M⟩:=ih (by omega);obtain ⟨y,hy,_⟩:=hf k (by omega);refine ⟨l++[y],by simp [O],λi hi=>?_⟩;by_cases aA:i<k
     ·rw [M i aA,List.getElem?_append_left (by omega)]
     ·obtain rfl : i = k := by omega
      rw [hy,List.getElem?_append_right (by omega),O];simp
   obtain ⟨l,a3,a6⟩:=a0 len (Nat.le_refl _)
   have W:∀ (i:Nat) (x:α),l[i]?=some x->(∃ c,kS (hp w) a.block (a.off+i*GT.sz α) c/\GT.rep (hp w) c x)/\R x:=λi x N=>by
    have K:i<len:=by rw [<- a3];exact (lgE.1 N).1
    obtain ⟨y,hy,c,O,M,h3⟩:=hf i K;rw [a6 i K,N] at hy;simp only [osI] at hy;subst hy;exact ⟨⟨c,O,M⟩,h3⟩
   refine ⟨l,og.2 (.inr ⟨a.block,a.off,len,cap,by rw [<- a1],a3,hl,⟨hm,by omega⟩,λi x N=>(W i x N).1⟩),by omega,λx N=>?_⟩;obtain ⟨i,a7,rfl⟩:=List.mem_iff_getElem.1 N;exact (W i _ (List.getElem?_eq_getElem a7)).2
def OpF (P:Program) (K:List Field) (α:Type) [GT α] (R:α->Prop) (off:Nat):Prop :=
 ∀ (H:Type) (enc:TypeId × Value->H) (w:World) (base:Nat) (spare:Nat->Bool) (held:Bool) (n:Nat) (cs:List Value) (xs:List (DataW H × List MemPlace)),
  xs.length=K.length->(∀ (j:Nat) (f:Field),K[j]?=some f->DataW.trod enc P w base spare held n f.type ((cs.drop f.offset).take (P.cellsOf f.type))=xs[j]?) ->
  (∀ n∈DataW.weightsEach P (K.map (·.type)) (xs.map (·.1)),n<=reachBytes)->cs.length=off+GT.sz α->∃ m:α,GT.rep (hp w) (cs.drop off) m/\R m
theorem xW {f:Field} {off:Nat} (N:f.offset=off) (hc:P.cellsOf f.type=GT.sz α) (h:Opn P α R f.type):OpF P [f] α R off:=by
 intro H enc w base spare held n cs xs K O M _;subst N
 match xs,K with
 | [x],_ =>
  have h0:=O 0 f rfl;rw [List.take_of_length_le (by rw [List.length_drop];omega)] at h0;exact h H enc w base spare held n _ x.1 x.2 h0 (λn W=>M n (by simp [DataW.weightsEach,W]))
theorem qt {f:Field} {fs:List Field} {off:Nat} (hf:f.offset=off) (hc:P.cellsOf f.type=GT.sz α) (h:Opn P α R f.type) (h2:OpF P fs β R2 (off+GT.sz α)) :
  OpF P (f::fs) (α × β) (λp=>R p.1/\R2 p.2) off:=by
 intro H enc w base spare held n cs xs K hj hw hl;subst hf
 match xs,K with
 | x::xs,K =>
  have h0:=hj 0 f rfl;obtain ⟨a,M,W⟩:=h H enc w base spare held n _ x.1 x.2 h0 (λn hn=>hw n (by simp [DataW.weightsEach,hn]))
  obtain ⟨b, O, N⟩ := h2 H enc w base spare held n cs xs (by simpa using K) (fun j g hg => by simpa using hj (j + 1) g (by simpa using hg))
   (λn hn=>hw n (by simp [DataW.weightsEach,hn])) (by rw [hl];show _+(_+_)=_;omega)
  rw [hc] at M;refine ⟨(a,b),⟨_,_,?_,M,O⟩,W,N⟩;rw [<- List.drop_drop,List.take_append_drop]
theorem vk {O:Array Field} {N:List Field} (W:P.underlying t=some (.struct O)) (M:O.toList=N) (hc:P.cellsOf t=GT.sz α) (h:OpF P N α R 0):Opn P α R t:=by
 intro H enc w base spare held _ cs d ps hd hw;subst M;obtain ⟨xs,n,_,hx,_,K,hf⟩:=DataW.trod_struct W hd;simp only [Prod.mk.injEq] at hx;obtain ⟨rfl,rfl⟩:=hx;have:=h H enc w base spare held n cs xs (by simpa using K) (λj f hj=>hf j f (by simpa using hj)) (λn hn=>hw n (by rw [DataW.weights];simp only [W];exact hn)) (by omega);simpa using this
theorem ar8 {M:α->Prop} (g:β->α) (hg:∀ h cs b,GT.rep h cs b->GT.rep h cs (g b)) (hR:∀ b,R2 b->M (g b)) (h:Opn P β R2 t):Opn P α M t:=by
 intro H enc w base spare held K cs d ps N O;obtain ⟨m,h1,W⟩:=h H enc w base spare held K cs d ps N O;exact ⟨g m,hg _ _ _ h1,hR _ W⟩
end
section
variable {H:Type} {enc:TypeId × Value->H} {w w':World} {base b0:Nat} {spare sp:Nat->Bool} {held:Bool} {d:DataW H} {ps:List MemPlace} {v:Value} {r:Reach}
variable {α:Type} [GT α] {R:α->Prop}
theorem cv9 (N:Opn P α R t) (h:DataW.Trod enc P w base spare held t v d ps) (M:∀ n∈d.weights P t,n<=reachBytes):∃ m:α,GT.rep (hp w) v.cells.toList m/\R m:=by
 obtain ⟨K,h⟩:=h;exact N H enc w base spare held K _ d ps h M
theorem au1 (W:laidOutB P=true) {N:List TypeId} (K:∀ t∈N,P.readableRec t=true/\t<P.types.size):∀ {vs:List Value} {ds:List (DataW H)} {ps:List MemPlace},
  DataW.TrodAll enc P w 0 (λ_=>true) true N vs ds ps->(∀ p∈ps,w.sameAt w' p)->(∀ p∈ps,sp p.block=true)->DataW.TrodAll enc P w' 0 sp true N vs ds ps:=by
 induction N with
 | nil =>
  intro vs ds ps h _ _;obtain ⟨rfl,rfl,rfl⟩:=trodAll_nil h;exact rfl
 | cons t N ih =>
  intro vs ds ps h hs M;obtain ⟨v,_,d,_,a,b,rfl,rfl,rfl,h1,h2⟩:=trodAll_cons h;have O:=K t List.mem_cons_self
  exact ⟨a,b,WideElems.Trod_stays W O.1 O.2 h1 (λp hp=>hs p (List.mem_append_left _ hp)) (λp hp=>M p (List.mem_append_left _ hp)),
   ih (λt ht=>K t (List.mem_cons_of_mem _ ht)) h2 (λp hp=>hs p (List.mem_append_right _ hp)) (λp hp=>M p (List.mem_append_right _ hp)),rfl⟩
theorem bt9 {f:Func} {s:ChangeSpec} {a0 fresh M a4:Bool} {W W':World} {args:Array Value} {ds gs:List (DataW H)} {K:List MemPlace} {tb:TypeId}
  (hl:laidOutB P=true) (a5:∀ t∈f.params.toList,P.readableRec t=true/\t<P.types.size) (a8:f.resultTypes=#[tb]) (a9:P.underlying tb=some .bool) (N:s.vars=[])
  (a1:s.fn H (ds++gs)={ results:=[.lit (.bool true)],args:=ds }) (hW:DataW.Whole enc P f.params.toList s.vars a0 W args.toList ds gs K) (hb:Below W.heap.size W W') :
  s.post enc P f a0 fresh M a4 W args (.bool true) W':=by
 have a3:∀ p∈K,p.block<W.heap.size:=λp hp=>hW.lt p hp
 obtain ⟨p,q,hA,hV,rfl,hz,hn⟩:=hW;have a6:=hV;rw [N] at a6;obtain ⟨rfl,rfl⟩:=trodVars_none a6
 have O:∀ sp:Nat->Bool,(∀ p'∈p++[],sp p'.block=true)->DataW.TrodAll enc P W' 0 sp true f.params.toList args.toList ds p:=λsp aA =>
  au1 hl a5 hA (λx hx=>hb.same (a3 x (by simpa using hx))) (λx hx=>aA x (by simpa using hx))
 have a2:∀ (b:Nat) (sp:Nat->Bool) (hd:Bool),DataW.TrodAll enc P W' b sp hd f.resultTypes.toList ((Value.bool true).resultList f.resultTypes.size) (s.fn H (ds++[])).results []:=λb sp hd=>by
  rw [a1,a8];exact trodAll_mk1 (shut_bool a9 _)
 have hold:∀ p'∈p++[],(λb=>decide (b<W.heap.size)) p'.block=true:=λp' hp=>by simpa using a3 p' hp
 have a7:∀ sp:Nat->Bool,DataW.TrodVars enc P W' sp s.vars (s.fn H (ds++[])).vars []:=λsp=>by rw [N,a1];exact rfl
 refine ⟨ds,[],p++[],[],p,[],⟨p,[],hA,hV,rfl,hz,hn⟩,a2 _ _ _,by rw [a1];exact O _ hold,a7 _,World.keptBut_mono (λx hx=>⟨hx,?_⟩) (hb.frame _),λ_=>?_⟩
 ·exact .inr (.inl (by simpa using hx))
 ·refine ⟨fun j t' r h1 h2 => ?_, _, _, ([] ++ p) ++ [], ⟨[] ++ p, [], trodAll_append (by rw [a1] at *; exact O _ (fun _ _ => rfl)) (a2 _ _ _), a7 _, rfl, ?_, ?_⟩, ?_⟩
  ·exact ok_one (v:=.bool true) (by rw [a8]) rfl (okWide_bool_mk a9 _) j t' r h1 h2
  ·intro b off hp;rw [hb.frozen (a3 _ (by simpa using hp))];exact hz b off (by simpa using hp)
  ·intro ha;simpa using hn ha
  ·intro x hx _;simpa using hx
end
end
end Go.Wk
namespace Go.Wk
open Go Go.WideShapes Go.ChangeShapes Go.RowKit
def jf1 (P:Program) (f:FuncId) (K:Func) (s:ChangeSpec) (c:OpenClaim):Bool:=c.wf (OpenSpec.ofChange s)&&laidOutB P&&mapsRowed P&&K.params.all (P.readableRec ·)&&namedTie P c.named s.vars&&(c.stops == [])&&(P.stops == [])&&(c.knobs == [])&&(P.stopKnobs == [])
def jf2 (P:Program) (f:FuncId) (K:Func) (s:ChangeSpec) (c:OpenClaim):Bool:=(c.inPlace == P.inPlace f)&&(c.unfollowed == P.unfollowed f)&&(c.recurses == P.recurses f)&&(c.named == P.varsNamed f)
def jf3 (P:Program) (f:FuncId) (K:Func) (s:ChangeSpec) (c:OpenClaim):Bool:=(c.maps == (K.params.toList++s.plain.varTypes P).any (P.mapsRec ·))&&(c.ifaces == (K.params.toList++s.plain.varTypes P).any (P.ifacesRec ·))&&(c.mapsOut == P.mapsAmong K.resultTypes.toList)&&(c.loops == (K.params.toList++s.plain.varTypes P).any (P.loopsFrom ·))&&(c.wideKeys == (K.params.toList++s.plain.varTypes P++K.resultTypes.toList).any (P.wideKeysFrom ·))&&s.vars.all (P.varReadable ·)&&K.resultTypes.all (λt=>P.readableRec t&&decide (t<P.types.size))&&(c.ifacesOut == K.resultTypes.toList.any (P.ifacesRec ·))&&(c.loopsOut == K.resultTypes.toList.any (P.loopsFrom ·))&&(c.plainKeys == P.plainKeys)&&c.shortTexts.isNone
def jf4 (P:Program) (f:FuncId) (K:Func) (s:ChangeSpec) (c:OpenClaim):Bool:=P.stopsHeard
def jf5 (P:Program) (f:FuncId) (K:Func) (s:ChangeSpec) (c:OpenClaim):Bool:=P.mayEnter&&(c.lifted == P.liftsFinal)
def jf6 (P:Program) (f:FuncId) (K:Func) (s:ChangeSpec) (c:OpenClaim):Bool:=(P.make == some c.make)&&(c.kinds == (if c.domain.isEmpty then [] else K.params.toList.map λt=>match P.underlying t with | some (.int k)=>some k | _=>none))&&(c.pinned == c.pinnedBy)&&(c.veiled == (K.params.toList++s.plain.varTypes P++K.resultTypes.toList).any (P.veiledRec ·))&&c.veiledFits P K.params.toList (K.params.toList++s.plain.varTypes P++K.resultTypes.toList)
theorem cx8 {P:Program} {f:FuncId} {N:Func} {s:ChangeSpec} {c:OpenClaim} (M:jf1 P f N s c=true) (W:jf2 P f N s c=true) (K:jf3 P f N s c=true) (h4:jf4 P f N s c=true) (h5:jf5 P f N s c=true) (O:jf6 P f N s c=true):joinedFacts P f N s c=true:=by
 unfold joinedFacts;simp only [jf1,Bool.and_eq_true] at M;simp only [jf2,Bool.and_eq_true] at W;simp only [jf3,Bool.and_eq_true] at K;simp only [jf4,Bool.and_eq_true] at h4;simp only [jf5,Bool.and_eq_true] at h5;simp only [jf6,Bool.and_eq_true] at O;simp only [Bool.and_eq_true];exact ⟨⟨⟨⟨⟨⟨⟨⟨⟨⟨⟨⟨⟨⟨⟨⟨⟨⟨⟨⟨⟨⟨⟨⟨⟨⟨⟨⟨⟨⟨⟨M.1.1.1.1.1.1.1.1,M.1.1.1.1.1.1.1.2⟩,M.1.1.1.1.1.1.2⟩,M.1.1.1.1.1.2⟩,M.1.1.1.1.2⟩,M.1.1.1.2⟩,M.1.1.2⟩,M.1.2⟩,M.2⟩,W.1.1.1⟩,W.1.1.2⟩,W.1.2⟩,W.2⟩,K.1.1.1.1.1.1.1.1.1.1⟩,K.1.1.1.1.1.1.1.1.1.2⟩,K.1.1.1.1.1.1.1.1.2⟩,K.1.1.1.1.1.1.1.2⟩,K.1.1.1.1.1.1.2⟩,K.1.1.1.1.1.2⟩,K.1.1.1.1.2⟩,K.1.1.1.2⟩,K.1.1.2⟩,K.1.2⟩,K.2⟩,h4⟩,h5.1⟩,h5.2⟩,O.1.1.1.1⟩,O.1.1.1.2⟩,O.1.1.2⟩,O.1.2⟩,O.2⟩
end Go.Wk
namespace Go.Wk
open Go Lean.Order
theorem yx {α:Type} {a b:Option α}:PartialOrder.rel a b↔∀ x,a=some x->b=some x:=by
 constructor
 ·intro h;change FlatOrder.rel (b:=none) a b at h;cases h with
  | bot=>intro x K;cases K
  | refl=>exact λ_ h=>h
 ·intro h;change FlatOrder.rel (b:=none) a b;cases a with
  | none=>exact .bot
  | some x=>rw [h x rfl];exact .refl
universe u
variable {γ:Type u} [PartialOrder γ] {α β S X:Type}
@[partial_fixpoint_monotone]
theorem cu7 (f:γ->Option α) (g:γ->α->Option β) (N:monotone f) (M:monotone g):monotone λx=>Option.bind (f x) (g x):=λx y h=>yx.2 λz hz=>by
 obtain ⟨a,O,K⟩:=Option.bind_eq_some_iff.1 hz;exact Option.bind_eq_some_iff.2 ⟨a,yx.1 (N x y h) a O,yx.1 (M x y h a) z K⟩
@[partial_fixpoint_monotone]
theorem cn1 {A B:Type} (f:γ->A->Option β) (g:γ->B->Option β) (M:monotone f) (K:monotone g):monotone λx=>Sum.elim (f x) (g x):=λx y h s=>by
 cases s with
 | inl a=>exact M x y h a
 | inr b=>exact K x y h b
@[partial_fixpoint_monotone]
theorem cu9 (o:Option α) (f:γ->Option β) (g:γ->α->Option β) (M:monotone f) (K:monotone g):monotone λx=>Option.elim o (f x) (g x):=λx y h=>by
 cases o with
 | none=>exact M x y h
 | some a=>exact K x y h a
theorem cp9 {b1 b2:Int->S->Option (S ⊕ X)} (h:∀ i s z,b1 i s=some z->b2 i s=some z):∀ (k:Nat) (i:Int) (s:S) (z:S ⊕ X),kO b1 k i s=some z->kO b2 k i s=some z:=by
 intro k
 induction k with
 | zero=>intro i s z hz;exact hz
 | succ k M =>
  intro i s z hz;cases K:b1 i s with
  | none=>rw [kO] at hz;simp [K] at hz
  | some r =>
   cases r with
   | inl N=>rw [x9 (h _ _ _ K)];rw [x9 K] at hz;exact M _ _ _ hz
   | inr x=>rw [ar4 (h _ _ _ K)];rw [ar4 K] at hz;exact hz
@[partial_fixpoint_monotone]
theorem cy5 (f:γ->Int->S->Option (S ⊕ X)) (k:Nat) (i:Int) (s:S) (K:monotone f):monotone λx=>kO (f x) k i s:=λx y h =>
 yx.2 (cp9 (λi s z hz=>yx.1 (K x y h i s) z hz) k i s)
theorem cc0 {b1 b2:S->Option (S ⊕ X)} (h:∀ s z,b1 s=some z->b2 s=some z):∀ (n:Nat) (s:S) (z:X),qP b1 n s=some z->qP b2 n s=some z:=by
 intro n
 induction n with
 | zero=>intro s z hz;exact hz
 | succ n M =>
  intro s z hz;simp only [qP] at hz ⊢;cases K:b1 s with
  | none=>simp [K] at hz
  | some r =>
   rw [h _ _ K];cases r with
   | inl N=>simp only [K] at hz ⊢;exact M _ _ hz
   | inr x=>simp only [K] at hz ⊢;exact hz
@[partial_fixpoint_monotone]
theorem cx3 (f:γ->S->Option (S ⊕ X)) (s:S) (K:monotone f):monotone λx=>kx (f x) s:=λx y h =>
 yx.2 λz hz=>by
  obtain ⟨n,M⟩:=qu.1 hz;exact qu.2 ⟨n,cc0 (λs z hz=>yx.1 (K x y h s) z hz) n s z M⟩
section
variable {P:Program} {l:Env} {w:World} {o:Oper} {x:Operand} {t:TypeId} {i:Int}
end
end Go.Wk
namespace Go.Wk
open Go Go.RowKit
def RtX (R:Value->World->Prop) (X:List PanicEntry->World->Prop):Ending->World->Prop
 | .returned v,w=>R v w
 | .panicked c,w=>X c w
 | .outgrown,_=>False
def cv3 (P:Program) (f:FuncId) (args:List Value) (w:World) (R:Value->World->Prop) (X:List PanicEntry->World->Prop):Prop:=Calls P f args.toArray w (RtX R X)
section
variable {P:Program} {ops:Array Oper} {Q:Exit->Act->World->Prop} {a:Act} {w:World} {rest:List Oper} {o:Oper} {n:Nat} {l:Env} {d:Nat} {v:Value} {R:Value->World->Prop} {X:List PanicEntry->World->Prop}
section
variable {S:World->Prop} {ns:List Nat} {t:Ord} {i:Nat}
end
end
section
variable {P:Program} {a:Act} {w w0:World} {hz:kR} {L:List Ch} {o:Oper} {n n':Nat} {l:Env} {v:Value} {x y:Operand} {t e T:TypeId} {i:Int} {arr:List Int} {pre post:List Value} {b:Nat} {k:IntKind}
end
section
open Lean.Order
universe u
variable {γ:Type u} [PartialOrder γ] {β:Type}
@[partial_fixpoint_monotone]
theorem cl1 {A B:Type} (f:γ->A->Option β) (g:γ->B->Option β) (s:A ⊕ B) (M:monotone f) (K:monotone g):monotone λx=>Sum.elim (f x) (g x) s:=λx y h=>by
 cases s with
 | inl a=>exact M x y h a
 | inr b=>exact K x y h b
end
end Go.Wk
