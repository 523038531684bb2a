/- A part of the proof of FnTwoProgramsCardSaid. -/
import Derived.Test.YtdmoolhjchoifaaGreatDoorWkAd
namespace Go.Wk
open Go
structure fG where
 b:List UInt8
 p:Int
 deriving DecidableEq,Inhabited
instance:GT fG:=GT.via (λm=>(m.b,m.p))
structure ey where
 op:Int
 n_:Int
 name:Str
 kids:List ey
 deriving Inhabited
abbrev ak8 (i:GT ey):GT (Int × Int × Str × (List ey)):=(@instGTProd Int (Int × Str × (List ey)) _ (@instGTProd Int (Str × (List ey)) _ (@instGTProd Str ((List ey)) _ (@instGTList ey i))))
theorem as2:Ctn ak8:=(oq (oY _) (oq (oY _) (oq (oY _) (w5 aa0))))
instance:GT ey:=GT.lim 4 (λx=>(x.op,x.n_,x.name,x.kids)) ak8 (λ_=>rfl)
theorem ai0 {h:fU} {cs:List Value} {x:ey}:GT.rep h cs x↔GT.rep h cs (x.op,x.n_,x.name,x.kids):=ae8 as2
theorem xS {F:Nat→Prop} {h:fU} {cs:List Value} {x:ey}:GT.own F h cs x↔GT.own F h cs (x.op,x.n_,x.name,x.kids):=ac9 as2
structure fB where
 op:Int
 name:Str
 args:List ey
 body:List fB
 else_:List fB
 deriving Inhabited
abbrev am1 (i:GT fB):GT (Int × Str × (List ey) × (List fB) × (List fB)):=(@instGTProd Int (Str × (List ey) × (List fB) × (List fB)) _ (@instGTProd Str ((List ey) × (List fB) × (List fB)) _ (@instGTProd (List ey) ((List fB) × (List fB)) _ (@instGTProd (List fB) ((List fB)) (@instGTList fB i) (@instGTList fB i)))))
theorem ap7:Ctn am1:=(oq (oY _) (oq (oY _) (oq (oY _) (oq (w5 aa0) (w5 aa0)))))
instance:GT fB:=GT.lim 5 (λx=>(x.op,x.name,x.args,x.body,x.else_)) am1 (λ_=>rfl)
theorem ag9 {h:fU} {cs:List Value} {x:fB}:GT.rep h cs x↔GT.rep h cs (x.op,x.name,x.args,x.body,x.else_):=ae8 ap7
theorem xT {F:Nat→Prop} {h:fU} {cs:List Value} {x:fB}:GT.own F h cs x↔GT.own F h cs (x.op,x.name,x.args,x.body,x.else_):=ac9 ap7
structure Fn_ where
 name:Str
 params:List Str
 body:List fB
 deriving Inhabited
instance:GT Fn_:=GT.via (λm=>(m.name,m.params,m.body))
structure ft where
 fns:List Fn_
 vars:List Str
 next_:Int
 left:Int
 deriving Inhabited
instance:GT ft:=GT.via (λm=>(m.fns,m.vars,m.next_,m.left))
structure fZ where
 fns:List Fn_
 deriving Inhabited
instance:GT fZ:=GT.via (λm=>(m.fns))
structure eu where
 kind:Int
 text:Str
 deriving DecidableEq,Inhabited
instance:Flat eu:=Flat.mk' eu 2 (λm=>[(.int .i64 (m.kind)),(.string ⟨(m.text).b.toArray⟩)]) (λ_=>rfl) (λx=>by simp [Value.oneCell'])
structure ez where
 list:List eu
 bad:Bool
 deriving DecidableEq,Inhabited
instance:GT ez:=GT.via (λm=>(m.list,m.bad))
structure fO where
 sign:Str
 level:Int
 deriving DecidableEq,Inhabited
instance:Flat fO:=Flat.mk' fO 2 (λm=>[(.string ⟨(m.sign).b.toArray⟩),(.int .i64 (m.level))]) (λ_=>rfl) (λx=>by simp [Value.oneCell'])
theorem ba0 {a b:Str} (h:(Value.string ⟨a.b.toArray⟩)=.string ⟨b.b.toArray⟩):a=b:=by simp at h;exact Str.ext' h
instance:MV fO:=⟨λm=>.agg #[(.string ⟨(m.sign).b.toArray⟩),(.int .i64 (m.level))],λ⟨a1,a2⟩ ⟨b1,b2⟩ h=>by
 injection h with h;injection h with h
 injection h with h1 h
 replace h1:=ba0 h1
 injection h with h2 h
 injection h2 with _ h2
 subst h1 h2;rfl⟩
structure fF where
 list:List eu
 at_:Int
 deriving DecidableEq,Inhabited
instance:GT fF:=GT.via (λm=>(m.list,m.at_))
theorem iM {w0 w:World} {hz:fU} {L:List Ch} {v1:Value} (x:ey) (hm:Mem w0 hz w L) (j1:Nat) (h:L[j1]?=some (ow [v1] x.kids)):Mem w0 hz w (L.set j1 (ow [(.int .i64 (x.op)),(.int .i64 (x.n_)),(.string ⟨(x.name).b.toArray⟩),v1] (x:ey))) :=
 hm.mk1 (c':=ow [(.int .i64 (x.op)),(.int .i64 (x.n_)),(.string ⟨(x.name).b.toArray⟩),v1] (x:ey)) j1 h (λF1 _ o1=>show GT.own (α:=ey) _ _ _ _ from xS.2 ⟨[(.int .i64 (x.op))],[(.int .i64 (x.n_)),(.string ⟨(x.name).b.toArray⟩),v1],rfl,(λ_=>False),F1,(λ_ h=>h.elim),(λ_ h=>h),(λ_ h=>h.elim),Flat.own_iff.2 rfl,⟨[(.int .i64 (x.n_))],[(.string ⟨(x.name).b.toArray⟩),v1],rfl,(λ_=>False),F1,(λ_ h=>h.elim),(λ_ h=>h),(λ_ h=>h.elim),Flat.own_iff.2 rfl,⟨[(.string ⟨(x.name).b.toArray⟩)],[v1],rfl,(λ_=>False),F1,(λ_ h=>h.elim),(λ_ h=>h),(λ_ h=>h.elim),Flat.own_iff.2 rfl,o1⟩⟩⟩)
theorem oK {h:fU} {b off len cap i:Nat} {xs:List Fn_} {x:Fn_} (hr:GT.rep h [.slice (some ⟨b,off,none⟩) len cap] xs) (hx:xs[i]?=some x):∃ v1 v2:Value,iK h b (off+i*3) [(.string ⟨(x.name).b.toArray⟩),v1,v2]∧GT.rep h [v1] x.params∧GT.rep h [v2] x.body:=by
 obtain ⟨_,_,hc,hq⟩:=vd hr hx
 obtain ⟨_,_,rfl,rfl,_,_,rfl,h0_1,h0_2⟩:=hq
 obtain ⟨v1,rfl,-⟩:=id h0_1
 obtain ⟨v2,rfl,-⟩:=id h0_2
 exact ⟨v1,v2,hc,h0_1,h0_2⟩
theorem lC {w0 w:World} {hz:fU} {L:List Ch} {v1:Value} {x1:List ey} (a1:Int) (a2:Int) (a3:Str) (hm:Mem w0 hz w L) (j1:Nat) (h:L[j1]?=some (ow [v1] x1)):Mem w0 hz w (L.set j1 (ow [(.int .i64 (a1)),(.int .i64 (a2)),(.string ⟨(a3).b.toArray⟩),v1] (⟨a1,a2,a3,x1⟩:ey))) :=
 hm.mk1 (c':=ow [(.int .i64 (a1)),(.int .i64 (a2)),(.string ⟨(a3).b.toArray⟩),v1] (⟨a1,a2,a3,x1⟩:ey)) j1 h (λF1 _ o1=>show GT.own (α:=ey) _ _ _ _ from xS.2 ⟨[(.int .i64 (a1))],[(.int .i64 (a2)),(.string ⟨(a3).b.toArray⟩),v1],rfl,(λ_=>False),F1,(λ_ h=>h.elim),(λ_ h=>h),(λ_ h=>h.elim),Flat.own_iff.2 rfl,⟨[(.int .i64 (a2))],[(.string ⟨(a3).b.toArray⟩),v1],rfl,(λ_=>False),F1,(λ_ h=>h.elim),(λ_ h=>h),(λ_ h=>h.elim),Flat.own_iff.2 rfl,⟨[(.string ⟨(a3).b.toArray⟩)],[v1],rfl,(λ_=>False),F1,(λ_ h=>h.elim),(λ_ h=>h),(λ_ h=>h.elim),Flat.own_iff.2 rfl,o1⟩⟩⟩)
theorem lO {w0 w:World} {hz:fU} {L:List Ch} {v1 v2 v3:Value} {x1:List ey} {x2:List fB} {x3:List fB} (a1:Int) (a2:Str) (hm:Mem w0 hz w L) (j1 j2 j3:Nat) (h:(decide [j1,j2,j3].Nodup,L[j1]?,L[j2]?,L[j3]?)=(true,some (ow [v1] x1),some (ow [v2] x2),some (ow [v3] x3))):Mem w0 hz w ((((L.set j2 (both (ow [v2] x2) (ow [v3] x3))).set j3 ta).set j1 (ow [(.int .i64 (a1)),(.string ⟨(a2).b.toArray⟩),v1,v2,v3] (⟨a1,a2,x1,x2,x3⟩:fB))).set j2 ta) :=
 hm.mk3 (c':=ow [(.int .i64 (a1)),(.string ⟨(a2).b.toArray⟩),v1,v2,v3] (⟨a1,a2,x1,x2,x3⟩:fB)) j1 j2 j3 h (λF1 F2 F3 _ o1 o2 o3 d12 d13 d23=>show GT.own (α:=fB) _ _ _ _ from xT.2 ⟨[(.int .i64 (a1))],[(.string ⟨(a2).b.toArray⟩),v1,v2,v3],rfl,(λ_=>False),(λb=>F1 b∨F2 b∨F3 b),(λ_ h=>h.elim),(λ_ h=>h),(λ_ h=>h.elim),Flat.own_iff.2 rfl,⟨[(.string ⟨(a2).b.toArray⟩)],[v1,v2,v3],rfl,(λ_=>False),(λb=>F1 b∨F2 b∨F3 b),(λ_ h=>h.elim),(λ_ h=>h),(λ_ h=>h.elim),Flat.own_iff.2 rfl,⟨[v1],[v2,v3],rfl,F1,(λb=>F2 b∨F3 b),(λ_ h=>.inl h),(λ_ h=>.inr h),(λ_ h h1=>h1.elim (d12 _ h) (λh2=>d13 _ h h2)),o1,⟨[v2],[v3],rfl,F2,F3,(λ_ h=>.inl h),(λ_ h=>.inr h),(λ_ h h1=>d23 _ h h1),o2,o3⟩⟩⟩⟩)
theorem o0 {w0 w:World} {hz:fU} {L:List Ch} {v1 v2 v3:Value} (x:fB) (hm:Mem w0 hz w L) (j1 j2 j3:Nat) (h:(decide [j1,j2,j3].Nodup,L[j1]?,L[j2]?,L[j3]?)=(true,some (ow [v1] x.args),some (ow [v2] x.body),some (ow [v3] x.else_))):Mem w0 hz w ((((L.set j2 (both (ow [v2] x.body) (ow [v3] x.else_))).set j3 ta).set j1 (ow [(.int .i64 (x.op)),(.string ⟨(x.name).b.toArray⟩),v1,v2,v3] (x:fB))).set j2 ta) :=
 hm.mk3 (c':=ow [(.int .i64 (x.op)),(.string ⟨(x.name).b.toArray⟩),v1,v2,v3] (x:fB)) j1 j2 j3 h (λF1 F2 F3 _ o1 o2 o3 d12 d13 d23=>show GT.own (α:=fB) _ _ _ _ from xT.2 ⟨[(.int .i64 (x.op))],[(.string ⟨(x.name).b.toArray⟩),v1,v2,v3],rfl,(λ_=>False),(λb=>F1 b∨F2 b∨F3 b),(λ_ h=>h.elim),(λ_ h=>h),(λ_ h=>h.elim),Flat.own_iff.2 rfl,⟨[(.string ⟨(x.name).b.toArray⟩)],[v1,v2,v3],rfl,(λ_=>False),(λb=>F1 b∨F2 b∨F3 b),(λ_ h=>h.elim),(λ_ h=>h),(λ_ h=>h.elim),Flat.own_iff.2 rfl,⟨[v1],[v2,v3],rfl,F1,(λb=>F2 b∨F3 b),(λ_ h=>.inl h),(λ_ h=>.inr h),(λ_ h h1=>h1.elim (d12 _ h) (λh2=>d13 _ h h2)),o1,⟨[v2],[v3],rfl,F2,F3,(λ_ h=>.inl h),(λ_ h=>.inr h),(λ_ h h1=>d23 _ h h1),o2,o3⟩⟩⟩⟩)
theorem jE {h:fU} {b off len cap i:Nat} {xs:List ey} {x:ey} (hr:GT.rep h [.slice (some ⟨b,off,none⟩) len cap] xs) (hx:xs[i]?=some x):∃ v1:Value,iK h b (off+i*4) [(.int .i64 (x.op)),(.int .i64 (x.n_)),(.string ⟨(x.name).b.toArray⟩),v1]∧GT.rep h [v1] x.kids:=by
 obtain ⟨_,_,hc,hq⟩:=vd hr hx
 replace hq:=ai0.1 hq
 obtain ⟨_,_,rfl,rfl,_,_,rfl,rfl,_,_,rfl,rfl,h0_1⟩:=hq
 obtain ⟨v1,rfl,-⟩:=id h0_1
 exact ⟨v1,hc,h0_1⟩
theorem lJ {h:fU} {b off len cap i:Nat} {xs:List fB} {x:fB} (hr:GT.rep h [.slice (some ⟨b,off,none⟩) len cap] xs) (hx:xs[i]?=some x):∃ v1 v2 v3:Value,iK h b (off+i*5) [(.int .i64 (x.op)),(.string ⟨(x.name).b.toArray⟩),v1,v2,v3]∧GT.rep h [v1] x.args∧GT.rep h [v2] x.body∧GT.rep h [v3] x.else_:=by
 obtain ⟨_,_,hc,hq⟩:=vd hr hx
 replace hq:=ag9.1 hq
 obtain ⟨_,_,rfl,rfl,_,_,rfl,rfl,_,_,rfl,h0_1,_,_,rfl,h0_2,h0_3⟩:=hq
 obtain ⟨v1,rfl,-⟩:=id h0_1
 obtain ⟨v2,rfl,-⟩:=id h0_2
 obtain ⟨v3,rfl,-⟩:=id h0_3
 exact ⟨v1,v2,v3,hc,h0_1,h0_2,h0_3⟩
theorem nQ {w0 w:World} {hz:fU} {L:List Ch} {v1 v2:Value} {x1:List Str} {x2:List fB} (a1:Str) (hm:Mem w0 hz w L) (j1 j2:Nat) (h:(decide [j1,j2].Nodup,L[j1]?,L[j2]?)=(true,some (ow [v1] x1),some (ow [v2] x2))):Mem w0 hz w ((L.set j1 (ow [(.string ⟨(a1).b.toArray⟩),v1,v2] (⟨a1,x1,x2⟩:Fn_))).set j2 ta) :=
 hm.mk2 (c':=ow [(.string ⟨(a1).b.toArray⟩),v1,v2] (⟨a1,x1,x2⟩:Fn_)) j1 j2 h (λF1 F2 _ o1 o2 d12=>show GT.own (α:=Fn_) _ _ _ _ from ⟨[(.string ⟨(a1).b.toArray⟩)],[v1,v2],rfl,(λ_=>False),(λb=>F1 b∨F2 b),(λ_ h=>h.elim),(λ_ h=>h),(λ_ h=>h.elim),Flat.own_iff.2 rfl,⟨[v1],[v2],rfl,F1,F2,(λ_ h=>.inl h),(λ_ h=>.inr h),(λ_ h h1=>d12 _ h h1),o1,o2⟩⟩)
end Go.Wk
