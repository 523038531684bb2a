/- A part of the proof of FnReadTextCardSaid. -/
import Derived.Test.YtdmoolhjchoifaaGreatDoorWkAd
namespace Go.Wk
open Go
structure fF where
 b:List UInt8
 p:Int
 deriving DecidableEq,Inhabited
instance:GT fF:=GT.via (λm=>(m.b,m.p))
structure eu where
 op:Int
 n_:Int
 name:Str
 kids:List eu
 deriving Inhabited
abbrev ao4 (i:GT eu):GT (Int × Int × Str × (List eu)):=(@instGTProd Int (Int × Str × (List eu)) _ (@instGTProd Int (Str × (List eu)) _ (@instGTProd Str ((List eu)) _ (@instGTList eu i))))
theorem am2:Ctn ao4:=(om (oT _) (om (oT _) (om (oT _) (wL aa5))))
instance:GT eu:=GT.lim 4 (λx=>(x.op,x.n_,x.name,x.kids)) ao4 (λ_=>rfl)
theorem ag5 {h:fU} {cs:List Value} {x:eu}:GT.rep h cs x↔GT.rep h cs (x.op,x.n_,x.name,x.kids):=ac7 am2
theorem xI {F:Nat→Prop} {h:fU} {cs:List Value} {x:eu}:GT.own F h cs x↔GT.own F h cs (x.op,x.n_,x.name,x.kids):=ac0 am2
structure fA where
 op:Int
 name:Str
 args:List eu
 body:List fA
 else_:List fA
 deriving Inhabited
abbrev am4 (i:GT fA):GT (Int × Str × (List eu) × (List fA) × (List fA)):=(@instGTProd Int (Str × (List eu) × (List fA) × (List fA)) _ (@instGTProd Str ((List eu) × (List fA) × (List fA)) _ (@instGTProd (List eu) ((List fA) × (List fA)) _ (@instGTProd (List fA) ((List fA)) (@instGTList fA i) (@instGTList fA i)))))
theorem ar2:Ctn am4:=(om (oT _) (om (oT _) (om (oT _) (om (wL aa5) (wL aa5)))))
instance:GT fA:=GT.lim 5 (λx=>(x.op,x.name,x.args,x.body,x.else_)) am4 (λ_=>rfl)
theorem ah9 {h:fU} {cs:List Value} {x:fA}:GT.rep h cs x↔GT.rep h cs (x.op,x.name,x.args,x.body,x.else_):=ac7 ar2
theorem xY {F:Nat→Prop} {h:fU} {cs:List Value} {x:fA}:GT.own F h cs x↔GT.own F h cs (x.op,x.name,x.args,x.body,x.else_):=ac0 ar2
structure Fn_ where
 name:Str
 params:List Str
 body:List fA
 deriving Inhabited
instance:GT Fn_:=GT.via (λm=>(m.name,m.params,m.body))
structure fp where
 fns:List Fn_
 vars:List Str
 next_:Int
 left:Int
 deriving Inhabited
instance:GT fp:=GT.via (λm=>(m.fns,m.vars,m.next_,m.left))
structure fh where
 fns:List Fn_
 deriving Inhabited
instance:GT fh:=GT.via (λm=>(m.fns))
structure ep where
 kind:Int
 text:Str
 deriving DecidableEq,Inhabited
instance:Flat ep:=Flat.mk' ep 2 (λm=>[(.int .i64 (m.kind)),(.string ⟨(m.text).b.toArray⟩)]) (λ_=>rfl) (λx=>by simp [Value.oneCell'])
structure ey where
 list:List ep
 bad:Bool
 deriving DecidableEq,Inhabited
instance:GT ey:=GT.via (λm=>(m.list,m.bad))
structure fN where
 sign:Str
 level:Int
 deriving DecidableEq,Inhabited
instance:Flat fN:=Flat.mk' fN 2 (λm=>[(.string ⟨(m.sign).b.toArray⟩),(.int .i64 (m.level))]) (λ_=>rfl) (λx=>by simp [Value.oneCell'])
theorem ay2 {a b:Str} (h:(Value.string ⟨a.b.toArray⟩)=.string ⟨b.b.toArray⟩):a=b:=by simp at h;exact Str.ext' h
instance:MV fN:=⟨λm=>.agg #[(.string ⟨(m.sign).b.toArray⟩),(.int .i64 (m.level))],λ⟨a1,a2⟩ ⟨b1,b2⟩ h=>by
 injection h with h;injection h with h
 injection h with h1 h
 replace h1:=ay2 h1
 injection h with h2 h
 injection h2 with _ h2
 subst h1 h2;rfl⟩
structure fD where
 list:List ep
 at_:Int
 deriving DecidableEq,Inhabited
instance:GT fD:=GT.via (λm=>(m.list,m.at_))
theorem iI {w0 w:World} {hz:fU} {L:List Ch} {v1:Value} (x:eu) (hm:Mem w0 hz w L) (j1:Nat) (h:L[j1]?=some (ow [v1] x.kids)):Mem w0 hz w (L.set j1 (ow [(.int .i64 (x.op)),(.int .i64 (x.n_)),(.string ⟨(x.name).b.toArray⟩),v1] (x:eu))) :=
 hm.mk1 (c':=ow [(.int .i64 (x.op)),(.int .i64 (x.n_)),(.string ⟨(x.name).b.toArray⟩),v1] (x:eu)) j1 h (λF1 _ o1=>show GT.own (α:=eu) _ _ _ _ from xI.2 ⟨[(.int .i64 (x.op))],[(.int .i64 (x.n_)),(.string ⟨(x.name).b.toArray⟩),v1],rfl,(λ_=>False),F1,(λ_ h=>h.elim),(λ_ h=>h),(λ_ h=>h.elim),Flat.own_iff.2 rfl,⟨[(.int .i64 (x.n_))],[(.string ⟨(x.name).b.toArray⟩),v1],rfl,(λ_=>False),F1,(λ_ h=>h.elim),(λ_ h=>h),(λ_ h=>h.elim),Flat.own_iff.2 rfl,⟨[(.string ⟨(x.name).b.toArray⟩)],[v1],rfl,(λ_=>False),F1,(λ_ h=>h.elim),(λ_ h=>h),(λ_ h=>h.elim),Flat.own_iff.2 rfl,o1⟩⟩⟩)
theorem oK {h:fU} {b off len cap i:Nat} {xs:List Fn_} {x:Fn_} (hr:GT.rep h [.slice (some ⟨b,off,none⟩) len cap] xs) (hx:xs[i]?=some x):∃ v1 v2:Value,iG h b (off+i*3) [(.string ⟨(x.name).b.toArray⟩),v1,v2]∧GT.rep h [v1] x.params∧GT.rep h [v2] x.body:=by
 obtain ⟨_,_,hc,hq⟩:=v8 hr hx
 obtain ⟨_,_,rfl,rfl,_,_,rfl,h0_1,h0_2⟩:=hq
 obtain ⟨v1,rfl,-⟩:=id h0_1
 obtain ⟨v2,rfl,-⟩:=id h0_2
 exact ⟨v1,v2,hc,h0_1,h0_2⟩
theorem lB {w0 w:World} {hz:fU} {L:List Ch} {v1:Value} {x1:List eu} (a1:Int) (a2:Int) (a3:Str) (hm:Mem w0 hz w L) (j1:Nat) (h:L[j1]?=some (ow [v1] x1)):Mem w0 hz w (L.set j1 (ow [(.int .i64 (a1)),(.int .i64 (a2)),(.string ⟨(a3).b.toArray⟩),v1] (⟨a1,a2,a3,x1⟩:eu))) :=
 hm.mk1 (c':=ow [(.int .i64 (a1)),(.int .i64 (a2)),(.string ⟨(a3).b.toArray⟩),v1] (⟨a1,a2,a3,x1⟩:eu)) j1 h (λF1 _ o1=>show GT.own (α:=eu) _ _ _ _ from xI.2 ⟨[(.int .i64 (a1))],[(.int .i64 (a2)),(.string ⟨(a3).b.toArray⟩),v1],rfl,(λ_=>False),F1,(λ_ h=>h.elim),(λ_ h=>h),(λ_ h=>h.elim),Flat.own_iff.2 rfl,⟨[(.int .i64 (a2))],[(.string ⟨(a3).b.toArray⟩),v1],rfl,(λ_=>False),F1,(λ_ h=>h.elim),(λ_ h=>h),(λ_ h=>h.elim),Flat.own_iff.2 rfl,⟨[(.string ⟨(a3).b.toArray⟩)],[v1],rfl,(λ_=>False),F1,(λ_ h=>h.elim),(λ_ h=>h),(λ_ h=>h.elim),Flat.own_iff.2 rfl,o1⟩⟩⟩)
theorem lP {w0 w:World} {hz:fU} {L:List Ch} {v1 v2 v3:Value} {x1:List eu} {x2:List fA} {x3:List fA} (a1:Int) (a2:Str) (hm:Mem w0 hz w L) (j1 j2 j3:Nat) (h:(decide [j1,j2,j3].Nodup,L[j1]?,L[j2]?,L[j3]?)=(true,some (ow [v1] x1),some (ow [v2] x2),some (ow [v3] x3))):Mem w0 hz w ((((L.set j2 (both (ow [v2] x2) (ow [v3] x3))).set j3 sl).set j1 (ow [(.int .i64 (a1)),(.string ⟨(a2).b.toArray⟩),v1,v2,v3] (⟨a1,a2,x1,x2,x3⟩:fA))).set j2 sl) :=
 hm.mk3 (c':=ow [(.int .i64 (a1)),(.string ⟨(a2).b.toArray⟩),v1,v2,v3] (⟨a1,a2,x1,x2,x3⟩:fA)) j1 j2 j3 h (λF1 F2 F3 _ o1 o2 o3 d12 d13 d23=>show GT.own (α:=fA) _ _ _ _ from xY.2 ⟨[(.int .i64 (a1))],[(.string ⟨(a2).b.toArray⟩),v1,v2,v3],rfl,(λ_=>False),(λb=>F1 b∨F2 b∨F3 b),(λ_ h=>h.elim),(λ_ h=>h),(λ_ h=>h.elim),Flat.own_iff.2 rfl,⟨[(.string ⟨(a2).b.toArray⟩)],[v1,v2,v3],rfl,(λ_=>False),(λb=>F1 b∨F2 b∨F3 b),(λ_ h=>h.elim),(λ_ h=>h),(λ_ h=>h.elim),Flat.own_iff.2 rfl,⟨[v1],[v2,v3],rfl,F1,(λb=>F2 b∨F3 b),(λ_ h=>.inl h),(λ_ h=>.inr h),(λ_ h h1=>h1.elim (d12 _ h) (λh2=>d13 _ h h2)),o1,⟨[v2],[v3],rfl,F2,F3,(λ_ h=>.inl h),(λ_ h=>.inr h),(λ_ h h1=>d23 _ h h1),o2,o3⟩⟩⟩⟩)
theorem oX {w0 w:World} {hz:fU} {L:List Ch} {v1 v2 v3:Value} (x:fA) (hm:Mem w0 hz w L) (j1 j2 j3:Nat) (h:(decide [j1,j2,j3].Nodup,L[j1]?,L[j2]?,L[j3]?)=(true,some (ow [v1] x.args),some (ow [v2] x.body),some (ow [v3] x.else_))):Mem w0 hz w ((((L.set j2 (both (ow [v2] x.body) (ow [v3] x.else_))).set j3 sl).set j1 (ow [(.int .i64 (x.op)),(.string ⟨(x.name).b.toArray⟩),v1,v2,v3] (x:fA))).set j2 sl) :=
 hm.mk3 (c':=ow [(.int .i64 (x.op)),(.string ⟨(x.name).b.toArray⟩),v1,v2,v3] (x:fA)) j1 j2 j3 h (λF1 F2 F3 _ o1 o2 o3 d12 d13 d23=>show GT.own (α:=fA) _ _ _ _ from xY.2 ⟨[(.int .i64 (x.op))],[(.string ⟨(x.name).b.toArray⟩),v1,v2,v3],rfl,(λ_=>False),(λb=>F1 b∨F2 b∨F3 b),(λ_ h=>h.elim),(λ_ h=>h),(λ_ h=>h.elim),Flat.own_iff.2 rfl,⟨[(.string ⟨(x.name).b.toArray⟩)],[v1,v2,v3],rfl,(λ_=>False),(λb=>F1 b∨F2 b∨F3 b),(λ_ h=>h.elim),(λ_ h=>h),(λ_ h=>h.elim),Flat.own_iff.2 rfl,⟨[v1],[v2,v3],rfl,F1,(λb=>F2 b∨F3 b),(λ_ h=>.inl h),(λ_ h=>.inr h),(λ_ h h1=>h1.elim (d12 _ h) (λh2=>d13 _ h h2)),o1,⟨[v2],[v3],rfl,F2,F3,(λ_ h=>.inl h),(λ_ h=>.inr h),(λ_ h h1=>d23 _ h h1),o2,o3⟩⟩⟩⟩)
theorem jD {h:fU} {b off len cap i:Nat} {xs:List eu} {x:eu} (hr:GT.rep h [.slice (some ⟨b,off,none⟩) len cap] xs) (hx:xs[i]?=some x):∃ v1:Value,iG h b (off+i*4) [(.int .i64 (x.op)),(.int .i64 (x.n_)),(.string ⟨(x.name).b.toArray⟩),v1]∧GT.rep h [v1] x.kids:=by
 obtain ⟨_,_,hc,hq⟩:=v8 hr hx
 replace hq:=ag5.1 hq
 obtain ⟨_,_,rfl,rfl,_,_,rfl,rfl,_,_,rfl,rfl,h0_1⟩:=hq
 obtain ⟨v1,rfl,-⟩:=id h0_1
 exact ⟨v1,hc,h0_1⟩
theorem lE {h:fU} {b off len cap i:Nat} {xs:List fA} {x:fA} (hr:GT.rep h [.slice (some ⟨b,off,none⟩) len cap] xs) (hx:xs[i]?=some x):∃ v1 v2 v3:Value,iG h b (off+i*5) [(.int .i64 (x.op)),(.string ⟨(x.name).b.toArray⟩),v1,v2,v3]∧GT.rep h [v1] x.args∧GT.rep h [v2] x.body∧GT.rep h [v3] x.else_:=by
 obtain ⟨_,_,hc,hq⟩:=v8 hr hx
 replace hq:=ah9.1 hq
 obtain ⟨_,_,rfl,rfl,_,_,rfl,rfl,_,_,rfl,h0_1,_,_,rfl,h0_2,h0_3⟩:=hq
 obtain ⟨v1,rfl,-⟩:=id h0_1
 obtain ⟨v2,rfl,-⟩:=id h0_2
 obtain ⟨v3,rfl,-⟩:=id h0_3
 exact ⟨v1,v2,v3,hc,h0_1,h0_2,h0_3⟩
theorem nO {w0 w:World} {hz:fU} {L:List Ch} {v1 v2:Value} {x1:List Str} {x2:List fA} (a1:Str) (hm:Mem w0 hz w L) (j1 j2:Nat) (h:(decide [j1,j2].Nodup,L[j1]?,L[j2]?)=(true,some (ow [v1] x1),some (ow [v2] x2))):Mem w0 hz w ((L.set j1 (ow [(.string ⟨(a1).b.toArray⟩),v1,v2] (⟨a1,x1,x2⟩:Fn_))).set j2 sl) :=
 hm.mk2 (c':=ow [(.string ⟨(a1).b.toArray⟩),v1,v2] (⟨a1,x1,x2⟩:Fn_)) j1 j2 h (λF1 F2 _ o1 o2 d12=>show GT.own (α:=Fn_) _ _ _ _ from ⟨[(.string ⟨(a1).b.toArray⟩)],[v1,v2],rfl,(λ_=>False),(λb=>F1 b∨F2 b),(λ_ h=>h.elim),(λ_ h=>h),(λ_ h=>h.elim),Flat.own_iff.2 rfl,⟨[v1],[v2],rfl,F1,F2,(λ_ h=>.inl h),(λ_ h=>.inr h),(λ_ h h1=>d12 _ h h1),o1,o2⟩⟩)
end Go.Wk
