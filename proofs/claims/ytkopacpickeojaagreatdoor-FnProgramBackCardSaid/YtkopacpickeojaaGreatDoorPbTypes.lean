/- A part of the proof of FnProgramBackCardSaid. -/
import Derived.Test.YtkopacpickeojaaGreatDoorWkAd
namespace Go.Wk
open Go
structure kR where
 b:List UInt8
 p:Int
 deriving DecidableEq,Inhabited
instance:GT kR:=GT.via (λm=>(m.b,m.p))
structure kK where
 op:Int
 n_:Int
 name:Str
 kids:List kK
 deriving Inhabited
abbrev bh5 (i:GT kK):GT (Int × Int × Str × (List kK)):=(@instGTProd Int (Int × Str × (List kK)) _ (@instGTProd Int (Str × (List kK)) _ (@instGTProd Str ((List kK)) _ (@instGTList kK i))))
theorem bj1:Ctn bh5:=(s6 (sQ _) (s6 (sQ _) (s6 (sQ _) (zw aq3))))
instance:GT kK:=GT.lim 4 (λx=>(x.op,x.n_,x.name,x.kids)) bh5 (λ_=>rfl)
theorem aw7 {h:kX} {cs:List Value} {x:kK}:GT.rep h cs x↔GT.rep h cs (x.op,x.n_,x.name,x.kids):=as8 bj1
theorem ad3 {F:Nat→Prop} {h:kX} {cs:List Value} {x:kK}:GT.own F h cs x↔GT.own F h cs (x.op,x.n_,x.name,x.kids):=av4 bj1
structure kN where
 op:Int
 name:Str
 args:List kK
 body:List kN
 else_:List kN
 deriving Inhabited
abbrev bk3 (i:GT kN):GT (Int × Str × (List kK) × (List kN) × (List kN)):=(@instGTProd Int (Str × (List kK) × (List kN) × (List kN)) _ (@instGTProd Str ((List kK) × (List kN) × (List kN)) _ (@instGTProd (List kK) ((List kN) × (List kN)) _ (@instGTProd (List kN) ((List kN)) (@instGTList kN i) (@instGTList kN i)))))
theorem bc1:Ctn bk3:=(s6 (sQ _) (s6 (sQ _) (s6 (sQ _) (s6 (zw aq3) (zw aq3)))))
instance:GT kN:=GT.lim 5 (λx=>(x.op,x.name,x.args,x.body,x.else_)) bk3 (λ_=>rfl)
theorem qC {h:kX} {cs:List Value} {x:kN}:GT.rep h cs x↔GT.rep h cs (x.op,x.name,x.args,x.body,x.else_):=as8 bc1
theorem ad0 {F:Nat→Prop} {h:kX} {cs:List Value} {x:kN}:GT.own F h cs x↔GT.own F h cs (x.op,x.name,x.args,x.body,x.else_):=av4 bc1
structure Fn_ where
 name:Str
 params:List Str
 body:List kN
 deriving Inhabited
instance:GT Fn_:=GT.via (λm=>(m.name,m.params,m.body))
structure lG where
 fns:List Fn_
 vars:List Str
 next_:Int
 left:Int
 deriving Inhabited
instance:GT lG:=GT.via (λm=>(m.fns,m.vars,m.next_,m.left))
structure kp where
 fns:List Fn_
 deriving Inhabited
instance:GT kp:=GT.via (λm=>(m.fns))
structure k9 where
 sign:Str
 level:Int
 deriving DecidableEq,Inhabited
instance:Flat k9:=Flat.mk' k9 2 (λm=>[(.string ⟨(m.sign).b.toArray⟩),(.int .i64 (m.level))]) (λ_=>rfl) (λx=>by simp [Value.oneCell'])
theorem bo7 {a b:Str} (h:(Value.string ⟨a.b.toArray⟩)=.string ⟨b.b.toArray⟩):a=b:=by simp at h;exact Str.ext' h
instance:MV k9:=⟨λm=>.agg #[(.string ⟨(m.sign).b.toArray⟩),(.int .i64 (m.level))],λ⟨a1,a2⟩ ⟨b1,b2⟩ h=>by
 injection h with h;injection h with h
 injection h with h1 h
 replace h1:=bo7 h1
 injection h with h2 h
 injection h2 with _ h2
 subst h1 h2;rfl⟩
structure kJ where
 kind:Int
 text:Str
 deriving DecidableEq,Inhabited
instance:Flat kJ:=Flat.mk' kJ 2 (λm=>[(.int .i64 (m.kind)),(.string ⟨(m.text).b.toArray⟩)]) (λ_=>rfl) (λx=>by simp [Value.oneCell'])
structure kM where
 list:List kJ
 bad:Bool
 deriving DecidableEq,Inhabited
instance:GT kM:=GT.via (λm=>(m.list,m.bad))
structure k8 where
 list:List kJ
 at_:Int
 deriving DecidableEq,Inhabited
instance:GT k8:=GT.via (λm=>(m.list,m.at_))
theorem ly {w0 w:World} {hz:kX} {L:List Ch} {v1:Value} (x:kK) (hm:Mem w0 hz w L) (j1:Nat) (h:L[j1]?=some (ow [v1] x.kids)):Mem w0 hz w (L.set j1 (ow [(.int .i64 (x.op)),(.int .i64 (x.n_)),(.string ⟨(x.name).b.toArray⟩),v1] (x:kK))) :=
 hm.mk1 (c':=ow [(.int .i64 (x.op)),(.int .i64 (x.n_)),(.string ⟨(x.name).b.toArray⟩),v1] (x:kK)) j1 h (λF1 _ o1=>show GT.own (α:=kK) _ _ _ _ from ad3.2 ⟨[(.int .i64 (x.op))],[(.int .i64 (x.n_)),(.string ⟨(x.name).b.toArray⟩),v1],rfl,(λ_=>False),F1,(λ_ h=>h.elim),(λ_ h=>h),(λ_ h=>h.elim),Flat.own_iff.2 rfl,⟨[(.int .i64 (x.n_))],[(.string ⟨(x.name).b.toArray⟩),v1],rfl,(λ_=>False),F1,(λ_ h=>h.elim),(λ_ h=>h),(λ_ h=>h.elim),Flat.own_iff.2 rfl,⟨[(.string ⟨(x.name).b.toArray⟩)],[v1],rfl,(λ_=>False),F1,(λ_ h=>h.elim),(λ_ h=>h),(λ_ h=>h.elim),Flat.own_iff.2 rfl,o1⟩⟩⟩)
theorem sH {h:kX} {b off len cap i:Nat} {xs:List Fn_} {x:Fn_} (hr:GT.rep h [.slice (some ⟨b,off,none⟩) len cap] xs) (hx:xs[i]?=some x):∃ v1 v2:Value,lq h b (off+i*3) [(.string ⟨(x.name).b.toArray⟩),v1,v2]∧GT.rep h [v1] x.params∧GT.rep h [v2] x.body:=by
 obtain ⟨_,_,hc,hq⟩:=yz hr hx
 obtain ⟨_,_,rfl,rfl,_,_,rfl,h0_1,h0_2⟩:=hq
 obtain ⟨v1,rfl,-⟩:=id h0_1
 obtain ⟨v2,rfl,-⟩:=id h0_2
 exact ⟨v1,v2,hc,h0_1,h0_2⟩
theorem oY {w0 w:World} {hz:kX} {L:List Ch} {v1:Value} {x1:List kK} (a1:Int) (a2:Int) (a3:Str) (hm:Mem w0 hz w L) (j1:Nat) (h:L[j1]?=some (ow [v1] x1)):Mem w0 hz w (L.set j1 (ow [(.int .i64 (a1)),(.int .i64 (a2)),(.string ⟨(a3).b.toArray⟩),v1] (⟨a1,a2,a3,x1⟩:kK))) :=
 hm.mk1 (c':=ow [(.int .i64 (a1)),(.int .i64 (a2)),(.string ⟨(a3).b.toArray⟩),v1] (⟨a1,a2,a3,x1⟩:kK)) j1 h (λF1 _ o1=>show GT.own (α:=kK) _ _ _ _ from ad3.2 ⟨[(.int .i64 (a1))],[(.int .i64 (a2)),(.string ⟨(a3).b.toArray⟩),v1],rfl,(λ_=>False),F1,(λ_ h=>h.elim),(λ_ h=>h),(λ_ h=>h.elim),Flat.own_iff.2 rfl,⟨[(.int .i64 (a2))],[(.string ⟨(a3).b.toArray⟩),v1],rfl,(λ_=>False),F1,(λ_ h=>h.elim),(λ_ h=>h),(λ_ h=>h.elim),Flat.own_iff.2 rfl,⟨[(.string ⟨(a3).b.toArray⟩)],[v1],rfl,(λ_=>False),F1,(λ_ h=>h.elim),(λ_ h=>h),(λ_ h=>h.elim),Flat.own_iff.2 rfl,o1⟩⟩⟩)
theorem oX {w0 w:World} {hz:kX} {L:List Ch} {v1 v2 v3:Value} {x1:List kK} {x2:List kN} {x3:List kN} (a1:Int) (a2:Str) (hm:Mem w0 hz w L) (j1 j2 j3:Nat) (h:(decide [j1,j2,j3].Nodup,L[j1]?,L[j2]?,L[j3]?)=(true,some (ow [v1] x1),some (ow [v2] x2),some (ow [v3] x3))):Mem w0 hz w ((((L.set j2 (both (ow [v2] x2) (ow [v3] x3))).set j3 xg).set j1 (ow [(.int .i64 (a1)),(.string ⟨(a2).b.toArray⟩),v1,v2,v3] (⟨a1,a2,x1,x2,x3⟩:kN))).set j2 xg) :=
 hm.mk3 (c':=ow [(.int .i64 (a1)),(.string ⟨(a2).b.toArray⟩),v1,v2,v3] (⟨a1,a2,x1,x2,x3⟩:kN)) j1 j2 j3 h (λF1 F2 F3 _ o1 o2 o3 d12 d13 d23=>show GT.own (α:=kN) _ _ _ _ from ad0.2 ⟨[(.int .i64 (a1))],[(.string ⟨(a2).b.toArray⟩),v1,v2,v3],rfl,(λ_=>False),(λb=>F1 b∨F2 b∨F3 b),(λ_ h=>h.elim),(λ_ h=>h),(λ_ h=>h.elim),Flat.own_iff.2 rfl,⟨[(.string ⟨(a2).b.toArray⟩)],[v1,v2,v3],rfl,(λ_=>False),(λb=>F1 b∨F2 b∨F3 b),(λ_ h=>h.elim),(λ_ h=>h),(λ_ h=>h.elim),Flat.own_iff.2 rfl,⟨[v1],[v2,v3],rfl,F1,(λb=>F2 b∨F3 b),(λ_ h=>.inl h),(λ_ h=>.inr h),(λ_ h h1=>h1.elim (d12 _ h) (λh2=>d13 _ h h2)),o1,⟨[v2],[v3],rfl,F2,F3,(λ_ h=>.inl h),(λ_ h=>.inr h),(λ_ h h1=>d23 _ h h1),o2,o3⟩⟩⟩⟩)
theorem ta {w0 w:World} {hz:kX} {L:List Ch} {v1 v2 v3:Value} (x:kN) (hm:Mem w0 hz w L) (j1 j2 j3:Nat) (h:(decide [j1,j2,j3].Nodup,L[j1]?,L[j2]?,L[j3]?)=(true,some (ow [v1] x.args),some (ow [v2] x.body),some (ow [v3] x.else_))):Mem w0 hz w ((((L.set j2 (both (ow [v2] x.body) (ow [v3] x.else_))).set j3 xg).set j1 (ow [(.int .i64 (x.op)),(.string ⟨(x.name).b.toArray⟩),v1,v2,v3] (x:kN))).set j2 xg) :=
 hm.mk3 (c':=ow [(.int .i64 (x.op)),(.string ⟨(x.name).b.toArray⟩),v1,v2,v3] (x:kN)) j1 j2 j3 h (λF1 F2 F3 _ o1 o2 o3 d12 d13 d23=>show GT.own (α:=kN) _ _ _ _ from ad0.2 ⟨[(.int .i64 (x.op))],[(.string ⟨(x.name).b.toArray⟩),v1,v2,v3],rfl,(λ_=>False),(λb=>F1 b∨F2 b∨F3 b),(λ_ h=>h.elim),(λ_ h=>h),(λ_ h=>h.elim),Flat.own_iff.2 rfl,⟨[(.string ⟨(x.name).b.toArray⟩)],[v1,v2,v3],rfl,(λ_=>False),(λb=>F1 b∨F2 b∨F3 b),(λ_ h=>h.elim),(λ_ h=>h),(λ_ h=>h.elim),Flat.own_iff.2 rfl,⟨[v1],[v2,v3],rfl,F1,(λb=>F2 b∨F3 b),(λ_ h=>.inl h),(λ_ h=>.inr h),(λ_ h h1=>h1.elim (d12 _ h) (λh2=>d13 _ h h2)),o1,⟨[v2],[v3],rfl,F2,F3,(λ_ h=>.inl h),(λ_ h=>.inr h),(λ_ h h1=>d23 _ h h1),o2,o3⟩⟩⟩⟩)
theorem n0 {h:kX} {b off len cap i:Nat} {xs:List kK} {x:kK} (hr:GT.rep h [.slice (some ⟨b,off,none⟩) len cap] xs) (hx:xs[i]?=some x):∃ v1:Value,lq h b (off+i*4) [(.int .i64 (x.op)),(.int .i64 (x.n_)),(.string ⟨(x.name).b.toArray⟩),v1]∧GT.rep h [v1] x.kids:=by
 obtain ⟨_,_,hc,hq⟩:=yz hr hx
 replace hq:=aw7.1 hq
 obtain ⟨_,_,rfl,rfl,_,_,rfl,rfl,_,_,rfl,rfl,h0_1⟩:=hq
 obtain ⟨v1,rfl,-⟩:=id h0_1
 exact ⟨v1,hc,h0_1⟩
theorem rv {h:kX} {b off len cap i:Nat} {xs:List kN} {x:kN} (hr:GT.rep h [.slice (some ⟨b,off,none⟩) len cap] xs) (hx:xs[i]?=some x):∃ v1 v2 v3:Value,lq h b (off+i*5) [(.int .i64 (x.op)),(.string ⟨(x.name).b.toArray⟩),v1,v2,v3]∧GT.rep h [v1] x.args∧GT.rep h [v2] x.body∧GT.rep h [v3] x.else_:=by
 obtain ⟨_,_,hc,hq⟩:=yz hr hx
 replace hq:=qC.1 hq
 obtain ⟨_,_,rfl,rfl,_,_,rfl,rfl,_,_,rfl,h0_1,_,_,rfl,h0_2,h0_3⟩:=hq
 obtain ⟨v1,rfl,-⟩:=id h0_1
 obtain ⟨v2,rfl,-⟩:=id h0_2
 obtain ⟨v3,rfl,-⟩:=id h0_3
 exact ⟨v1,v2,v3,hc,h0_1,h0_2,h0_3⟩
theorem rY {w0 w:World} {hz:kX} {L:List Ch} {v1 v2:Value} {x1:List Str} {x2:List kN} (a1:Str) (hm:Mem w0 hz w L) (j1 j2:Nat) (h:(decide [j1,j2].Nodup,L[j1]?,L[j2]?)=(true,some (ow [v1] x1),some (ow [v2] x2))):Mem w0 hz w ((L.set j1 (ow [(.string ⟨(a1).b.toArray⟩),v1,v2] (⟨a1,x1,x2⟩:Fn_))).set j2 xg) :=
 hm.mk2 (c':=ow [(.string ⟨(a1).b.toArray⟩),v1,v2] (⟨a1,x1,x2⟩:Fn_)) j1 j2 h (λF1 F2 _ o1 o2 d12=>show GT.own (α:=Fn_) _ _ _ _ from ⟨[(.string ⟨(a1).b.toArray⟩)],[v1,v2],rfl,(λ_=>False),(λb=>F1 b∨F2 b),(λ_ h=>h.elim),(λ_ h=>h),(λ_ h=>h.elim),Flat.own_iff.2 rfl,⟨[v1],[v2],rfl,F1,F2,(λ_ h=>.inl h),(λ_ h=>.inr h),(λ_ h h1=>d12 _ h h1),o1,o2⟩⟩)
end Go.Wk
