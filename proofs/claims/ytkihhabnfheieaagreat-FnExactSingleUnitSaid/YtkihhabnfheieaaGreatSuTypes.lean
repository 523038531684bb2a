/- A part of the proof of FnExactSingleUnitSaid. -/
import Derived.Test.YtkihhabnfheieaaGreatWkAd
namespace Go.Wk
open Go
structure kA where
 to:Int
 A:List Int
 deriving DecidableEq,Inhabited
instance:GT kA:=GT.via (λm=>(m.to,m.A))
structure kD where
 op:Int
 to:Int
 A:List Int
 N:Int
 deriving DecidableEq,Inhabited
instance:GT kD:=GT.via (λm=>(m.op,m.to,m.A,m.N))
structure jq where
 a:List kA
 i:List kD
 j:Int
 on:Int
 n:List Int
 deriving DecidableEq,Inhabited
instance:GT jq:=GT.via (λm=>(m.a,m.i,m.j,m.on,m.n))
structure jv where
 P:Int
 r:Int
 b:List jq
 deriving DecidableEq,Inhabited
instance:GT jv:=GT.via (λm=>(m.P,m.r,m.b))
structure kU where
 C:List jv
 deriving DecidableEq,Inhabited
instance:GT kU:=GT.via (λm=>(m.C))
structure n4 where
 i:List (List Bool)
 k:List (List Bool)
 deriving DecidableEq,Inhabited
instance:GT n4:=GT.via (λm=>(m.i,m.k))
structure l9 where
 O:jv
 f:jv
 h:List Int
 n:Int
 deriving DecidableEq,Inhabited
instance:GT l9:=GT.via (λm=>(m.O,m.f,m.h,m.n))
structure yy where
 c:jv
 i:List (jw Bool)
 g:List (List Int)
 deriving DecidableEq,Inhabited
instance:GT yy:=GT.via (λm=>(m.c,m.i,m.g))
structure ld where
 c:jv
 o:List (List Bool)
 I:List Bool
 deriving DecidableEq,Inhabited
instance:GT ld:=GT.via (λm=>(m.c,m.o,m.I))
structure kf where
 block:Int
 i:Int
 deriving DecidableEq,Inhabited
instance:Flat kf:=Flat.mk' kf 2 (λm=>[(.int .i64 (m.block)),(.int .i64 (m.i))]) (λ_=>rfl) (λx=>by simp [Value.oneCell'])
theorem mP {h:kR} {b off len cap i:Nat} {xs:List kA} {x:kA} (hr:GT.rep h [.slice (some ⟨b,off,none⟩) len cap] xs) (hx:xs[i]?=some x):∃ v1:Value,kS h b (off+i*2) [(.int .i64 (x.to)),v1]/\GT.rep h [v1] x.A:=by
 obtain ⟨_,_,hc,hq⟩:=kn hr hx
 obtain ⟨_,_,rfl,rfl,h0_1⟩:=hq
 obtain ⟨v1,rfl,-⟩:=id h0_1
 exact ⟨v1,hc,h0_1⟩
theorem nO {h:kR} {b off len cap i:Nat} {xs:List kD} {x:kD} (hr:GT.rep h [.slice (some ⟨b,off,none⟩) len cap] xs) (hx:xs[i]?=some x):∃ v1:Value,kS h b (off+i*4) [(.int .i64 (x.op)),(.int .i64 (x.to)),v1,(.int .i64 (x.N))]/\GT.rep h [v1] x.A:=by
 obtain ⟨_,_,hc,hq⟩:=kn hr hx
 obtain ⟨_,_,rfl,rfl,_,_,rfl,rfl,_,_,rfl,h0_1,rfl⟩:=hq
 obtain ⟨v1,rfl,-⟩:=id h0_1
 exact ⟨v1,hc,h0_1⟩
theorem k4 {h:kR} {b off len cap i:Nat} {xs:List jq} {x:jq} (hr:GT.rep h [.slice (some ⟨b,off,none⟩) len cap] xs) (hx:xs[i]?=some x):∃ v1 v2 v3:Value,kS h b (off+i*5) [v1,v2,(.int .i64 (x.j)),(.int .i64 (x.on)),v3]/\GT.rep h [v1] x.a/\GT.rep h [v2] x.i/\GT.rep h [v3] x.n:=by
 obtain ⟨_,_,hc,hq⟩:=kn hr hx
 obtain ⟨_,_,rfl,h0_1,_,_,rfl,h0_2,_,_,rfl,rfl,_,_,rfl,rfl,h0_3⟩:=hq
 obtain ⟨v1,rfl,-⟩:=id h0_1
 obtain ⟨v2,rfl,-⟩:=id h0_2
 obtain ⟨v3,rfl,-⟩:=id h0_3
 exact ⟨v1,v2,v3,hc,h0_1,h0_2,h0_3⟩
theorem nQ {h:kR} {b off len cap i:Nat} {xs:List jv} {x:jv} (hr:GT.rep h [.slice (some ⟨b,off,none⟩) len cap] xs) (hx:xs[i]?=some x):∃ v1:Value,kS h b (off+i*3) [(.int .i64 (x.P)),(.int .i64 (x.r)),v1]/\GT.rep h [v1] x.b:=by
 obtain ⟨_,_,hc,hq⟩:=kn hr hx
 obtain ⟨_,_,rfl,rfl,_,_,rfl,rfl,h0_1⟩:=hq
 obtain ⟨v1,rfl,-⟩:=id h0_1
 exact ⟨v1,hc,h0_1⟩
theorem n8 {w0 w:World} {hz:kR} {L:List Ch} {v1:Value} {x1:List Int} (a1:Int) (hm:Mem w0 hz w L) (j1:Nat) (h:L[j1]?=some (ow [v1] x1)):Mem w0 hz w (L.set j1 (ow [(.int .i64 (a1)),v1] (⟨a1,x1⟩:kA))) :=
 hm.mk1 (c':=ow [(.int .i64 (a1)),v1] (⟨a1,x1⟩:kA)) j1 h (λF1 _ o1=>show GT.own (α:=kA) _ _ _ _ from ⟨[(.int .i64 (a1))],[v1],rfl,(λ_=>False),F1,(λ_ h=>h.elim),(λ_ h=>h),(λ_ h=>h.elim),Flat.own_iff.2 rfl,o1⟩)
theorem tX {w0 w:World} {hz:kR} {L:List Ch} {v1:Value} {x1:List Int} (a1:Int) (a2:Int) (a3:Int) (hm:Mem w0 hz w L) (j1:Nat) (h:L[j1]?=some (ow [v1] x1)):Mem w0 hz w (L.set j1 (ow [(.int .i64 (a1)),(.int .i64 (a2)),v1,(.int .i64 (a3))] (⟨a1,a2,x1,a3⟩:kD))) :=
 hm.mk1 (c':=ow [(.int .i64 (a1)),(.int .i64 (a2)),v1,(.int .i64 (a3))] (⟨a1,a2,x1,a3⟩:kD)) j1 h (λF1 _ o1=>show GT.own (α:=kD) _ _ _ _ from ⟨[(.int .i64 (a1))],[(.int .i64 (a2)),v1,(.int .i64 (a3))],rfl,(λ_=>False),F1,(λ_ h=>h.elim),(λ_ h=>h),(λ_ h=>h.elim),Flat.own_iff.2 rfl,⟨[(.int .i64 (a2))],[v1,(.int .i64 (a3))],rfl,(λ_=>False),F1,(λ_ h=>h.elim),(λ_ h=>h),(λ_ h=>h.elim),Flat.own_iff.2 rfl,⟨[v1],[(.int .i64 (a3))],rfl,F1,(λ_=>False),(λ_ h=>h),(λ_ h=>h.elim),(λ_ _ h=>h.elim),o1,Flat.own_iff.2 rfl⟩⟩⟩)
theorem k9 {w0 w:World} {hz:kR} {L:List Ch} {v1 v2 v3:Value} {x1:List kA} {x2:List kD} {x3:List Int} (a1:Int) (a2:Int) (hm:Mem w0 hz w L) (j1 j2 j3:Nat) (h:(decide [j1,j2,j3].Nodup,L[j1]?,L[j2]?,L[j3]?)=(true,some (ow [v1] x1),some (ow [v2] x2),some (ow [v3] x3))):Mem w0 hz w ((((L.set j2 (both (ow [v2] x2) (ow [v3] x3))).set j3 bg6).set j1 (ow [v1,v2,(.int .i64 (a1)),(.int .i64 (a2)),v3] (⟨x1,x2,a1,a2,x3⟩:jq))).set j2 bg6) :=
 hm.mk3 (c':=ow [v1,v2,(.int .i64 (a1)),(.int .i64 (a2)),v3] (⟨x1,x2,a1,a2,x3⟩:jq)) j1 j2 j3 h (λF1 F2 F3 _ o1 o2 o3 d12 d13 d23=>show GT.own (α:=jq) _ _ _ _ from ⟨[v1],[v2,(.int .i64 (a1)),(.int .i64 (a2)),v3],rfl,F1,(λb=>F2 b\/F3 b),(λ_ h=>.inl h),(λ_ h=>.inr h),(λ_ h h1=>h1.elim (d12 _ h) (λh2=>d13 _ h h2)),o1,⟨[v2],[(.int .i64 (a1)),(.int .i64 (a2)),v3],rfl,F2,F3,(λ_ h=>.inl h),(λ_ h=>.inr h),(λ_ h h1=>d23 _ h h1),o2,⟨[(.int .i64 (a1))],[(.int .i64 (a2)),v3],rfl,(λ_=>False),F3,(λ_ h=>h.elim),(λ_ h=>h),(λ_ h=>h.elim),Flat.own_iff.2 rfl,⟨[(.int .i64 (a2))],[v3],rfl,(λ_=>False),F3,(λ_ h=>h.elim),(λ_ h=>h),(λ_ h=>h.elim),Flat.own_iff.2 rfl,o3⟩⟩⟩⟩)
theorem ak0 {w0 w:World} {hz:kR} {L:List Ch} {v1:Value} {x1:List jq} (a1:Int) (a2:Int) (hm:Mem w0 hz w L) (j1:Nat) (h:L[j1]?=some (ow [v1] x1)):Mem w0 hz w (L.set j1 (ow [(.int .i64 (a1)),(.int .i64 (a2)),v1] (⟨a1,a2,x1⟩:jv))) :=
 hm.mk1 (c':=ow [(.int .i64 (a1)),(.int .i64 (a2)),v1] (⟨a1,a2,x1⟩:jv)) j1 h (λF1 _ o1=>show GT.own (α:=jv) _ _ _ _ from ⟨[(.int .i64 (a1))],[(.int .i64 (a2)),v1],rfl,(λ_=>False),F1,(λ_ h=>h.elim),(λ_ h=>h),(λ_ h=>h.elim),Flat.own_iff.2 rfl,⟨[(.int .i64 (a2))],[v1],rfl,(λ_=>False),F1,(λ_ h=>h.elim),(λ_ h=>h),(λ_ h=>h.elim),Flat.own_iff.2 rfl,o1⟩⟩)
theorem lH {w0 w:World} {hz:kR} {L:List Ch} {b off len cap i:Nat} {xs:List jq} {x:jq} (hm:Mem w0 hz w L) (k:Nat) (hk:L[k]?=some (ow [.slice (some ⟨b,off,none⟩) len cap] xs)) (hx:xs[i]?=some x):∃ v1 v2 v3:Value,Mem w0 hz w (ow [v3] x.n::ow [v2] x.i::ow [v1] x.a::L.set k (kY b off len cap xs i [v1,v2,(.int .i64 (x.j)),(.int .i64 (x.on)),v3])):=by
 obtain ⟨_,_,hm⟩:=hm.openE k hk hx
 have hr:=hm.ow_rep 0 rfl
 obtain ⟨_,_,rfl,h0_1,_,_,rfl,h0_2,_,_,rfl,rfl,_,_,rfl,rfl,h0_3⟩:=hr
 obtain ⟨v1,rfl,-⟩:=id h0_1
 obtain ⟨v2,rfl,-⟩:=id h0_2
 obtain ⟨v3,rfl,-⟩:=id h0_3
 replace hm:Mem w0 hz w (ow [v1,v2,(.int .i64 (x.j)),(.int .i64 (x.on)),v3] (x:jq)::_):=hm
 replace hm:=hm.imp (c':=ow ([v1]++[v2,(.int .i64 (x.j)),(.int .i64 (x.on)),v3]) ((x.a,(x.i,x.j,x.on,x.n)):(List kA) × (List kD) × Int × Int × (List Int))) 0 rfl (λF h0=>h0)
 replace hm:=Mem.unpair (α:=List kA) (β:=(List kD) × Int × Int × (List Int)) (c:=[v1]) (d:=[v2,(.int .i64 (x.j)),(.int .i64 (x.on)),v3]) (x:=x.a) (y:=(x.i,x.j,x.on,x.n)) hm 0 rfl rfl
 replace hm:=hm.imp (c':=ow ([v2]++[(.int .i64 (x.j)),(.int .i64 (x.on)),v3]) ((x.i,(x.j,x.on,x.n)):(List kD) × Int × Int × (List Int))) 0 rfl (λF h0=>h0)
 replace hm:=Mem.unpair (α:=List kD) (β:=Int × Int × (List Int)) (c:=[v2]) (d:=[(.int .i64 (x.j)),(.int .i64 (x.on)),v3]) (x:=x.i) (y:=(x.j,x.on,x.n)) hm 0 rfl rfl
 replace hm:=hm.imp (c':=ow ([(.int .i64 (x.j))]++[(.int .i64 (x.on)),v3]) ((x.j,(x.on,x.n)):Int × Int × (List Int))) 0 rfl (λF h0=>h0)
 replace hm:=Mem.unpair (α:=Int) (β:=Int × (List Int)) (c:=[(.int .i64 (x.j))]) (d:=[(.int .i64 (x.on)),v3]) (x:=x.j) (y:=(x.on,x.n)) hm 0 rfl rfl
 replace hm:=hm.imp (c':=ow ([(.int .i64 (x.on))]++[v3]) ((x.on,x.n):Int × (List Int))) 0 rfl (λF h0=>h0)
 replace hm:=Mem.unpair (α:=Int) (β:=(List Int)) (c:=[(.int .i64 (x.on))]) (d:=[v3]) (x:=x.on) (y:=x.n) hm 0 rfl rfl
 replace hm:=hm.er 1
 replace hm:=hm.er 1
 exact ⟨v1,v2,v3,hm⟩
theorem oS {w0 w:World} {hz:kR} {L:List Ch} {b off len cap i:Nat} {xs:List kA} {x:kA} (hm:Mem w0 hz w L) (k:Nat) (hk:L[k]?=some (ow [.slice (some ⟨b,off,none⟩) len cap] xs)) (hx:xs[i]?=some x):∃ v1:Value,Mem w0 hz w (ow [v1] x.A::L.set k (kY b off len cap xs i [(.int .i64 (x.to)),v1])):=by
 obtain ⟨_,_,hm⟩:=hm.openE k hk hx
 have hr:=hm.ow_rep 0 rfl
 obtain ⟨_,_,rfl,rfl,h0_1⟩:=hr
 obtain ⟨v1,rfl,-⟩:=id h0_1
 replace hm:Mem w0 hz w (ow [(.int .i64 (x.to)),v1] (x:kA)::_):=hm
 replace hm:=hm.imp (c':=ow ([(.int .i64 (x.to))]++[v1]) ((x.to,x.A):Int × (List Int))) 0 rfl (λF h0=>h0)
 replace hm:=Mem.unpair (α:=Int) (β:=(List Int)) (c:=[(.int .i64 (x.to))]) (d:=[v1]) (x:=x.to) (y:=x.A) hm 0 rfl rfl
 replace hm:=hm.er 1
 exact ⟨v1,hm⟩
theorem ao9 {w0 w:World} {hz:kR} {L:List Ch} {b off len cap i:Nat} {xs:List kD} {x:kD} (hm:Mem w0 hz w L) (k:Nat) (hk:L[k]?=some (ow [.slice (some ⟨b,off,none⟩) len cap] xs)) (hx:xs[i]?=some x):∃ v1:Value,Mem w0 hz w (ow [v1] x.A::L.set k (kY b off len cap xs i [(.int .i64 (x.op)),(.int .i64 (x.to)),v1,(.int .i64 (x.N))])):=by
 obtain ⟨_,_,hm⟩:=hm.openE k hk hx
 have hr:=hm.ow_rep 0 rfl
 obtain ⟨_,_,rfl,rfl,_,_,rfl,rfl,_,_,rfl,h0_1,rfl⟩:=hr
 obtain ⟨v1,rfl,-⟩:=id h0_1
 replace hm:Mem w0 hz w (ow [(.int .i64 (x.op)),(.int .i64 (x.to)),v1,(.int .i64 (x.N))] (x:kD)::_):=hm
 replace hm:=hm.imp (c':=ow ([(.int .i64 (x.op))]++[(.int .i64 (x.to)),v1,(.int .i64 (x.N))]) ((x.op,(x.to,x.A,x.N)):Int × Int × (List Int) × Int)) 0 rfl (λF h0=>h0)
 replace hm:=Mem.unpair (α:=Int) (β:=Int × (List Int) × Int) (c:=[(.int .i64 (x.op))]) (d:=[(.int .i64 (x.to)),v1,(.int .i64 (x.N))]) (x:=x.op) (y:=(x.to,x.A,x.N)) hm 0 rfl rfl
 replace hm:=hm.imp (c':=ow ([(.int .i64 (x.to))]++[v1,(.int .i64 (x.N))]) ((x.to,(x.A,x.N)):Int × (List Int) × Int)) 0 rfl (λF h0=>h0)
 replace hm:=Mem.unpair (α:=Int) (β:=(List Int) × Int) (c:=[(.int .i64 (x.to))]) (d:=[v1,(.int .i64 (x.N))]) (x:=x.to) (y:=(x.A,x.N)) hm 0 rfl rfl
 replace hm:=hm.imp (c':=ow ([v1]++[(.int .i64 (x.N))]) ((x.A,x.N):(List Int) × Int)) 0 rfl (λF h0=>h0)
 replace hm:=Mem.unpair (α:=List Int) (β:=Int) (c:=[v1]) (d:=[(.int .i64 (x.N))]) (x:=x.A) (y:=x.N) hm 0 rfl rfl
 replace hm:=hm.er 0
 replace hm:=hm.er 1
 replace hm:=hm.er 1
 exact ⟨v1,hm⟩
end Go.Wk
