/- A part of the proof of FnExactInlineSmallSaid. -/
import Derived.Test.YthikiocjbepfnaaGreatWkAd
namespace Go.Wk
open Go
structure Phi_ where
 to:Int
 args:List Int
 deriving DecidableEq,Inhabited
instance:GT Phi_:=GT.via (λm=>(m.to,m.args))
structure Ins_ where
 op:Int
 to:Int
 args:List Int
 n_:Int
 deriving DecidableEq,Inhabited
instance:GT Ins_:=GT.via (λm=>(m.op,m.to,m.args,m.n_))
structure Block_ where
 phis:List Phi_
 ins:List Ins_
 jump:Int
 on:Int
 next_:List Int
 deriving DecidableEq,Inhabited
instance:GT Block_:=GT.via (λm=>(m.phis,m.ins,m.jump,m.on,m.next_))
structure Code_ where
 params:Int
 regs:Int
 blocks:List Block_
 deriving DecidableEq,Inhabited
instance:GT Code_:=GT.via (λm=>(m.params,m.regs,m.blocks))
structure Unit_ where
 codes:List Code_
 deriving DecidableEq,Inhabited
instance:GT Unit_:=GT.via (λm=>(m.codes))
structure l12Sets where
 ins:List (List Bool)
 outs:List (List Bool)
 deriving DecidableEq,Inhabited
instance:GT l12Sets:=GT.via (λm=>(m.ins,m.outs))
structure live where
 c:Code_
 ins:List (MapS Bool)
 preds:List (List Int)
 deriving DecidableEq,Inhabited
instance:GT live:=GT.via (λm=>(m.c,m.ins,m.preds))
theorem rk_Phi_ {h:Heap} {b off len cap i:Nat} {xs:List Phi_} {x:Phi_} (hr:GT.rep h [.slice (some ⟨b,off,none⟩) len cap] xs) (hx:xs[i]?=some x):∃ v1:Value,CellsAt h b (off+i*2) [(.int .i64 (x.to)),v1]∧GT.rep h [v1] x.args:=by
 obtain ⟨_,_,hc,hq⟩:=ro_get' hr hx
 obtain ⟨_,_,rfl,rfl,h0_1⟩:=hq
 obtain ⟨v1,rfl,-⟩:=id h0_1
 exact ⟨v1,hc,h0_1⟩
theorem rk_Ins_ {h:Heap} {b off len cap i:Nat} {xs:List Ins_} {x:Ins_} (hr:GT.rep h [.slice (some ⟨b,off,none⟩) len cap] xs) (hx:xs[i]?=some x):∃ v1:Value,CellsAt h b (off+i*4) [(.int .i64 (x.op)),(.int .i64 (x.to)),v1,(.int .i64 (x.n_))]∧GT.rep h [v1] x.args:=by
 obtain ⟨_,_,hc,hq⟩:=ro_get' hr hx
 obtain ⟨_,_,rfl,rfl,_,_,rfl,rfl,_,_,rfl,h0_1,rfl⟩:=hq
 obtain ⟨v1,rfl,-⟩:=id h0_1
 exact ⟨v1,hc,h0_1⟩
theorem rk_Block_ {h:Heap} {b off len cap i:Nat} {xs:List Block_} {x:Block_} (hr:GT.rep h [.slice (some ⟨b,off,none⟩) len cap] xs) (hx:xs[i]?=some x):∃ v1 v2 v3:Value,CellsAt h b (off+i*5) [v1,v2,(.int .i64 (x.jump)),(.int .i64 (x.on)),v3]∧GT.rep h [v1] x.phis∧GT.rep h [v2] x.ins∧GT.rep h [v3] x.next_:=by
 obtain ⟨_,_,hc,hq⟩:=ro_get' hr hx
 obtain ⟨_,_,rfl,h0_1,_,_,rfl,h0_2,_,_,rfl,rfl,_,_,rfl,rfl,h0_3⟩:=hq
 obtain ⟨v1,rfl,-⟩:=id h0_1
 obtain ⟨v2,rfl,-⟩:=id h0_2
 obtain ⟨v3,rfl,-⟩:=id h0_3
 exact ⟨v1,v2,v3,hc,h0_1,h0_2,h0_3⟩
theorem rk_Code_ {h:Heap} {b off len cap i:Nat} {xs:List Code_} {x:Code_} (hr:GT.rep h [.slice (some ⟨b,off,none⟩) len cap] xs) (hx:xs[i]?=some x):∃ v1:Value,CellsAt h b (off+i*3) [(.int .i64 (x.params)),(.int .i64 (x.regs)),v1]∧GT.rep h [v1] x.blocks:=by
 obtain ⟨_,_,hc,hq⟩:=ro_get' hr hx
 obtain ⟨_,_,rfl,rfl,_,_,rfl,rfl,h0_1⟩:=hq
 obtain ⟨v1,rfl,-⟩:=id h0_1
 exact ⟨v1,hc,h0_1⟩
theorem mk_Phi_ {w0 w:World} {hz:Heap} {L:List Ch} {v1:Value} {x1:List Int} (a1:Int) (hm:Mem w0 hz w L) (j1:Nat) (h:L[j1]?=some (ow [v1] x1)):Mem w0 hz w (L.set j1 (ow [(.int .i64 (a1)),v1] (⟨a1,x1⟩:Phi_))) :=
 hm.mk1 (c':=ow [(.int .i64 (a1)),v1] (⟨a1,x1⟩:Phi_)) j1 h (λF1 _ o1=>show GT.own (α:=Phi_) _ _ _ _ from ⟨[(.int .i64 (a1))],[v1],rfl,(λ_=>False),F1,(λ_ h=>h.elim),(λ_ h=>h),(λ_ h=>h.elim),Flat.own_iff.2 rfl,o1⟩)
theorem mk_Ins_ {w0 w:World} {hz:Heap} {L:List Ch} {v1:Value} {x1:List Int} (a1:Int) (a2:Int) (a3:Int) (hm:Mem w0 hz w L) (j1:Nat) (h:L[j1]?=some (ow [v1] x1)):Mem w0 hz w (L.set j1 (ow [(.int .i64 (a1)),(.int .i64 (a2)),v1,(.int .i64 (a3))] (⟨a1,a2,x1,a3⟩:Ins_))) :=
 hm.mk1 (c':=ow [(.int .i64 (a1)),(.int .i64 (a2)),v1,(.int .i64 (a3))] (⟨a1,a2,x1,a3⟩:Ins_)) j1 h (λF1 _ o1=>show GT.own (α:=Ins_) _ _ _ _ from ⟨[(.int .i64 (a1))],[(.int .i64 (a2)),v1,(.int .i64 (a3))],rfl,(λ_=>False),F1,(λ_ h=>h.elim),(λ_ h=>h),(λ_ h=>h.elim),Flat.own_iff.2 rfl,⟨[(.int .i64 (a2))],[v1,(.int .i64 (a3))],rfl,(λ_=>False),F1,(λ_ h=>h.elim),(λ_ h=>h),(λ_ h=>h.elim),Flat.own_iff.2 rfl,⟨[v1],[(.int .i64 (a3))],rfl,F1,(λ_=>False),(λ_ h=>h),(λ_ h=>h.elim),(λ_ _ h=>h.elim),o1,Flat.own_iff.2 rfl⟩⟩⟩)
theorem mk_Block_ {w0 w:World} {hz:Heap} {L:List Ch} {v1 v2 v3:Value} {x1:List Phi_} {x2:List Ins_} {x3:List Int} (a1:Int) (a2:Int) (hm:Mem w0 hz w L) (j1 j2 j3:Nat) (h:(decide [j1,j2,j3].Nodup,L[j1]?,L[j2]?,L[j3]?)=(true,some (ow [v1] x1),some (ow [v2] x2),some (ow [v3] x3))):Mem w0 hz w ((((L.set j2 (both (ow [v2] x2) (ow [v3] x3))).set j3 triv).set j1 (ow [v1,v2,(.int .i64 (a1)),(.int .i64 (a2)),v3] (⟨x1,x2,a1,a2,x3⟩:Block_))).set j2 triv) :=
 hm.mk3 (c':=ow [v1,v2,(.int .i64 (a1)),(.int .i64 (a2)),v3] (⟨x1,x2,a1,a2,x3⟩:Block_)) j1 j2 j3 h (λF1 F2 F3 _ o1 o2 o3 d12 d13 d23=>show GT.own (α:=Block_) _ _ _ _ from ⟨[v1],[v2,(.int .i64 (a1)),(.int .i64 (a2)),v3],rfl,F1,(λb=>F2 b∨F3 b),(λ_ h=>.inl h),(λ_ h=>.inr h),(λ_ h h1=>h1.elim (d12 _ h) (λh2=>d13 _ h h2)),o1,⟨[v2],[(.int .i64 (a1)),(.int .i64 (a2)),v3],rfl,F2,F3,(λ_ h=>.inl h),(λ_ h=>.inr h),(λ_ h h1=>d23 _ h h1),o2,⟨[(.int .i64 (a1))],[(.int .i64 (a2)),v3],rfl,(λ_=>False),F3,(λ_ h=>h.elim),(λ_ h=>h),(λ_ h=>h.elim),Flat.own_iff.2 rfl,⟨[(.int .i64 (a2))],[v3],rfl,(λ_=>False),F3,(λ_ h=>h.elim),(λ_ h=>h),(λ_ h=>h.elim),Flat.own_iff.2 rfl,o3⟩⟩⟩⟩)
theorem mk_Code_ {w0 w:World} {hz:Heap} {L:List Ch} {v1:Value} {x1:List Block_} (a1:Int) (a2:Int) (hm:Mem w0 hz w L) (j1:Nat) (h:L[j1]?=some (ow [v1] x1)):Mem w0 hz w (L.set j1 (ow [(.int .i64 (a1)),(.int .i64 (a2)),v1] (⟨a1,a2,x1⟩:Code_))) :=
 hm.mk1 (c':=ow [(.int .i64 (a1)),(.int .i64 (a2)),v1] (⟨a1,a2,x1⟩:Code_)) j1 h (λF1 _ o1=>show GT.own (α:=Code_) _ _ _ _ from ⟨[(.int .i64 (a1))],[(.int .i64 (a2)),v1],rfl,(λ_=>False),F1,(λ_ h=>h.elim),(λ_ h=>h),(λ_ h=>h.elim),Flat.own_iff.2 rfl,⟨[(.int .i64 (a2))],[v1],rfl,(λ_=>False),F1,(λ_ h=>h.elim),(λ_ h=>h),(λ_ h=>h.elim),Flat.own_iff.2 rfl,o1⟩⟩)
theorem pin_Block_ {w0 w:World} {hz:Heap} {L:List Ch} {b off len cap i:Nat} {xs:List Block_} {x:Block_} (hm:Mem w0 hz w L) (k:Nat) (hk:L[k]?=some (ow [.slice (some ⟨b,off,none⟩) len cap] xs)) (hx:xs[i]?=some x):∃ v1 v2 v3:Value,Mem w0 hz w (ow [v3] x.next_::ow [v2] x.ins::ow [v1] x.phis::L.set k (holeE b off len cap xs i [v1,v2,(.int .i64 (x.jump)),(.int .i64 (x.on)),v3])):=by
 obtain ⟨_,_,hm⟩:=hm.openE k hk hx
 have hr:=hm.ow_rep 0 rfl
 obtain ⟨_,_,rfl,h0_1,_,_,rfl,h0_2,_,_,rfl,rfl,_,_,rfl,rfl,h0_3⟩:=hr
 obtain ⟨v1,rfl,-⟩:=id h0_1
 obtain ⟨v2,rfl,-⟩:=id h0_2
 obtain ⟨v3,rfl,-⟩:=id h0_3
 replace hm:Mem w0 hz w (ow [v1,v2,(.int .i64 (x.jump)),(.int .i64 (x.on)),v3] (x:Block_)::_):=hm
 replace hm:=hm.imp (c':=ow ([v1]++[v2,(.int .i64 (x.jump)),(.int .i64 (x.on)),v3]) ((x.phis,(x.ins,x.jump,x.on,x.next_)):(List Phi_) × (List Ins_) × Int × Int × (List Int))) 0 rfl (λF h0=>h0)
 replace hm:=Mem.unpair (α:=List Phi_) (β:=(List Ins_) × Int × Int × (List Int)) (c:=[v1]) (d:=[v2,(.int .i64 (x.jump)),(.int .i64 (x.on)),v3]) (x:=x.phis) (y:=(x.ins,x.jump,x.on,x.next_)) hm 0 rfl rfl
 replace hm:=hm.imp (c':=ow ([v2]++[(.int .i64 (x.jump)),(.int .i64 (x.on)),v3]) ((x.ins,(x.jump,x.on,x.next_)):(List Ins_) × Int × Int × (List Int))) 0 rfl (λF h0=>h0)
 replace hm:=Mem.unpair (α:=List Ins_) (β:=Int × Int × (List Int)) (c:=[v2]) (d:=[(.int .i64 (x.jump)),(.int .i64 (x.on)),v3]) (x:=x.ins) (y:=(x.jump,x.on,x.next_)) hm 0 rfl rfl
 replace hm:=hm.imp (c':=ow ([(.int .i64 (x.jump))]++[(.int .i64 (x.on)),v3]) ((x.jump,(x.on,x.next_)):Int × Int × (List Int))) 0 rfl (λF h0=>h0)
 replace hm:=Mem.unpair (α:=Int) (β:=Int × (List Int)) (c:=[(.int .i64 (x.jump))]) (d:=[(.int .i64 (x.on)),v3]) (x:=x.jump) (y:=(x.on,x.next_)) hm 0 rfl rfl
 replace hm:=hm.imp (c':=ow ([(.int .i64 (x.on))]++[v3]) ((x.on,x.next_):Int × (List Int))) 0 rfl (λF h0=>h0)
 replace hm:=Mem.unpair (α:=Int) (β:=(List Int)) (c:=[(.int .i64 (x.on))]) (d:=[v3]) (x:=x.on) (y:=x.next_) hm 0 rfl rfl
 replace hm:=hm.er 1
 replace hm:=hm.er 1
 exact ⟨v1,v2,v3,hm⟩
theorem pin_Phi_ {w0 w:World} {hz:Heap} {L:List Ch} {b off len cap i:Nat} {xs:List Phi_} {x:Phi_} (hm:Mem w0 hz w L) (k:Nat) (hk:L[k]?=some (ow [.slice (some ⟨b,off,none⟩) len cap] xs)) (hx:xs[i]?=some x):∃ v1:Value,Mem w0 hz w (ow [v1] x.args::L.set k (holeE b off len cap xs i [(.int .i64 (x.to)),v1])):=by
 obtain ⟨_,_,hm⟩:=hm.openE k hk hx
 have hr:=hm.ow_rep 0 rfl
 obtain ⟨_,_,rfl,rfl,h0_1⟩:=hr
 obtain ⟨v1,rfl,-⟩:=id h0_1
 replace hm:Mem w0 hz w (ow [(.int .i64 (x.to)),v1] (x:Phi_)::_):=hm
 replace hm:=hm.imp (c':=ow ([(.int .i64 (x.to))]++[v1]) ((x.to,x.args):Int × (List Int))) 0 rfl (λF h0=>h0)
 replace hm:=Mem.unpair (α:=Int) (β:=(List Int)) (c:=[(.int .i64 (x.to))]) (d:=[v1]) (x:=x.to) (y:=x.args) hm 0 rfl rfl
 replace hm:=hm.er 1
 exact ⟨v1,hm⟩
theorem pin_Ins_ {w0 w:World} {hz:Heap} {L:List Ch} {b off len cap i:Nat} {xs:List Ins_} {x:Ins_} (hm:Mem w0 hz w L) (k:Nat) (hk:L[k]?=some (ow [.slice (some ⟨b,off,none⟩) len cap] xs)) (hx:xs[i]?=some x):∃ v1:Value,Mem w0 hz w (ow [v1] x.args::L.set k (holeE b off len cap xs i [(.int .i64 (x.op)),(.int .i64 (x.to)),v1,(.int .i64 (x.n_))])):=by
 obtain ⟨_,_,hm⟩:=hm.openE k hk hx
 have hr:=hm.ow_rep 0 rfl
 obtain ⟨_,_,rfl,rfl,_,_,rfl,rfl,_,_,rfl,h0_1,rfl⟩:=hr
 obtain ⟨v1,rfl,-⟩:=id h0_1
 replace hm:Mem w0 hz w (ow [(.int .i64 (x.op)),(.int .i64 (x.to)),v1,(.int .i64 (x.n_))] (x:Ins_)::_):=hm
 replace hm:=hm.imp (c':=ow ([(.int .i64 (x.op))]++[(.int .i64 (x.to)),v1,(.int .i64 (x.n_))]) ((x.op,(x.to,x.args,x.n_)):Int × Int × (List Int) × Int)) 0 rfl (λF h0=>h0)
 replace hm:=Mem.unpair (α:=Int) (β:=Int × (List Int) × Int) (c:=[(.int .i64 (x.op))]) (d:=[(.int .i64 (x.to)),v1,(.int .i64 (x.n_))]) (x:=x.op) (y:=(x.to,x.args,x.n_)) hm 0 rfl rfl
 replace hm:=hm.imp (c':=ow ([(.int .i64 (x.to))]++[v1,(.int .i64 (x.n_))]) ((x.to,(x.args,x.n_)):Int × (List Int) × Int)) 0 rfl (λF h0=>h0)
 replace hm:=Mem.unpair (α:=Int) (β:=(List Int) × Int) (c:=[(.int .i64 (x.to))]) (d:=[v1,(.int .i64 (x.n_))]) (x:=x.to) (y:=(x.args,x.n_)) hm 0 rfl rfl
 replace hm:=hm.imp (c':=ow ([v1]++[(.int .i64 (x.n_))]) ((x.args,x.n_):(List Int) × Int)) 0 rfl (λF h0=>h0)
 replace hm:=Mem.unpair (α:=List Int) (β:=Int) (c:=[v1]) (d:=[(.int .i64 (x.n_))]) (x:=x.args) (y:=x.n_) hm 0 rfl rfl
 replace hm:=hm.er 0
 replace hm:=hm.er 1
 replace hm:=hm.er 1
 exact ⟨v1,hm⟩
theorem pin_Code_ {w0 w:World} {hz:Heap} {L:List Ch} {b off len cap i:Nat} {xs:List Code_} {x:Code_} (hm:Mem w0 hz w L) (k:Nat) (hk:L[k]?=some (ow [.slice (some ⟨b,off,none⟩) len cap] xs)) (hx:xs[i]?=some x):∃ v1:Value,Mem w0 hz w (ow [v1] x.blocks::L.set k (holeE b off len cap xs i [(.int .i64 (x.params)),(.int .i64 (x.regs)),v1])):=by
 obtain ⟨_,_,hm⟩:=hm.openE k hk hx
 have hr:=hm.ow_rep 0 rfl
 obtain ⟨_,_,rfl,rfl,_,_,rfl,rfl,h0_1⟩:=hr
 obtain ⟨v1,rfl,-⟩:=id h0_1
 replace hm:Mem w0 hz w (ow [(.int .i64 (x.params)),(.int .i64 (x.regs)),v1] (x:Code_)::_):=hm
 replace hm:=hm.imp (c':=ow ([(.int .i64 (x.params))]++[(.int .i64 (x.regs)),v1]) ((x.params,(x.regs,x.blocks)):Int × Int × (List Block_))) 0 rfl (λF h0=>h0)
 replace hm:=Mem.unpair (α:=Int) (β:=Int × (List Block_)) (c:=[(.int .i64 (x.params))]) (d:=[(.int .i64 (x.regs)),v1]) (x:=x.params) (y:=(x.regs,x.blocks)) hm 0 rfl rfl
 replace hm:=hm.imp (c':=ow ([(.int .i64 (x.regs))]++[v1]) ((x.regs,x.blocks):Int × (List Block_))) 0 rfl (λF h0=>h0)
 replace hm:=Mem.unpair (α:=Int) (β:=(List Block_)) (c:=[(.int .i64 (x.regs))]) (d:=[v1]) (x:=x.regs) (y:=x.blocks) hm 0 rfl rfl
 replace hm:=hm.er 1
 replace hm:=hm.er 1
 exact ⟨v1,hm⟩
end Go.Wk
