/- A part of the proof of FnCutShortCardSaid. -/
import Derived.Test.YtdmoolhjchoifaaGreatDoorWkAd
namespace Go.Wk
open Go
structure l30Rd where
 b:List UInt8
 p:Int
 deriving DecidableEq,Inhabited
instance:GT l30Rd:=GT.via (λm=>(m.b,m.p))
structure Expr_ where
 op:Int
 n_:Int
 name:Str
 kids:List Expr_
 deriving Inhabited
abbrev gExpr_ (i:GT Expr_):GT (Int × Int × Str × (List Expr_)):=(@instGTProd Int (Int × Str × (List Expr_)) _ (@instGTProd Int (Str × (List Expr_)) _ (@instGTProd Str ((List Expr_)) _ (@instGTList Expr_ i))))
theorem cExpr_:Ctn gExpr_:=(ctn_pair (ctn_const _) (ctn_pair (ctn_const _) (ctn_pair (ctn_const _) (ctn_list ctn_id))))
instance:GT Expr_:=GT.lim 4 (λx=>(x.op,x.n_,x.name,x.kids)) gExpr_ (λ_=>rfl)
theorem rep_Expr_ {h:Heap} {cs:List Value} {x:Expr_}:GT.rep h cs x↔GT.rep h cs (x.op,x.n_,x.name,x.kids):=lim_rep cExpr_
theorem own_Expr_ {F:Nat→Prop} {h:Heap} {cs:List Value} {x:Expr_}:GT.own F h cs x↔GT.own F h cs (x.op,x.n_,x.name,x.kids):=lim_own cExpr_
structure Stmt_ where
 op:Int
 name:Str
 args:List Expr_
 body:List Stmt_
 else_:List Stmt_
 deriving Inhabited
abbrev gStmt_ (i:GT Stmt_):GT (Int × Str × (List Expr_) × (List Stmt_) × (List Stmt_)):=(@instGTProd Int (Str × (List Expr_) × (List Stmt_) × (List Stmt_)) _ (@instGTProd Str ((List Expr_) × (List Stmt_) × (List Stmt_)) _ (@instGTProd (List Expr_) ((List Stmt_) × (List Stmt_)) _ (@instGTProd (List Stmt_) ((List Stmt_)) (@instGTList Stmt_ i) (@instGTList Stmt_ i)))))
theorem cStmt_:Ctn gStmt_:=(ctn_pair (ctn_const _) (ctn_pair (ctn_const _) (ctn_pair (ctn_const _) (ctn_pair (ctn_list ctn_id) (ctn_list ctn_id)))))
instance:GT Stmt_:=GT.lim 5 (λx=>(x.op,x.name,x.args,x.body,x.else_)) gStmt_ (λ_=>rfl)
theorem rep_Stmt_ {h:Heap} {cs:List Value} {x:Stmt_}:GT.rep h cs x↔GT.rep h cs (x.op,x.name,x.args,x.body,x.else_):=lim_rep cStmt_
theorem own_Stmt_ {F:Nat→Prop} {h:Heap} {cs:List Value} {x:Stmt_}:GT.own F h cs x↔GT.own F h cs (x.op,x.name,x.args,x.body,x.else_):=lim_own cStmt_
structure Fn_ where
 name:Str
 params:List Str
 body:List Stmt_
 deriving Inhabited
instance:GT Fn_:=GT.via (λm=>(m.name,m.params,m.body))
structure l3Gen where
 fns:List Fn_
 vars:List Str
 next_:Int
 left:Int
 deriving Inhabited
instance:GT l3Gen:=GT.via (λm=>(m.fns,m.vars,m.next_,m.left))
structure Program_ where
 fns:List Fn_
 deriving Inhabited
instance:GT Program_:=GT.via (λm=>(m.fns))
structure Word_ where
 kind:Int
 text:Str
 deriving DecidableEq,Inhabited
instance:Flat Word_:=Flat.mk' Word_ 2 (λm=>[(.int .i64 (m.kind)),(.string ⟨(m.text).b.toArray⟩)]) (λ_=>rfl) (λx=>by simp [Value.oneCell'])
structure wordReader where
 list:List Word_
 bad:Bool
 deriving DecidableEq,Inhabited
instance:GT wordReader:=GT.via (λm=>(m.list,m.bad))
structure St_sign_level where
 sign:Str
 level:Int
 deriving DecidableEq,Inhabited
instance:Flat St_sign_level:=Flat.mk' St_sign_level 2 (λm=>[(.string ⟨(m.sign).b.toArray⟩),(.int .i64 (m.level))]) (λ_=>rfl) (λx=>by simp [Value.oneCell'])
theorem str_inj {a b:Str} (h:(Value.string ⟨a.b.toArray⟩)=.string ⟨b.b.toArray⟩):a=b:=by simp at h;exact Str.ext' h
instance:MV St_sign_level:=⟨λm=>.agg #[(.string ⟨(m.sign).b.toArray⟩),(.int .i64 (m.level))],λ⟨a1,a2⟩ ⟨b1,b2⟩ h=>by
 injection h with h;injection h with h
 injection h with h1 h
 replace h1:=str_inj h1
 injection h with h2 h
 injection h2 with _ h2
 subst h1 h2;rfl⟩
structure l3Reader where
 list:List Word_
 at_:Int
 deriving DecidableEq,Inhabited
instance:GT l3Reader:=GT.via (λm=>(m.list,m.at_))
theorem mkx_Expr_ {w0 w:World} {hz:Heap} {L:List Ch} {v1:Value} (x:Expr_) (hm:Mem w0 hz w L) (j1:Nat) (h:L[j1]?=some (ow [v1] x.kids)):Mem w0 hz w (L.set j1 (ow [(.int .i64 (x.op)),(.int .i64 (x.n_)),(.string ⟨(x.name).b.toArray⟩),v1] (x:Expr_))) :=
 hm.mk1 (c':=ow [(.int .i64 (x.op)),(.int .i64 (x.n_)),(.string ⟨(x.name).b.toArray⟩),v1] (x:Expr_)) j1 h (λF1 _ o1=>show GT.own (α:=Expr_) _ _ _ _ from own_Expr_.2 ⟨[(.int .i64 (x.op))],[(.int .i64 (x.n_)),(.string ⟨(x.name).b.toArray⟩),v1],rfl,(λ_=>False),F1,(λ_ h=>h.elim),(λ_ h=>h),(λ_ h=>h.elim),Flat.own_iff.2 rfl,⟨[(.int .i64 (x.n_))],[(.string ⟨(x.name).b.toArray⟩),v1],rfl,(λ_=>False),F1,(λ_ h=>h.elim),(λ_ h=>h),(λ_ h=>h.elim),Flat.own_iff.2 rfl,⟨[(.string ⟨(x.name).b.toArray⟩)],[v1],rfl,(λ_=>False),F1,(λ_ h=>h.elim),(λ_ h=>h),(λ_ h=>h.elim),Flat.own_iff.2 rfl,o1⟩⟩⟩)
theorem rk_Fn_ {h:Heap} {b off len cap i:Nat} {xs:List Fn_} {x:Fn_} (hr:GT.rep h [.slice (some ⟨b,off,none⟩) len cap] xs) (hx:xs[i]?=some x):∃ v1 v2:Value,CellsAt h b (off+i*3) [(.string ⟨(x.name).b.toArray⟩),v1,v2]∧GT.rep h [v1] x.params∧GT.rep h [v2] x.body:=by
 obtain ⟨_,_,hc,hq⟩:=ro_get' hr hx
 obtain ⟨_,_,rfl,rfl,_,_,rfl,h0_1,h0_2⟩:=hq
 obtain ⟨v1,rfl,-⟩:=id h0_1
 obtain ⟨v2,rfl,-⟩:=id h0_2
 exact ⟨v1,v2,hc,h0_1,h0_2⟩
theorem mk_Expr_ {w0 w:World} {hz:Heap} {L:List Ch} {v1:Value} {x1:List Expr_} (a1:Int) (a2:Int) (a3:Str) (hm:Mem w0 hz w L) (j1:Nat) (h:L[j1]?=some (ow [v1] x1)):Mem w0 hz w (L.set j1 (ow [(.int .i64 (a1)),(.int .i64 (a2)),(.string ⟨(a3).b.toArray⟩),v1] (⟨a1,a2,a3,x1⟩:Expr_))) :=
 hm.mk1 (c':=ow [(.int .i64 (a1)),(.int .i64 (a2)),(.string ⟨(a3).b.toArray⟩),v1] (⟨a1,a2,a3,x1⟩:Expr_)) j1 h (λF1 _ o1=>show GT.own (α:=Expr_) _ _ _ _ from own_Expr_.2 ⟨[(.int .i64 (a1))],[(.int .i64 (a2)),(.string ⟨(a3).b.toArray⟩),v1],rfl,(λ_=>False),F1,(λ_ h=>h.elim),(λ_ h=>h),(λ_ h=>h.elim),Flat.own_iff.2 rfl,⟨[(.int .i64 (a2))],[(.string ⟨(a3).b.toArray⟩),v1],rfl,(λ_=>False),F1,(λ_ h=>h.elim),(λ_ h=>h),(λ_ h=>h.elim),Flat.own_iff.2 rfl,⟨[(.string ⟨(a3).b.toArray⟩)],[v1],rfl,(λ_=>False),F1,(λ_ h=>h.elim),(λ_ h=>h),(λ_ h=>h.elim),Flat.own_iff.2 rfl,o1⟩⟩⟩)
theorem mk_Stmt_ {w0 w:World} {hz:Heap} {L:List Ch} {v1 v2 v3:Value} {x1:List Expr_} {x2:List Stmt_} {x3:List Stmt_} (a1:Int) (a2:Str) (hm:Mem w0 hz w L) (j1 j2 j3:Nat) (h:(decide [j1,j2,j3].Nodup,L[j1]?,L[j2]?,L[j3]?)=(true,some (ow [v1] x1),some (ow [v2] x2),some (ow [v3] x3))):Mem w0 hz w ((((L.set j2 (both (ow [v2] x2) (ow [v3] x3))).set j3 triv).set j1 (ow [(.int .i64 (a1)),(.string ⟨(a2).b.toArray⟩),v1,v2,v3] (⟨a1,a2,x1,x2,x3⟩:Stmt_))).set j2 triv) :=
 hm.mk3 (c':=ow [(.int .i64 (a1)),(.string ⟨(a2).b.toArray⟩),v1,v2,v3] (⟨a1,a2,x1,x2,x3⟩:Stmt_)) j1 j2 j3 h (λF1 F2 F3 _ o1 o2 o3 d12 d13 d23=>show GT.own (α:=Stmt_) _ _ _ _ from own_Stmt_.2 ⟨[(.int .i64 (a1))],[(.string ⟨(a2).b.toArray⟩),v1,v2,v3],rfl,(λ_=>False),(λb=>F1 b∨F2 b∨F3 b),(λ_ h=>h.elim),(λ_ h=>h),(λ_ h=>h.elim),Flat.own_iff.2 rfl,⟨[(.string ⟨(a2).b.toArray⟩)],[v1,v2,v3],rfl,(λ_=>False),(λb=>F1 b∨F2 b∨F3 b),(λ_ h=>h.elim),(λ_ h=>h),(λ_ h=>h.elim),Flat.own_iff.2 rfl,⟨[v1],[v2,v3],rfl,F1,(λb=>F2 b∨F3 b),(λ_ h=>.inl h),(λ_ h=>.inr h),(λ_ h h1=>h1.elim (d12 _ h) (λh2=>d13 _ h h2)),o1,⟨[v2],[v3],rfl,F2,F3,(λ_ h=>.inl h),(λ_ h=>.inr h),(λ_ h h1=>d23 _ h h1),o2,o3⟩⟩⟩⟩)
theorem mkx_Stmt_ {w0 w:World} {hz:Heap} {L:List Ch} {v1 v2 v3:Value} (x:Stmt_) (hm:Mem w0 hz w L) (j1 j2 j3:Nat) (h:(decide [j1,j2,j3].Nodup,L[j1]?,L[j2]?,L[j3]?)=(true,some (ow [v1] x.args),some (ow [v2] x.body),some (ow [v3] x.else_))):Mem w0 hz w ((((L.set j2 (both (ow [v2] x.body) (ow [v3] x.else_))).set j3 triv).set j1 (ow [(.int .i64 (x.op)),(.string ⟨(x.name).b.toArray⟩),v1,v2,v3] (x:Stmt_))).set j2 triv) :=
 hm.mk3 (c':=ow [(.int .i64 (x.op)),(.string ⟨(x.name).b.toArray⟩),v1,v2,v3] (x:Stmt_)) j1 j2 j3 h (λF1 F2 F3 _ o1 o2 o3 d12 d13 d23=>show GT.own (α:=Stmt_) _ _ _ _ from own_Stmt_.2 ⟨[(.int .i64 (x.op))],[(.string ⟨(x.name).b.toArray⟩),v1,v2,v3],rfl,(λ_=>False),(λb=>F1 b∨F2 b∨F3 b),(λ_ h=>h.elim),(λ_ h=>h),(λ_ h=>h.elim),Flat.own_iff.2 rfl,⟨[(.string ⟨(x.name).b.toArray⟩)],[v1,v2,v3],rfl,(λ_=>False),(λb=>F1 b∨F2 b∨F3 b),(λ_ h=>h.elim),(λ_ h=>h),(λ_ h=>h.elim),Flat.own_iff.2 rfl,⟨[v1],[v2,v3],rfl,F1,(λb=>F2 b∨F3 b),(λ_ h=>.inl h),(λ_ h=>.inr h),(λ_ h h1=>h1.elim (d12 _ h) (λh2=>d13 _ h h2)),o1,⟨[v2],[v3],rfl,F2,F3,(λ_ h=>.inl h),(λ_ h=>.inr h),(λ_ h h1=>d23 _ h h1),o2,o3⟩⟩⟩⟩)
theorem rk_Expr_ {h:Heap} {b off len cap i:Nat} {xs:List Expr_} {x:Expr_} (hr:GT.rep h [.slice (some ⟨b,off,none⟩) len cap] xs) (hx:xs[i]?=some x):∃ v1:Value,CellsAt h b (off+i*4) [(.int .i64 (x.op)),(.int .i64 (x.n_)),(.string ⟨(x.name).b.toArray⟩),v1]∧GT.rep h [v1] x.kids:=by
 obtain ⟨_,_,hc,hq⟩:=ro_get' hr hx
 replace hq:=rep_Expr_.1 hq
 obtain ⟨_,_,rfl,rfl,_,_,rfl,rfl,_,_,rfl,rfl,h0_1⟩:=hq
 obtain ⟨v1,rfl,-⟩:=id h0_1
 exact ⟨v1,hc,h0_1⟩
theorem rk_Stmt_ {h:Heap} {b off len cap i:Nat} {xs:List Stmt_} {x:Stmt_} (hr:GT.rep h [.slice (some ⟨b,off,none⟩) len cap] xs) (hx:xs[i]?=some x):∃ v1 v2 v3:Value,CellsAt h b (off+i*5) [(.int .i64 (x.op)),(.string ⟨(x.name).b.toArray⟩),v1,v2,v3]∧GT.rep h [v1] x.args∧GT.rep h [v2] x.body∧GT.rep h [v3] x.else_:=by
 obtain ⟨_,_,hc,hq⟩:=ro_get' hr hx
 replace hq:=rep_Stmt_.1 hq
 obtain ⟨_,_,rfl,rfl,_,_,rfl,rfl,_,_,rfl,h0_1,_,_,rfl,h0_2,h0_3⟩:=hq
 obtain ⟨v1,rfl,-⟩:=id h0_1
 obtain ⟨v2,rfl,-⟩:=id h0_2
 obtain ⟨v3,rfl,-⟩:=id h0_3
 exact ⟨v1,v2,v3,hc,h0_1,h0_2,h0_3⟩
theorem mk_Fn_ {w0 w:World} {hz:Heap} {L:List Ch} {v1 v2:Value} {x1:List Str} {x2:List Stmt_} (a1:Str) (hm:Mem w0 hz w L) (j1 j2:Nat) (h:(decide [j1,j2].Nodup,L[j1]?,L[j2]?)=(true,some (ow [v1] x1),some (ow [v2] x2))):Mem w0 hz w ((L.set j1 (ow [(.string ⟨(a1).b.toArray⟩),v1,v2] (⟨a1,x1,x2⟩:Fn_))).set j2 triv) :=
 hm.mk2 (c':=ow [(.string ⟨(a1).b.toArray⟩),v1,v2] (⟨a1,x1,x2⟩:Fn_)) j1 j2 h (λF1 F2 _ o1 o2 d12=>show GT.own (α:=Fn_) _ _ _ _ from ⟨[(.string ⟨(a1).b.toArray⟩)],[v1,v2],rfl,(λ_=>False),(λb=>F1 b∨F2 b),(λ_ h=>h.elim),(λ_ h=>h),(λ_ h=>h.elim),Flat.own_iff.2 rfl,⟨[v1],[v2],rfl,F1,F2,(λ_ h=>.inl h),(λ_ h=>.inr h),(λ_ h h1=>d12 _ h h1),o1,o2⟩⟩)
end Go.Wk
