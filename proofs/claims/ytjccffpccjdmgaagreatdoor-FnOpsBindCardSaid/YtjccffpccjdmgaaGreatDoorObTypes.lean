/- A part of the proof of FnOpsBindCardSaid. -/
import Derived.Test.YtjccffpccjdmgaaGreatDoorWkAd
namespace Go.Wk
open Go
structure l30Rd where
  b : List UInt8
  p : Int
  deriving DecidableEq, Inhabited
instance : GT l30Rd := GT.via (fun m => (m.b, m.p))
structure Expr_ where
  op : Int
  n_ : Int
  name : Str
  kids : List Expr_
  deriving Inhabited
abbrev gExpr_ (i : GT Expr_) : GT (Int × Int × Str × (List Expr_)) := (@instGTProd Int (Int × Str × (List Expr_)) _ (@instGTProd Int (Str × (List Expr_)) _ (@instGTProd Str ((List Expr_)) _ (@instGTList Expr_ i))))
theorem cExpr_ : Ctn gExpr_ := (ctn_pair (ctn_const _) (ctn_pair (ctn_const _) (ctn_pair (ctn_const _) (ctn_list ctn_id))))
instance : GT Expr_ := GT.lim 4 (fun x => (x.op, x.n_, x.name, x.kids)) gExpr_ (fun _ => rfl)
theorem rep_Expr_ {h : Heap} {cs : List Value} {x : Expr_} : GT.rep h cs x ↔ GT.rep h cs (x.op, x.n_, x.name, x.kids) := lim_rep cExpr_
theorem own_Expr_ {F : Nat → Prop} {h : Heap} {cs : List Value} {x : Expr_} : GT.own F h cs x ↔ GT.own F h cs (x.op, x.n_, x.name, x.kids) := lim_own cExpr_
structure St_sign_level where
  sign : Str
  level : Int
  deriving DecidableEq, Inhabited
instance : Flat St_sign_level := Flat.mk' St_sign_level 2 (fun m => [(.string ⟨(m.sign).b.toArray⟩), (.int .i64 (m.level))]) (fun _ => rfl) (fun x => by simp [Value.oneCell'])
theorem str_inj {a b : Str} (h : (Value.string ⟨a.b.toArray⟩) = .string ⟨b.b.toArray⟩) : a = b := by simp at h; exact Str.ext' h
instance : MV St_sign_level := ⟨fun m => .agg #[(.string ⟨(m.sign).b.toArray⟩), (.int .i64 (m.level))], fun ⟨a1, a2⟩ ⟨b1, b2⟩ h => by
  injection h with h; injection h with h
  injection h with h1 h
  replace h1 := str_inj h1
  injection h with h2 h
  injection h2 with _ h2
  subst h1 h2; rfl⟩
structure Word_ where
  kind : Int
  text : Str
  deriving DecidableEq, Inhabited
instance : Flat Word_ := Flat.mk' Word_ 2 (fun m => [(.int .i64 (m.kind)), (.string ⟨(m.text).b.toArray⟩)]) (fun _ => rfl) (fun x => by simp [Value.oneCell'])
structure wordReader where
  list : List Word_
  bad : Bool
  deriving DecidableEq, Inhabited
instance : GT wordReader := GT.via (fun m => (m.list, m.bad))
theorem mkx_Expr_ {w0 w : World} {hz : Heap} {L : List Ch} {v1 : Value} (x : Expr_) (hm : Mem w0 hz w L) (j1 : Nat) (h : L[j1]? = some (ow [v1] x.kids)) : Mem w0 hz w (L.set j1 (ow [(.int .i64 (x.op)), (.int .i64 (x.n_)), (.string ⟨(x.name).b.toArray⟩), v1] (x : Expr_))) :=
  hm.mk1 (c' := ow [(.int .i64 (x.op)), (.int .i64 (x.n_)), (.string ⟨(x.name).b.toArray⟩), v1] (x : Expr_)) j1 h (fun F1 _ o1 => show GT.own (α := Expr_) _ _ _ _ from own_Expr_.2 ⟨[(.int .i64 (x.op))], [(.int .i64 (x.n_)), (.string ⟨(x.name).b.toArray⟩), v1], rfl, (fun _ => False), F1, (fun _ h => h.elim), (fun _ h => h), (fun _ h => h.elim), Flat.own_iff.2 rfl, ⟨[(.int .i64 (x.n_))], [(.string ⟨(x.name).b.toArray⟩), v1], rfl, (fun _ => False), F1, (fun _ h => h.elim), (fun _ h => h), (fun _ h => h.elim), Flat.own_iff.2 rfl, ⟨[(.string ⟨(x.name).b.toArray⟩)], [v1], rfl, (fun _ => False), F1, (fun _ h => h.elim), (fun _ h => h), (fun _ h => h.elim), Flat.own_iff.2 rfl, o1⟩⟩⟩)
theorem mk_Expr_ {w0 w : World} {hz : Heap} {L : List Ch} {v1 : Value} {x1 : List Expr_} (a1 : Int) (a2 : Int) (a3 : Str) (hm : Mem w0 hz w L) (j1 : Nat) (h : L[j1]? = some (ow [v1] x1)) : Mem w0 hz w (L.set j1 (ow [(.int .i64 (a1)), (.int .i64 (a2)), (.string ⟨(a3).b.toArray⟩), v1] (⟨a1, a2, a3, x1⟩ : Expr_))) :=
  hm.mk1 (c' := ow [(.int .i64 (a1)), (.int .i64 (a2)), (.string ⟨(a3).b.toArray⟩), v1] (⟨a1, a2, a3, x1⟩ : Expr_)) j1 h (fun F1 _ o1 => show GT.own (α := Expr_) _ _ _ _ from own_Expr_.2 ⟨[(.int .i64 (a1))], [(.int .i64 (a2)), (.string ⟨(a3).b.toArray⟩), v1], rfl, (fun _ => False), F1, (fun _ h => h.elim), (fun _ h => h), (fun _ h => h.elim), Flat.own_iff.2 rfl, ⟨[(.int .i64 (a2))], [(.string ⟨(a3).b.toArray⟩), v1], rfl, (fun _ => False), F1, (fun _ h => h.elim), (fun _ h => h), (fun _ h => h.elim), Flat.own_iff.2 rfl, ⟨[(.string ⟨(a3).b.toArray⟩)], [v1], rfl, (fun _ => False), F1, (fun _ h => h.elim), (fun _ h => h), (fun _ h => h.elim), Flat.own_iff.2 rfl, o1⟩⟩⟩)
theorem rk_Expr_ {h : Heap} {b off len cap i : Nat} {xs : List Expr_} {x : Expr_} (hr : GT.rep h [.slice (some ⟨b, off, none⟩) len cap] xs) (hx : xs[i]? = some x) : ∃ v1 : Value, CellsAt h b (off + i * 4) [(.int .i64 (x.op)), (.int .i64 (x.n_)), (.string ⟨(x.name).b.toArray⟩), v1] ∧ GT.rep h [v1] x.kids := by
  obtain ⟨_, _, hc, hq⟩ := ro_get' hr hx
  replace hq := rep_Expr_.1 hq
  obtain ⟨_, _, rfl, rfl, _, _, rfl, rfl, _, _, rfl, rfl, h0_1⟩ := hq
  obtain ⟨v1, rfl, -⟩ := id h0_1
  exact ⟨v1, hc, h0_1⟩
end Go.Wk
