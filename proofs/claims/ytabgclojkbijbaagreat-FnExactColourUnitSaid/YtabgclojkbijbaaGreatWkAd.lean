/- A part of a proof: general laws of walks, no statement of the seat. -/
import Derived.Test.YtabgclojkbijbaaGreatWkY
import Derived.Maps.RangeRun
import Derived.Shelf.Sort.Plain
import Derived.Shelf.Slices.In.SortNone
import Derived.Shelf.Slices.CompactI
import Derived.Lib.RowBridge
import Derived.Scope
import Derived.WideKeyEntry
import Derived.RangeFuncRecord
import Derived.RangeFuncLeaves
import Derived.RangeFuncSeq
import Derived.TacticsIn
namespace Go.Wk
open Go Go.RowKit
structure MapS (β : Type) where
 es : List (Int × β)
 so : es.Pairwise (fun a b => a.1 < b.1)
 deriving DecidableEq
instance {β : Type} : Inhabited (MapS β) := ⟨⟨[], .nil⟩⟩
namespace MapS
variable {β : Type}
def get (m : MapS β) (k : Int) : Option β := lookM m.es k
def mk0 : MapS β := ⟨[], .nil⟩
def ins (m : MapS β) (k : Int) (v : β) : MapS β :=
 ⟨m.es.filter (fun p => decide (p.1 < k)) ++ (k, v) :: m.es.filter (fun p => decide (k < p.1)), by
  refine List.pairwise_append.2 ⟨m.so.filter _, List.pairwise_cons.2 ⟨fun p hp => by simpa using (List.mem_filter.1 hp).2, m.so.filter _⟩, fun a ha b hb => ?_⟩
  have h1 : a.1 < k := by simpa using (List.mem_filter.1 ha).2
  rcases List.mem_cons.1 hb with e | hb
  ·subst e; exact h1
  ·have h2 : k < b.1 := by simpa using (List.mem_filter.1 hb).2
   omega⟩
def del (m : MapS β) (k : Int) : MapS β := ⟨m.es.filter (fun p => decide (p.1 ≠ k)), m.so.filter _⟩
def keys (m : MapS β) : List Int := m.es.map (·.1)
def len (m : MapS β) : Int := (m.es.length : Int)
theorem nodup (m : MapS β) : (m.es.map (·.1)).Nodup := by
 refine (List.pairwise_map.2 (m.so.imp ?_))
 intro a b h
 show a.1 ≠ b.1
 omega
end MapS
section
variable {β : Type}
theorem lookM_some {es : List (Int × β)} (hn : (es.map (·.1)).Nodup) {k : Int} {v : β} : lookM es k = some v ↔ (k, v) ∈ es := by
 unfold lookM
 constructor
 ·intro h
  cases hq : findIx k es 0 with
  | none => rw [hq] at h; simp at h
  | some q =>
   obtain ⟨i, u⟩ := q
   rw [hq] at h
   simp at h
   subst h
   obtain ⟨_, h3⟩ := findIx_some hq
   exact List.mem_of_getElem? h3
 ·intro h
  cases hq : findIx k es 0 with
  | none => exact absurd rfl (findIx_none.1 hq _ h)
  | some q =>
   obtain ⟨i, u⟩ := q
   obtain ⟨_, h3⟩ := findIx_some hq
   have h4 := List.mem_of_getElem? h3
   simp only [Option.map_some, Option.some.injEq]
   have key : ∀ (l : List (Int × β)), (l.map (·.1)).Nodup → (k, u) ∈ l → (k, v) ∈ l → u = v := by
    intro l
    induction l with
    | nil => intro _ h; simp at h
    | cons p l ih =>
     intro hn h1 h2
     rw [List.map_cons, List.nodup_cons] at hn
     rcases List.mem_cons.1 h1 with e1 | e1 <;> rcases List.mem_cons.1 h2 with e2 | e2
     ·rw [← e1] at e2; simpa using e2.symm
     ·exact absurd (List.mem_map.2 ⟨_, e2, rfl⟩) (by rw [← e1] at hn; exact hn.1)
     ·exact absurd (List.mem_map.2 ⟨_, e1, rfl⟩) (by rw [← e2] at hn; exact hn.1)
     ·exact ih hn.2 e1 e2
   exact key es hn h4 h
theorem lookM_perm {es es' : List (Int × β)} (hp : es'.Perm es) (hn : (es.map (·.1)).Nodup) (k : Int) : lookM es' k = lookM es k := by
 have hn' : (es'.map (·.1)).Nodup := (hp.map _).nodup_iff.2 hn
 cases h : lookM es k with
 | none =>
  cases h' : lookM es' k with
  | none => rfl
  | some v => rw [lookM_some hn'] at h'; rw [(lookM_some hn).2 (hp.mem_iff.1 h')] at h; cases h
 | some v => rw [lookM_some hn] at h; rw [lookM_some hn']; exact hp.mem_iff.2 h
theorem set_perm {k : Int} {v : β} : ∀ {es : List (Int × β)} {i : Nat} {u : β}, (es.map (·.1)).Nodup → es[i]? = some (k, u) → (es.set i (k, v)).Perm ((k, v) :: es.filter (fun p => decide (p.1 ≠ k)))
 | [], i, u, _, h => by simp at h
 | p :: es, 0, u, hn, h => by
  simp at h
  subst h
  rw [List.map_cons, List.nodup_cons] at hn
  have : es.filter (fun p => decide (p.1 ≠ k)) = es := List.filter_eq_self.2 fun q hq => by
   have : q.1 ≠ k := fun e => hn.1 (List.mem_map.2 ⟨q, hq, e⟩)
   simpa using this
  rw [List.filter_cons, if_neg (by simp), this]
  exact List.Perm.refl _
 | p :: es, i + 1, u, hn, h => by
  rw [List.map_cons, List.nodup_cons] at hn
  have h' : es[i]? = some (k, u) := by simpa using h
  have hpk : p.1 ≠ k := fun e => hn.1 (List.mem_map.2 ⟨_, List.mem_of_getElem? h', e.symm⟩)
  have ih := set_perm (v := v) hn.2 h'
  simp only [List.set_cons_succ, List.filter_cons, hpk, ne_eq, not_false_eq_true, decide_true, if_true]
  exact (ih.cons p).trans (List.Perm.swap _ _ _)
theorem insM_perm {k : Int} {v : β} {es : List (Int × β)} (hn : (es.map (·.1)).Nodup) : (insM es k v).Perm ((k, v) :: es.filter (fun p => decide (p.1 ≠ k))) := by
 unfold insM
 cases hq : findIx k es 0 with
 | none =>
  have h := findIx_none.1 hq
  have : es.filter (fun p => decide (p.1 ≠ k)) = es := List.filter_eq_self.2 fun q hq => by
   have : q.1 ≠ k := fun e => h q hq e.symm
   simpa using this
  simp only [this]
  exact List.perm_append_singleton _ _
 | some q =>
  obtain ⟨i, u⟩ := q
  obtain ⟨_, h3⟩ := findIx_some hq
  exact set_perm hn h3
theorem erase_perm {k : Int} : ∀ {es : List (Int × β)} {i : Nat} {u : β}, (es.map (·.1)).Nodup → es[i]? = some (k, u) → es.eraseIdx i = es.filter (fun p => decide (p.1 ≠ k))
 | [], i, u, _, h => by simp at h
 | p :: es, 0, u, hn, h => by
  simp at h
  subst h
  rw [List.map_cons, List.nodup_cons] at hn
  have : es.filter (fun p => decide (p.1 ≠ k)) = es := List.filter_eq_self.2 fun q hq => by
   have : q.1 ≠ k := fun e => hn.1 (List.mem_map.2 ⟨q, hq, e⟩)
   simpa using this
  rw [List.filter_cons, if_neg (by simp), this]
  rfl
 | p :: es, i + 1, u, hn, h => by
  rw [List.map_cons, List.nodup_cons] at hn
  have h' : es[i]? = some (k, u) := by simpa using h
  have hpk : p.1 ≠ k := fun e => hn.1 (List.mem_map.2 ⟨_, List.mem_of_getElem? h', e.symm⟩)
  simp only [List.eraseIdx_cons_succ, List.filter_cons, hpk, ne_eq, not_false_eq_true, decide_true, if_true]
  rw [erase_perm hn.2 h']
theorem erase_map {α γ : Type} (f : α → γ) : ∀ (l : List α) (i : Nat), (l.eraseIdx i).map f = (l.map f).eraseIdx i
 | [], i => by simp
 | x :: l, 0 => by simp
 | x :: l, i + 1 => by simp [erase_map f l i]
theorem MapS.ins_perm (m : MapS β) (k : Int) (v : β) : ((k, v) :: m.es.filter (fun p => decide (p.1 ≠ k))).Perm (m.ins k v).es := by
 refine List.Perm.trans ?_ List.perm_middle.symm
 refine List.Perm.cons _ ?_
 have h := List.filter_append_perm (fun p : Int × β => decide (p.1 < k)) (m.es.filter (fun p => decide (p.1 ≠ k)))
 refine h.symm.trans ?_
 rw [List.filter_filter, List.filter_filter]
 have e1 : m.es.filter (fun p => decide (p.1 < k) && decide (p.1 ≠ k)) = m.es.filter (fun p => decide (p.1 < k)) := List.filter_congr fun p _ => by
  by_cases h : p.1 < k <;> simp [h]; omega
 have e2 : m.es.filter (fun p => !decide (p.1 < k) && decide (p.1 ≠ k)) = m.es.filter (fun p => decide (k < p.1)) := List.filter_congr fun p _ => by
  rcases Int.lt_trichotomy p.1 k with h | h | h
  ·have : ¬ k < p.1 := by omega
   simp [h, this]
  ·simp [h]
  ·have h1 : ¬ p.1 < k := by omega
   have h2 : p.1 ≠ k := by omega
   simp [h, h1, h2]
 rw [e1, e2]
end
class MV (β : Type) where
 venc : β → Value
 inj : ∀ a b, venc a = venc b → a = b
instance : MV Bool := ⟨.bool, fun a b h => by simpa using h⟩
instance : MV Int := ⟨.int .i64, fun a b h => by simpa using h⟩
def mapAt {β : Type} [MV β] (h : Heap) (r : Nat) (m : MapS β) : Prop :=
 ∃ (E : Array MapEntry) (clock : Nat) (es : List (Int × β)), h r = some (.map E clock) ∧ MapKept.Stamped E clock ∧ E.toList.map (fun e => (e.key, e.val)) = es.map (fun p : Int × β => (Value.int .i64 p.1, MV.venc p.2)) ∧ es.Perm m.es
instance {β : Type} [MV β] : GT (MapS β) where
 sz := 1
 rep h cs m := ∃ v, cs = [v] ∧ ((v = .map none ∧ m.es = []) ∨ ∃ r, v = .map (some r) ∧ mapAt h r m)
 own F h cs m := ∃ v, cs = [v] ∧ ((v = .map none ∧ m.es = []) ∨ ∃ r, v = .map (some r) ∧ F r ∧ mapAt h r m)
 len := by rintro h cs m ⟨v, rfl, _⟩; rfl
 mono := by
  rintro h h' cs m hh ⟨v, rfl, hr⟩
  refine ⟨v, rfl, ?_⟩
  rcases hr with hr | ⟨r, hv, E, c, es, h1, h2⟩
  ·exact .inl hr
  ·exact .inr ⟨r, hv, E, c, es, hh _ _ h1, h2⟩
 own_rep := by
  rintro F h cs m ⟨v, rfl, hr⟩
  refine ⟨v, rfl, ?_⟩
  rcases hr with hr | ⟨r, hv, _, h1⟩
  ·exact .inl hr
  ·exact .inr ⟨r, hv, h1⟩
 own_loc := by
  rintro F h h' cs m ⟨v, rfl, hr⟩ hh
  refine ⟨v, rfl, ?_⟩
  rcases hr with hr | ⟨r, hv, hF, E, c, es, h1, h2⟩
  ·exact .inl hr
  ·exact .inr ⟨r, hv, hF, E, c, es, (hh r hF).trans h1, h2⟩
 own_mono := by
  rintro F F' h cs m hF ⟨v, rfl, hr⟩
  refine ⟨v, rfl, ?_⟩
  rcases hr with hr | ⟨r, hv, h1, h2⟩
  ·exact .inl hr
  ·exact .inr ⟨r, hv, hF r h1, h2⟩
 one := by
  rintro h cs m ⟨v, rfl, hr⟩ u hu
  simp at hu
  subst hu
  rcases hr with ⟨rfl, _⟩ | ⟨r, rfl, _⟩ <;> rfl
section
variable {β : Type} [MV β] {P : Program} {a : Act} {w w0 : World} {hz : Heap} {L : List Ch} {o : Oper} {n : Nat} {l : Env} {x y z : Operand} {t kt vt : TypeId} {r : Nat} {m : MapS β} {v : Value}
theorem rep_map {h : Heap} : GT.rep h [v] m ↔ ((v = .map none ∧ m.es = []) ∨ ∃ r, v = .map (some r) ∧ mapAt h r m) := by
 constructor
 ·rintro ⟨u, hu, hr⟩; simp at hu; subst hu; exact hr
 ·intro hr; exact ⟨v, rfl, hr⟩
theorem own_map {F : Nat → Prop} {h : Heap} : GT.own F h [v] m ↔ ((v = .map none ∧ m.es = []) ∨ ∃ r, v = .map (some r) ∧ F r ∧ mapAt h r m) := by
 constructor
 ·rintro ⟨u, hu, hr⟩; simp at hu; subst hu; exact hr
 ·intro hr; exact ⟨v, rfl, hr⟩
theorem mapS_at {F : Nat → Prop} {h : Heap} (ho : GT.own F h [.map (some r)] m) : F r ∧ mapAt h r m := by
 rcases own_map.1 ho with ⟨e, _⟩ | ⟨r', e, h1, h2⟩
 ·cases e
 ·cases e; exact ⟨h1, h2⟩
theorem keys_nodup {E : Array MapEntry} {es : List (Int × β)} (hE : E.toList.map (fun e => (e.key, e.val)) = es.map (fun p => (Value.int .i64 p.1, MV.venc p.2))) (hp : es.Perm m.es) : (es.map (·.1)).Nodup := (hp.map _).nodup_iff.2 m.nodup
theorem e_mkS (hm : Mem w0 hz w L) (ho : o.op = .makeMap t none) :
  Ef P a w o (fun v w' => ∃ r, v = .map (some r) ∧ Mem w0 hz w' (ow [.map (some r)] (MapS.mk0 : MapS β) :: L)) :=
 ef_value (w' := w.alloc (.map #[] 0)) (v := .map (some w.heap.size)) (by simp [execOp, ho, Instr.makeMap])
  ⟨_, rfl, hm.more ⟨rfl, rfl, rfl, by simp⟩ (fun b hb => Below.heap_alloc w _ b hb) ⟨fun b => b = w.heap.size, fun b hb => by subst hb; simp, own_map.2 (.inr ⟨_, rfl, rfl, #[], 0, [], heap_alloc_new w _, MapKept.stamped_empty 0, by simp, .nil⟩)⟩⟩
theorem y_lookS {key : Int} {zv : Value} (hK : P.underlying kt = some (.int .i64)) (ht : P.underlying t = some (.map kt vt)) (hz0 : ∀ w, (zeroValue vt).run P w = .ok zv w) (hr : GT.rep (hp w) [v] m) (ho : o.op = .lookup t x y false)
  (hx : ev l x = some v) (hy : ev l y = some (.int .i64 key)) : Yl P l w o ((m.get key).elim zv MV.venc) := fun n a hf => by
 rcases rep_map.1 hr with ⟨rfl, he⟩ | ⟨r, rfl, E, clock, es, h1, h2, h3, h4⟩
 ·have hc := (key_int hK).check 9999 true key w
  have hf2 := run_findKey (venc := MV.venc (β := β)) (key_int hK) (E := []) (es := []) rfl key w
  simp only [execOp, ho, hf.eval hx, hf.eval hy, Instr.lookup]
  simp [run_underlying ht, hc, hf2, hz0, MapS.get, he, lookM, findIx]
 ·have hf2 := run_findKey (key_int hK) h3 key w
  have hc := (key_int hK).check 9999 E.isEmpty key w
  simp only [execOp, ho, hf.eval hx, hf.eval hy, Instr.lookup]
  simp [run_underlying ht, MapKept.run_getObj_map h1, hc, hf2]
  unfold MapS.get
  rw [← lookM_perm h4 m.nodup]
  unfold lookM
  cases findIx key es 0 with
  | none => simp [hz0]
  | some q => simp
theorem y_lenS (ht : P.underlying t = some (.map kt vt)) (hr : GT.rep (hp w) [v] m) (ho : o.op = .call { callee := .builtin .len, args := #[x], argTypes := #[t] }) (hx : ev l x = some v) : Yl P l w o (.int .i64 m.len) := fun n a hf => by
 rcases rep_map.1 hr with ⟨rfl, he⟩ | ⟨r, rfl, E, clock, es, h1, h2, h3, h4⟩
 ·simp [execOp, ho, resolve, invoke, builtin, hf.eval hx, Builtin.len_, run_underlying ht, goInt, MapS.len, he]
 ·have hl : E.size = m.es.length := by
   have := congrArg List.length h3
   simp at this
   rw [this, h4.length_eq]
  simp [execOp, ho, resolve, invoke, builtin, hf.eval hx, Builtin.len_, run_underlying ht, goInt, MapS.len, MapKept.run_getObj_map h1, hl]
theorem run_insS {key : Int} {u : β} {E : Array MapEntry} {clock : Nat} {es : List (Int × β)} (hK : P.underlying kt = some (.int .i64)) (ht : P.underlying t = some (.map kt vt)) (hb : w.heap[r]? = some (.map E clock)) (hs : MapKept.Stamped E clock)
  (hE : E.toList.map (fun e => (e.key, e.val)) = es.map (fun p => (Value.int .i64 p.1, MV.venc p.2))) :
  ∃ E' clock', (Instr.mapUpdate t (.map (some r)) (.int .i64 key) (MV.venc u)).run P w = .ok () { w with heap := w.heap.setIfInBounds r (.map E' clock') } ∧ MapKept.Stamped E' clock' ∧ E'.toList.map (fun e => (e.key, e.val)) = (insM es key u).map (fun p => (Value.int .i64 p.1, MV.venc p.2)) := by
 have hf2 := run_findKey (key_int hK) hE key w
 have hc := (key_int hK).check 9999 false key w
 unfold insM
 cases hq : findIx key es 0 with
 | none =>
  rw [hq] at hf2
  refine ⟨E.push { key := .int .i64 key, val := MV.venc u, born := clock }, clock + 1, ?_, ?_, ?_⟩
  ·simp [Instr.mapUpdate, run_underlying ht, MapKept.run_getObj_map hb, hc, hf2, MapKept.run_setObj_map _ hb]
  ·refine MapKept.stamped_push hs fun e he h => ?_
   have h1 : (e.key, e.val) ∈ es.map (fun p => (Value.int .i64 p.1, MV.venc p.2)) := by rw [← hE]; exact List.mem_map.2 ⟨e, he, rfl⟩
   obtain ⟨p, hp, h2⟩ := List.mem_map.1 h1
   simp only [Prod.mk.injEq] at h2
   rw [h] at h2
   have : p.1 = key := by simpa using h2.1
   exact findIx_none.1 hq p hp this.symm
  ·simp [hE]
 | some q =>
  obtain ⟨i, v0⟩ := q
  rw [hq] at hf2
  obtain ⟨_, h3⟩ := findIx_some hq
  rw [Nat.sub_zero] at h3
  have hlen : E.toList.length = es.length := by have := congrArg List.length hE; simpa using this
  have hi := (List.getElem?_eq_some_iff.1 h3).1
  have hkey : (E[i]?).map (·.key) = some (.int .i64 key) := by
   have := congrArg (fun l => l[i]?) hE
   simp only [List.getElem?_map, h3, Option.map_some] at this
   cases he : E[i]? with
   | none => rw [← Array.getElem?_toList] at he; rw [he] at this; simp at this
   | some e => rw [← Array.getElem?_toList] at he; rw [he] at this; simp at this; simp [this.1]
  refine ⟨E.modify i fun e => { e with key := .int .i64 key, val := MV.venc u }, clock, ?_, ?_, ?_⟩
  ·simp [Instr.mapUpdate, run_underlying ht, MapKept.run_getObj_map hb, hc, hf2, hkey, Instr.keyThatStays, (key_int hK).bits, MapKept.run_setObj_map _ hb]
  ·refine MapKept.stamped_modify hs i _ (fun _ _ => rfl) fun e _ he => ?_
   rw [he] at hkey
   simpa using hkey.symm
  ·apply List.ext_getElem?
   intro j
   have hj := congrArg (fun l => l[j]?) hE
   simp only [List.getElem?_map] at hj
   simp only [List.getElem?_map, Array.getElem?_toList, Array.getElem?_modify, List.getElem?_set]
   by_cases e : i = j
   ·subst e
    simp only [if_true, hi]
    have : i < E.size := by simpa using (by rw [← hlen] at hi; exact hi : i < E.toList.length)
    simp [this]
   ·simp only [e, if_false]
    rw [← hj, Array.getElem?_toList]
theorem e_insS {key : Int} {u : β} {b : Bool} (k : Nat) (hK : P.underlying kt = some (.int .i64)) (ht : P.underlying t = some (.map kt vt)) (hf : Fr n l a) (hm : Mem w0 hz w L) (hk : L[k]? = some (ow [.map (some r)] m)) (ho : o.op = if b then .insert t x y z else .mapUpdate t x y z)
  (hx : ev l x = some (.map (some r))) (hy : ev l y = some (.int .i64 key)) (hv : ev l z = some (MV.venc u)) :
  Ef P a w o (fun _ w' => Mem w0 hz w' (L.set k (ow [.map (some r)] (m.ins key u)))) := by
 obtain ⟨F0, hF0, _⟩ := hm.get k hk
 obtain ⟨_, E, clock, es, h1, h2, h3, h4⟩ := mapS_at hF0
 obtain ⟨E', clock', h5, h6, h7⟩ := run_insS (u := u) hK ht h1 h2 h3 (key := key)
 have hlt := (Array.getElem?_eq_some_iff.1 h1).1
 refine ef_skip (w' := { w with heap := w.heap.setIfInBounds r (.map E' clock') }) ?_ ?_
 ·cases b <;> simp [execOp, ho, hf.eval hx, hf.eval hy, hf.eval hv, h5]
 ·refine hm.upd k hk ⟨rfl, rfl, rfl, by simp⟩ fun F hF hFw => ⟨F, fun _ h => .inl h, fun c hc => by simpa using hFw c hc, own_map.2 (.inr ⟨r, rfl, (mapS_at hF).1, E', clock', insM es key u, ?_, h6, h7, ?_⟩), fun c _ hne => ?_⟩
  ·simp [hp, hlt]
  ·refine (insM_perm (keys_nodup h3 h4)).trans (List.Perm.trans ?_ (m.ins_perm key u))
   exact (h4.filter _).cons _
  ·have : r ≠ c := fun e => hne (by subst e; exact (mapS_at hF).1)
   simp [Array.getElem?_setIfInBounds, this]
theorem e_delS {key : Int} (k : Nat) (hK : P.underlying kt = some (.int .i64)) (ht : P.underlying t = some (.map kt vt)) (hf : Fr n l a) (hm : Mem w0 hz w L) (hk : L[k]? = some (ow [.map (some r)] m)) {ts : Array TypeId} (hts : ts[0]? = some t)
  (ho : o.op = .call { callee := .builtin .delete, args := #[x, y], argTypes := ts }) (hx : ev l x = some (.map (some r))) (hy : ev l y = some (.int .i64 key)) :
  Ef P a w o (fun _ w' => Mem w0 hz w' (L.set k (ow [.map (some r)] (m.del key)))) := by
 obtain ⟨F0, hF0, _⟩ := hm.get k hk
 obtain ⟨_, E, clock, es, h1, h2, h3, h4⟩ := mapS_at hF0
 have hlt := (Array.getElem?_eq_some_iff.1 h1).1
 have hf2 := run_findKey (key_int hK) h3 key w
 have hc := (key_int hK).check 9999 E.isEmpty key w
 have hn := keys_nodup h3 h4
 have fin : ∀ (E' : Array MapEntry) (es' : List (Int × β)), MapKept.Stamped E' clock → E'.toList.map (fun e => (e.key, e.val)) = es'.map (fun p => (Value.int .i64 p.1, MV.venc p.2)) → es' = es.filter (fun p => decide (p.1 ≠ key)) →
   Mem w0 hz { w with heap := w.heap.setIfInBounds r (.map E' clock) } (L.set k (ow [.map (some r)] (m.del key))) := fun E' es' h6 h7 h8 => by
  refine hm.upd k hk ⟨rfl, rfl, rfl, by simp⟩ fun F hF hFw => ⟨F, fun _ h => .inl h, fun c hc => by simpa using hFw c hc, own_map.2 (.inr ⟨r, rfl, (mapS_at hF).1, E', clock, es', ?_, h6, h7, ?_⟩), fun c _ hne => ?_⟩
  ·simp [hp, hlt]
  ·rw [h8]; exact h4.filter _
  ·have : r ≠ c := fun e => hne (by subst e; exact (mapS_at hF).1)
   simp [Array.getElem?_setIfInBounds, this]
 cases hq : findIx key es 0 with
 | none =>
  rw [hq] at hf2
  refine ef_value (v := .tuple #[]) (w' := { w with heap := w.heap.setIfInBounds r (.map E clock) }) ?_ (fin E es h2 h3 ?_)
  ·simp [execOp, ho, resolve, invoke, builtin, hf.eval hx, hf.eval hy, Builtin.delete_, hts, run_underlying ht, MapKept.run_getObj_map h1, hc, hf2, MapKept.run_setObj_map _ h1]
  ·exact (List.filter_eq_self.2 fun q hq' => by
    have : q.1 ≠ key := fun e => findIx_none.1 hq q hq' e.symm
    simpa using this).symm
 | some q =>
  obtain ⟨i, v0⟩ := q
  rw [hq] at hf2
  obtain ⟨_, h5⟩ := findIx_some hq
  rw [Nat.sub_zero] at h5
  have hlen : E.toList.length = es.length := by have := congrArg List.length h3; simpa using this
  have hi := (List.getElem?_eq_some_iff.1 h5).1
  refine ef_value (v := .tuple #[]) (w' := { w with heap := w.heap.setIfInBounds r (.map (E.eraseIdxIfInBounds i) clock) }) ?_ (fin _ (es.eraseIdx i) (MapKept.stamped_erase h2 i) ?_ (erase_perm hn h5))
  ·simp [execOp, ho, resolve, invoke, builtin, hf.eval hx, hf.eval hy, Builtin.delete_, hts, run_underlying ht, MapKept.run_getObj_map h1, hc, hf2, MapKept.run_setObj_map _ h1]
  ·have : i < E.size := by simpa using (by rw [← hlen] at hi; exact hi : i < E.toList.length)
   rw [Array.eraseIdxIfInBounds, dif_pos this]
   simp only [Array.toList_eraseIdx, erase_map, h3]
def owm (v : Value) (m : MapS β) : Ch where
 pr F h := ∃ r, v = .map (some r) ∧ F r ∧ mapAt h r m
 loc := fun F h h' ⟨r, hv, hF, E, c, es, h1, h2⟩ hh => ⟨r, hv, hF, E, c, es, (hh r hF).trans h1, h2⟩
 mono := fun F F' h ⟨r, hv, h1, h2⟩ hF => ⟨r, hv, hF r h1, h2⟩
theorem own_owm {F : Nat → Prop} {h : Heap} (ho : (owm v m).pr F h) : GT.own F h [v] m := own_map.2 (.inr ho)
theorem owm_own {F : Nat → Prop} {h : Heap} (ho : GT.own F h [.map (some r)] m) : (owm (.map (some r)) m).pr F h := ⟨r, rfl, mapS_at ho⟩
theorem Mem.owm_ow (hm : Mem w0 hz w L) (k : Nat) (hk : L[k]? = some (owm v m)) : Mem w0 hz w (L.set k (ow [v] m)) := hm.imp k hk fun _ h => own_owm h
theorem Mem.owm_rep (hm : Mem w0 hz w L) (k : Nat) (hk : L[k]? = some (owm v m)) : GT.rep (hp w) [v] m := by
 obtain ⟨F, hF, _⟩ := hm.get k hk
 exact GT.own_rep (own_owm hF)
theorem owm_form (hm : Mem w0 hz w L) (k : Nat) (hk : L[k]? = some (owm v m)) : ∃ r, v = .map (some r) := by
 obtain ⟨F, ⟨r, h, _⟩, _⟩ := hm.get k hk
 exact ⟨r, h⟩
theorem set_set {α : Type} (l : List α) (k : Nat) (x y : α) : (l.set k x).set k y = l.set k y := by simp
theorem e_mkM (hm : Mem w0 hz w L) (ho : o.op = .makeMap t none) : Ef P a w o (fun v w' => Mem w0 hz w' (owm v (MapS.mk0 : MapS β) :: L)) := fun K Q hk =>
 e_mkS (β := β) hm ho K Q fun v w' ⟨r, hv, hm'⟩ => hk v w' (by subst hv; exact hm'.imp 0 rfl fun _ h => owm_own h)
theorem e_insM {key : Int} {u : β} {b : Bool} (k : Nat) (hK : P.underlying kt = some (.int .i64)) (ht : P.underlying t = some (.map kt vt)) (hf : Fr n l a) (hm : Mem w0 hz w L) (hk : L[k]? = some (owm v m)) (ho : o.op = if b then .insert t x y z else .mapUpdate t x y z)
  (hx : ev l x = some v) (hy : ev l y = some (.int .i64 key)) (hv : ev l z = some (MV.venc u)) : Ef P a w o (fun _ w' => Mem w0 hz w' (L.set k (owm v (m.ins key u)))) := by
 obtain ⟨r, rfl⟩ := owm_form hm k hk
 have hlt := (List.getElem?_eq_some_iff.1 hk).1
 have hk' : (L.set k (ow [.map (some r)] m))[k]? = some (ow [.map (some r)] m) := List.getElem?_set_self hlt
 intro K Q hkk
 refine e_insS (u := u) k hK ht hf (hm.owm_ow k hk) hk' ho hx hy hv K Q fun v' w' h => hkk v' w' ?_
 rw [set_set] at h
 have := h.imp (c' := owm (.map (some r)) (m.ins key u)) k (List.getElem?_set_self hlt) fun _ h => owm_own h
 rwa [set_set] at this
theorem e_delM {key : Int} (k : Nat) (hK : P.underlying kt = some (.int .i64)) (ht : P.underlying t = some (.map kt vt)) (hf : Fr n l a) (hm : Mem w0 hz w L) (hk : L[k]? = some (owm v m)) {ts : Array TypeId} (hts : ts[0]? = some t)
  (ho : o.op = .call { callee := .builtin .delete, args := #[x, y], argTypes := ts }) (hx : ev l x = some v) (hy : ev l y = some (.int .i64 key)) : Ef P a w o (fun _ w' => Mem w0 hz w' (L.set k (owm v (m.del key)))) := by
 obtain ⟨r, rfl⟩ := owm_form hm k hk
 have hlt := (List.getElem?_eq_some_iff.1 hk).1
 have hk' : (L.set k (ow [.map (some r)] m))[k]? = some (ow [.map (some r)] m) := List.getElem?_set_self hlt
 intro K Q hkk
 refine e_delS k hK ht hf (hm.owm_ow k hk) hk' hts ho hx hy K Q fun v' w' h => hkk v' w' ?_
 rw [set_set] at h
 have := h.imp (c' := owm (.map (some r)) (m.del key)) k (List.getElem?_set_self hlt) fun _ h => owm_own h
 rwa [set_set] at this
end
end Go.Wk
namespace Go.Wk
open Go Go.RowKit
def oc (b : Nat) (o : Obj) : Ch where
 pr F h := F b ∧ h b = some o
 loc _ _ _ hp hh := ⟨hp.1, (hh b hp.1).trans hp.2⟩
 mono _ _ _ hp hF := ⟨hF b hp.1, hp.2⟩
section
variable {α S : Type}
def rangeM (body : α → S → Option S) : List α → S → Option S
 | [], s => some s
 | p :: es, s => Option.bind (body p s) (rangeM body es)
def Comm (body : α → S → Option S) : Prop := ∀ p q s, Option.bind (body p s) (body q) = Option.bind (body q s) (body p)
theorem rangeM_perm {body : α → S → Option S} (hc : Comm body) {es es' : List α} (hp : es.Perm es') : ∀ s, rangeM body es s = rangeM body es' s := by
 induction hp with
 | nil => intro s; rfl
 | cons x _ ih => intro s; simp only [rangeM]; congr 1; funext t; exact ih t
 | swap x y l =>
  intro s
  simp only [rangeM]
  have := hc y x s
  have e1 : ∀ (o : Option S) (f : S → Option S) (g : S → Option S), Option.bind o (fun t => Option.bind (f t) g) = Option.bind (Option.bind o f) g := fun o f g => by cases o <;> rfl
  show Option.bind (body y s) (fun t => Option.bind (body x t) (rangeM body l)) = Option.bind (body x s) (fun t => Option.bind (body y t) (rangeM body l))
  rw [e1, e1, this]
 | trans _ _ ih1 ih2 => intro s; exact (ih1 s).trans (ih2 s)
theorem rangeM_append {body : α → S → Option S} : ∀ (es fs : List α) (s : S), rangeM body (es ++ fs) s = Option.bind (rangeM body es s) (rangeM body fs)
 | [], fs, s => rfl
 | p :: es, fs, s => by
  simp only [List.cons_append, rangeM]
  cases body p s with
  | none => rfl
  | some t => exact rangeM_append es fs t
end
theorem left_push (E : Array MapEntry) (seen : Array Nat) (b : Nat) : (leftOf E (seen.push b)).toList = ((leftOf E seen).toList).filter (fun x => x.born != b) := by
 unfold leftOf
 simp only [Array.toList_filter, List.filter_filter]
 apply List.filter_congr
 intro x _
 rw [Bool.eq_iff_iff]
 simp
 exact And.comm
theorem born_perm {e : MapEntry} : ∀ {l : List MapEntry}, (l.map (·.born)).Nodup → e ∈ l → l.Perm (e :: l.filter (fun x => x.born != e.born))
 | [], _, h => by simp at h
 | x :: l, hn, h => by
  rw [List.map_cons, List.nodup_cons] at hn
  rcases List.mem_cons.1 h with rfl | h
  ·have : l.filter (fun x => x.born != e.born) = l := List.filter_eq_self.2 fun y hy => by
    have : y.born ≠ e.born := fun h' => hn.1 (List.mem_map.2 ⟨y, hy, h'⟩)
    simpa using this
   simp [this]
  ·have hne : x.born ≠ e.born := fun h' => hn.1 (List.mem_map.2 ⟨e, h, h'.symm⟩)
   rw [List.filter_cons, if_pos (by simpa using hne)]
   exact ((born_perm hn.2 h).cons x).trans (List.Perm.swap _ _ _)
section
variable {β S : Type} [MV β]
noncomputable def dec (e : MapEntry) (z : Int × β) : Int × β := by
 classical exact if h : ∃ p : Int × β, (e.key, e.val) = (Value.int .i64 p.1, MV.venc p.2) then h.choose else z
theorem dec_eq {e : MapEntry} {z p : Int × β} (h : (e.key, e.val) = (Value.int .i64 p.1, MV.venc p.2)) : dec e z = p := by
 have hex : ∃ p : Int × β, (e.key, e.val) = (Value.int .i64 p.1, MV.venc p.2) := ⟨p, h⟩
 unfold dec
 rw [dif_pos hex]
 have h2 := h.symm.trans hex.choose_spec
 generalize hex.choose = q at h2 ⊢
 simp only [Prod.mk.injEq, Value.int.injEq, true_and] at h2
 exact Prod.ext h2.1.symm (MV.inj _ _ h2.2.symm)
theorem wp_range {P : Program} {c : Code} {Q : Exit → Act → World → Prop} {a : Act} {w : World} (body : Int × β → S → Option S) (hcomm : Comm body) {m : MapS β} {E : Array MapEntry} {clock : Nat} {es : List (Int × β)}
  (hst : MapKept.Stamped E clock) (hE : E.toList.map (fun e => (e.key, e.val)) = es.map (fun p => (Value.int .i64 p.1, MV.venc p.2))) (hes : es.Perm m.es) (J : Array Nat → S → Act → World → Prop) {s0 r : S}
  (hx : rangeM body m.es s0 = some r) (h0 : J #[] s0 a w)
  (hr : ∀ seen s a w, J seen s a w → (leftOf E seen).size ≠ 0 → (∀ e ∈ (leftOf E seen).toList, ∃ p s', (e.key, e.val) = (Value.int .i64 p.1, MV.venc p.2) ∧ body p s = some s') →
   c.wk P (Exit.then (fun a' w' => ∃ e ∈ (leftOf E seen).toList, ∃ p s', (e.key, e.val) = (Value.int .i64 p.1, MV.venc p.2) ∧ body p s = some s' ∧ J (seen.push e.born) s' a' w') Q) a w)
  (he : ∀ seen a w, J seen r a w → (leftOf E seen).size = 0 → c.wk P (Exit.then (fun _ _ => False) Q) a w) : (Code.loop c).wk P Q a w := by
 have hmem : ∀ e ∈ E.toList, ∃ p : Int × β, (e.key, e.val) = (Value.int .i64 p.1, MV.venc p.2) := fun e h => by
  have h1 : (e.key, e.val) ∈ es.map (fun p => (Value.int .i64 p.1, MV.venc p.2)) := by rw [← hE]; exact List.mem_map.2 ⟨e, h, rfl⟩
  obtain ⟨p, _, h2⟩ := List.mem_map.1 h1
  exact ⟨p, h2.symm⟩
 rcases Nat.eq_zero_or_pos E.size with hz | hz
 ·have hE0 : E = #[] := Array.eq_empty_of_size_eq_zero hz
  subst hE0
  have : es = [] := by simpa using hE.symm
  subst this
  have hm0 : m.es = [] := List.nil_perm.1 hes
  rw [hm0] at hx
  simp only [rangeM, Option.some.injEq] at hx
  subst hx
  refine wp_forN (S := Unit) (X := Empty) (fun _ _ => some (.inl ())) (fun _ _ a w => J #[] s0 a w) 0 0 (s0 := ()) (r := .inl ()) rfl h0 (fun _ _ _ _ _ h1 h2 => by omega) (fun _ _ a w hJ _ _ _ => he #[] a w hJ (by simp [leftOf]))
 ·obtain ⟨e0, hl0⟩ : ∃ e, e ∈ E.toList := ⟨E[0], by simp⟩
  obtain ⟨z, _⟩ := hmem e0 hl0
  have hes' : E.toList.map (fun e => dec e z) = es := by
   have h1 : ∀ (l : List MapEntry) (fs : List (Int × β)), l.map (fun e => (e.key, e.val)) = fs.map (fun p => (Value.int .i64 p.1, MV.venc p.2)) → l.map (fun e => dec e z) = fs := by
    intro l
    induction l with
    | nil => intro fs h; simpa using h.symm
    | cons e l ih =>
     intro fs h
     cases fs with
     | nil => simp at h
     | cons p fs =>
      rw [List.map_cons, List.map_cons, List.cons.injEq] at h
      rw [List.map_cons, dec_eq h.1, ih fs h.2]
   exact h1 _ _ hE
  have hfor : ∀ k (i : Int), forN (S := Unit) (X := Empty) (fun _ _ => some (.inl ())) k i () = some (.inl ()) := by
   intro k
   induction k with
   | zero => intro i; rfl
   | succ k ih => intro i; simp only [forN]; exact ih _
  have hleft : ∀ (seen : Array Nat) e, e ∈ (leftOf E seen).toList → e ∈ E.toList := fun seen e h => (mem_left h).1
  have hnd : ∀ seen : Array Nat, ((leftOf E seen).toList.map (·.born)).Nodup := fun seen => by
   unfold leftOf
   rw [Array.toList_filter]
   exact (List.filter_sublist.map _).nodup hst.2.1
  refine wp_forN (S := Unit) (X := Empty) (fun _ _ => some (.inl ())) (fun i _ a w => ∃ seen s, J seen s a w ∧ ∃ dn : List (Int × β), (dn.length : Int) = i ∧ rangeM body dn s0 = some s ∧ (dn ++ (leftOf E seen).toList.map (fun e => dec e z)).Perm m.es) 0 (E.size : Int) (s0 := ()) (r := .inl ()) (hfor _ _) ?_ ?_ ?_
  ·refine ⟨#[], s0, h0, [], rfl, rfl, ?_⟩
   have : (leftOf E #[]).toList = E.toList := by unfold leftOf; rw [Array.toList_filter]; exact List.filter_eq_self.2 fun x _ => by simp
   rw [List.nil_append, this, hes']
   exact hes
  ·rintro i _ a w ⟨seen, s, hJ, dn, h1, h2, h3⟩ hi0 hi1 q hq _
   cases hq
   have hlen := h3.length_eq
   rw [← hes.length_eq, ← hes'] at hlen
   simp at hlen
   have hne : (leftOf E seen).size ≠ 0 := by omega
   have hall : ∀ e ∈ (leftOf E seen).toList, ∃ p s', (e.key, e.val) = (Value.int .i64 p.1, MV.venc p.2) ∧ body p s = some s' := fun e hle => by
    obtain ⟨p, hp⟩ := hmem e (hleft _ _ hle)
    have hp1 := born_perm (hnd seen) hle
    have hp2 : (dn ++ (p :: ((leftOf E seen).toList.filter (fun x => x.born != e.born)).map (fun e => dec e z))).Perm m.es := by
     refine List.Perm.trans (List.Perm.append_left _ ?_) h3
     have := (hp1.map (fun e => dec e z)).symm
     rw [List.map_cons, dec_eq hp] at this
     exact this
    have hx2 : rangeM body (dn ++ (p :: ((leftOf E seen).toList.filter (fun x => x.born != e.born)).map (fun e => dec e z))) s0 = some r := by rw [rangeM_perm hcomm hp2]; exact hx
    rw [rangeM_append, h2, Option.bind_some] at hx2
    simp only [rangeM] at hx2
    cases hb : body p s with
    | none => rw [hb] at hx2; cases hx2
    | some s' => exact ⟨p, s', hp, hb⟩
   refine Code.wk_mono (fun ex a' w' h => ?_) (hr seen s a w hJ hne hall)
   cases ex with
   | normal =>
    obtain ⟨e, hle, p, s', hp, hb, hJ'⟩ := h
    refine ⟨(), rfl, seen.push e.born, s', hJ', dn ++ [p], by simp; omega, by rw [rangeM_append, h2, Option.bind_some]; simp [rangeM, hb], ?_⟩
    rw [left_push, List.append_assoc]
    refine List.Perm.trans (List.Perm.append_left _ ?_) h3
    have := ((born_perm (hnd seen) hle).map (fun e => dec e z)).symm
    rw [List.map_cons, dec_eq hp] at this
    exact this
   | _ => exact h
  ·rintro i _ a w ⟨seen, s, hJ, dn, h1, h2, h3⟩ hi0 hi1 _
   have hlen := h3.length_eq
   rw [← hes.length_eq, ← hes'] at hlen
   simp at hlen
   have hne : (leftOf E seen).size = 0 := by omega
   have hl : (leftOf E seen).toList = [] := by simpa using Array.eq_empty_of_size_eq_zero hne
   rw [hl, List.map_nil, List.append_nil] at h3
   have : s = r := by
    rw [rangeM_perm hcomm h3, hx] at h2
    exact (Option.some.inj h2).symm
   subst this
   exact he seen a w hJ hne
end
section
variable {β S : Type} [MV β] {P : Program} {ops : Array Oper} {a : Act} {w w0 : World} {hz : Heap} {L : List Ch} {o : Oper} {n d : Nat} {l : Env} {x : Operand} {t kt vt ty : TypeId} {v : Value} {m : MapS β} {b : Nat} {seen : Array Nat}
def itc (hz : Heap) (v : Value) (b : Nat) (seen : Array Nat) : Ch where
 pr F h := F b ∧ ((v = .map none ∧ h b = some (.mapIter none 0 seen 0)) ∨ ∃ r E clock, v = .map (some r) ∧ hz r = some (.map E clock) ∧ h b = some (.mapIter (some r) clock seen clock))
 loc F h h' hp hh := ⟨hp.1, by rw [hh b hp.1]; exact hp.2⟩
 mono F F' h hp hF := ⟨hF b hp.1, hp.2⟩
theorem e_rangeS (hf : Fr n l a) (hm : Mem w0 hz w L) (ht : P.underlying t = some (.map kt vt)) (hr : GT.rep hz [v] m) (ho : o.op = .range t x) (hx : ev l x = some v) :
  Ef P a w o (fun v' w' => ∃ b, v' = .pointer (some ⟨b, 0, none⟩) ∧ Mem w0 hz w' (itc hz v b #[] :: L)) := by
 rcases rep_map.1 hr with ⟨rfl, he⟩ | ⟨r, rfl, E, clock, es, h1, h2, h3, h4⟩
 ·refine ef_value (w' := w.alloc (.mapIter none 0 #[] 0)) (v := .pointer (some ⟨w.heap.size, 0, none⟩)) ?_ ⟨_, rfl, hm.more ⟨rfl, rfl, rfl, by simp⟩ (fun b hb => Below.heap_alloc w _ b hb) ⟨fun b => b = w.heap.size, fun b hb => by subst hb; simp, rfl, .inl ⟨rfl, heap_alloc_new w _⟩⟩⟩
  simp [execOp, ho, hf.eval hx, Instr.range, run_underlying ht]
 ·refine ef_value (w' := w.alloc (.mapIter (some r) clock #[] clock)) (v := .pointer (some ⟨w.heap.size, 0, none⟩)) ?_ ⟨_, rfl, hm.more ⟨rfl, rfl, rfl, by simp⟩ (fun b hb => Below.heap_alloc w _ b hb) ⟨fun b => b = w.heap.size, fun b hb => by subst hb; simp, rfl, .inr ⟨r, E, clock, rfl, h1, heap_alloc_new w _⟩⟩⟩
  have hb : w.heap[r]? = some (.map E clock) := hm.lez _ _ h1
  simp [execOp, ho, hf.eval hx, Instr.range, run_underlying ht, MapKept.run_getObj_map hb]
def More (hz : Heap) (v : Value) (seen : Array Nat) (body : Int × β → S → Option S) (s : S) : Prop :=
 ∃ r E clock, v = .map (some r) ∧ hz r = some (.map E clock) ∧ MapKept.Stamped E clock ∧ (leftOf E seen).size ≠ 0 ∧ ∀ e ∈ (leftOf E seen).toList, ∃ p s', (e.key, e.val) = (Value.int .i64 p.1, MV.venc p.2) ∧ body p s = some s'
def NoMore (hz : Heap) (v : Value) (seen : Array Nat) : Prop :=
 v = .map none ∨ ∃ r E clock, v = .map (some r) ∧ hz r = some (.map E clock) ∧ MapKept.Stamped E clock ∧ (leftOf E seen).size = 0
def Got (hz : Heap) (v : Value) (seen : Array Nat) (bn : Nat) (p : Int × β) : Prop :=
 ∃ r E clock e, v = .map (some r) ∧ hz r = some (.map E clock) ∧ MapKept.Stamped E clock ∧ e ∈ (leftOf E seen).toList ∧ bn = e.born ∧ (e.key, e.val) = (Value.int .i64 p.1, MV.venc p.2)
def Rnd (hz : Heap) (v : Value) (seen : Array Nat) (body : Int × β → S → Option S) (s : S) (J : Array Nat → S → Act → World → Prop) (a : Act) (w : World) : Prop :=
 ∃ bn p s', Got hz v seen bn p ∧ body p s = some s' ∧ J (seen.push bn) s' a w
theorem itc_at (hm : Mem w0 hz w L) (q : Nat) (hq : L[q]? = some (itc hz v b seen)) : (v = .map none ∧ w.heap[b]? = some (.mapIter none 0 seen 0)) ∨ ∃ r E clock, v = .map (some r) ∧ hz r = some (.map E clock) ∧ w.heap[r]? = some (.map E clock) ∧ w.heap[b]? = some (.mapIter (some r) clock seen clock) := by
 obtain ⟨F, hF, _⟩ := hm.get q hq
 rcases hF.2 with h | ⟨r, E, clock, h1, h2, h3⟩
 ·exact .inl h
 ·exact .inr ⟨r, E, clock, h1, h2, hm.lez _ _ h2, h3⟩
theorem e_nextS {body : Int × β → S → Option S} {s : S} (q : Nat) (hf : Fr n l a) (hm : Mem w0 hz w L) (hq : L[q]? = some (itc hz v b seen)) (hmo : More hz v seen body s) (ho : o.op = .next x false) (hx : ev l x = some (.pointer (some ⟨b, 0, none⟩))) :
  Ef P a w o (fun v' w' => ∃ bn p s', v' = .tuple #[.bool true, .int .i64 p.1, MV.venc p.2] ∧ body p s = some s' ∧ Got hz v seen bn p ∧ Mem w0 hz w' (L.set q (itc hz v b (seen.push bn)))) := by
 obtain ⟨r, E, clock, rfl, h1, h2, h3, h4⟩ := hmo
 rcases itc_at hm q hq with ⟨e, _⟩ | ⟨r', E', clock', e, g1, g2, g3⟩
 ·cases e
 cases e
 rw [h1] at g1
 cases g1
 rcases run_next_at (P := P) w o.type b r clock clock seen E clock g3 g2 h2.1 (Nat.le_refl _) with ⟨h0, _⟩ | ⟨e, he, w1, hw1, hrun⟩
 ·exact absurd h0 h3
 obtain ⟨p, s', hp, hb⟩ := h4 e he
 have hpk : e.key = .int .i64 p.1 := congrArg Prod.fst hp
 have hpv : e.val = MV.venc p.2 := congrArg Prod.snd hp
 refine ef_value (v := .tuple #[.bool true, e.key, e.val]) (w' := ChangeMaps.setBlock w1 b (.mapIter (some r) clock (seen.push e.born) clock)) (by simp [execOp, ho, hf.eval hx, hrun]) ⟨e.born, p, s', by rw [hpk, hpv], hb, ⟨r, E, clock, e, rfl, h1, h2, he, rfl, hp⟩, ?_⟩
 have hlt := (Array.getElem?_eq_some_iff.1 g3).1
 have hheap : w1.heap = w.heap := by rcases hw1 with rfl | rfl <;> rfl
 have hsame : Same w (ChangeMaps.setBlock w1 b (.mapIter (some r) clock (seen.push e.born) clock)) :=
  ⟨by rcases hw1 with h | h <;> rw [h] <;> rfl, by rcases hw1 with h | h <;> rw [h] <;> rfl, by rcases hw1 with h | h <;> rw [h] <;> rfl, by simp [ChangeMaps.setBlock, hheap]⟩
 refine hm.upd q hq hsame fun F hF hFw => ⟨F, fun _ h => .inl h, fun c hc => by have := hFw c hc; simpa [ChangeMaps.setBlock, hheap] using this, ⟨hF.1, .inr ⟨r, E, clock, rfl, h1, ?_⟩⟩, fun c _ hne => ?_⟩
 ·simp [hp, ChangeMaps.setBlock, hheap, hlt, Go.Wk.hp]
 ·have : b ≠ c := fun e => hne (by subst e; exact hF.1)
  simp [ChangeMaps.setBlock, hheap, Array.getElem?_setIfInBounds, this]
theorem y_nextE (q : Nat) (hm : Mem w0 hz w L) (hq : L[q]? = some (itc hz v b seen)) (hno : NoMore hz v seen) (ho : o.op = .next x false) (hx : ev l x = some (.pointer (some ⟨b, 0, none⟩))) : Yl P l w o (.tuple #[.bool false]) := fun n a hf => by
 rcases itc_at hm q hq with ⟨e, g1⟩ | ⟨r', E', clock', e, g1, g2, g3⟩
 ·have : (Instr.next (.pointer (some ⟨b, 0, none⟩)) false o.type).run P w = .ok (.tuple #[.bool false]) w := by
   simp [Instr.next, getObj, Sem.run_bind, Sem.run, g1, Result.andThen]
  simp [execOp, ho, hf.eval hx, this]
 ·subst e
  rcases hno with e | ⟨r, E, clock, e, h1, h2, h3⟩
  ·cases e
  cases e
  rw [h1] at g1
  cases g1
  rcases run_next_at (P := P) w o.type b _ _ _ seen _ _ g3 g2 h2.1 (Nat.le_refl _) with ⟨_, hrun⟩ | ⟨e, he, _⟩
  ·simp [execOp, ho, hf.eval hx, hrun]
  ·have := Array.eq_empty_of_size_eq_zero h3
   rw [this] at he
   simp at he
theorem y_entryS {bn : Nat} {p : Int × β} (q : Nat) (hm : Mem w0 hz w L) (hq : L[q]? = some (itc hz v b (seen.push bn))) (hg : Got hz v seen bn p) (ho : o.op = .entry x) (hx : ev l x = some (.pointer (some ⟨b, 0, none⟩))) : Yl P l w o (.tuple #[.int .i64 p.1, MV.venc p.2]) := fun n a hf => by
 obtain ⟨r, E, clock, e, rfl, h1, h2, h3, rfl, h4⟩ := hg
 rcases itc_at hm q hq with ⟨e, _⟩ | ⟨r', E', clock', e', g1, g2, g3⟩
 ·cases e
 cases e'
 rw [h1] at g1
 cases g1
 have hpk : e.key = .int .i64 p.1 := congrArg Prod.fst h4
 have hpv : e.val = MV.venc p.2 := congrArg Prod.snd h4
 have := run_entry_at (P := P) w b r clock seen E clock e g3 g2 (mem_left h3).1 h2.2.1
 simp [execOp, ho, hf.eval hx, this, hpk, hpv]
variable {ρ : Type} {c : Code} {Q : Exit → Act → World → Prop} {r : ρ} {s0 : S}
theorem gRng {kk : S → Option ρ} {body : Int × β → S → Option S} (hcomm : Comm body) (hrep : GT.rep hz [v] m) (J : Array Nat → S → Act → World → Prop) (h0 : ∀ a, Fr n l a → J #[] s0 a w)
  (hr : ∀ seen s a w, J seen s a w → More hz v seen body s → c.wk P (Then (Rnd hz v seen body s J) Q) a w)
  (he : ∀ seen s a w, J seen s a w → NoMore hz v seen → kk s = some r → c.wk P (Then (fun _ _ => False) Q) a w) : G (Option.bind (rangeM body m.es s0) kk) r n l ((Code.loop c).wk P Q) w := fun hq a hf => by
 obtain ⟨s1, hx, hk⟩ := bnd hq
 rcases rep_map.1 hrep with ⟨rfl, hnil⟩ | ⟨rr, rfl, E, clock, es, h1, h2, h3, h4⟩
 ·rw [hnil] at hx
  simp only [rangeM, Option.some.injEq] at hx
  subst hx
  refine wp_forN (S := Unit) (X := Empty) (fun _ _ => some (.inl ())) (fun _ _ a w => J #[] s0 a w) 0 0 (s0 := ()) (r := .inl ()) rfl (h0 a hf) (fun _ _ _ _ _ h1 h2 => by omega) (fun _ _ a w hJ _ _ _ => Code.wk_mono then_of (he #[] s0 a w hJ (.inl rfl) hk))
 ·refine wp_range body hcomm h2 h3 h4 J hx (h0 a hf) (fun seen s a w hJ hne hall => ?_) (fun seen a w hJ hz0 => Code.wk_mono then_of (he seen s1 a w hJ (.inr ⟨rr, E, clock, rfl, h1, h2, hz0⟩) hk))
  refine Code.wk_mono (fun e a' w' h => ?_) (hr seen s a w hJ ⟨rr, E, clock, rfl, h1, h2, hne, hall⟩)
  cases e with
  | normal =>
   obtain ⟨bn, p, s', ⟨r2, E2, c2, e2, q1, q2, q3, q4, rfl, q6⟩, hb, hJ'⟩ := h
   cases q1
   rw [h1] at q2
   cases q2
   exact ⟨e2, q4, p, s', q6, hb, hJ'⟩
  | _ => exact h
theorem gSw {σ τ : Type} {m' : Option σ} {s' : σ} {mm : Option τ} {rr : τ} {φ : Act → World → Prop} (h : m' = some s') (k : G m' s' n l φ w) : G mm rr n l φ w := fun _ a hf => k h a hf
theorem gZr {body : Int × β → S → Option S} {s s2 s' : S} {bn : Nat} {p : Int × β} {J : Array Nat → S → Act → World → Prop} (hg : Got hz v seen bn p) (hb : body p s = some s') (k : ∀ a, Fr n l a → J (seen.push bn) s2 a w) : G (some s2) s' n l (Rnd hz v seen body s J) w := fun e a hf => by
 cases e
 exact ⟨bn, p, s2, hg, hb, k a hf⟩
theorem y_field1 {q e : Nat} {fs : Array Field} {f : Field} {cs : Array Value} {u : Value} (ht : P.underlying t = some (.struct fs)) (hq : fs[q]? = some f) (he : f.type = e) (ha : ∀ w, (isAgg e).run P w = .ok false w) (ho : o.op = .field t x q) (hx : ev l x = some (.agg cs)) (hv : cs[f.offset]? = some u) : Yl P l w o u := fun n a hf => by
 subst he
 simp [execOp, ho, hf.eval hx, Instr.field, run_underlying ht, hq, asAgg, part, ha, hv]
theorem ins_comm {β : Type} (m : MapS β) (a b : Int) (u : β) : (m.ins a u).ins b u = (m.ins b u).ins a u := by
 have key : ∀ (m1 m2 : MapS β), m1.es.Perm m2.es → m1 = m2 := fun m1 m2 h => by
  have : m1.es = m2.es := by
   have h1 := m1.so; have h2 := m2.so
   refine List.Perm.eq_of_pairwise (le := fun a b => a.1 < b.1) (fun x y _ _ h3 h4 => by omega) h1 h2 h
  cases m1; cases m2; simp at this; subst this; rfl
 by_cases e : a = b
 ·subst e; rfl
 refine key _ _ ?_
 have p1 := fun (m : MapS β) (k : Int) => (m.ins_perm k u).symm
 refine (p1 (m.ins a u) b).trans (List.Perm.trans ?_ (p1 (m.ins b u) a).symm)
 have q1 := ((p1 m a).filter (fun p => decide (p.1 ≠ b))).cons (b, u)
 have q2 := ((p1 m b).filter (fun p => decide (p.1 ≠ a))).cons (a, u)
 refine q1.trans (List.Perm.trans ?_ q2.symm)
 have ha : decide ((a, u).1 ≠ b) = true := by simpa using e
 have hb : decide ((b, u).1 ≠ a) = true := by simpa using Ne.symm e
 rw [List.filter_cons, if_pos ha, List.filter_cons, if_pos hb, List.filter_filter, List.filter_filter]
 have : (fun p : Int × β => decide (p.1 ≠ b) && decide (p.1 ≠ a)) = fun p => decide (p.1 ≠ a) && decide (p.1 ≠ b) := by funext p; exact Bool.and_comm _ _
 rw [this]
 exact List.Perm.swap _ _ _
theorem comm_ins {β γ : Type} {u : γ} : Comm (fun (p : Int × β) (s : MapS γ) => some (s.ins p.1 u)) := fun p q s => by
 show some ((s.ins p.1 u).ins q.1 u) = some ((s.ins q.1 u).ins p.1 u)
 rw [ins_comm]
end
end Go.Wk
namespace Go.Wk
open Go Go.RowKit Go.Shelf
def sortI (xs : List Int) : List Int := xs.mergeSort fun x y => decide (x ≤ y)
theorem sortI_len (xs : List Int) : (sortI xs).length = xs.length := List.length_mergeSort xs
section
variable {P : Program} {ρ : Ren} {w0 : World} {hz : Heap} {v : Value} {xs : List Int}
theorem getB {xs : List Int} {j : Nat} (h : j < xs.length) : xs.toArray[j]! = xs[j] := by
 rw [getElem!_pos _ _ (by simpa using h)]; simp
theorem row_new {w : World} {L : List Ch} {b off cap n : Nat} {os : Array Obj} {ys zs : List Int} {pre : Nat} (hm : Mem w0 hz w L) (k : Nat) (hk : L[k]? = some (ow [.slice (some ⟨b, off, none⟩) xs.length cap] xs)) (hz1 : zs.length = xs.length) (hy : ys <+: zs) :
  Mem w0 hz (Sort.grow (Sort.putRow (Value.int .i64) (Sort.ahead w n) b off zs.toArray) os) (L.set k (ow [.slice (some ⟨b, off, none⟩) ys.length cap] ys)) := by
 obtain ⟨F, hF, hFw⟩ := hm.get k hk
 have hF' : sliceOwn F (hp w) (.slice (some ⟨b, off, none⟩) xs.length cap) xs := own_list.1 hF
 rcases hF' with ⟨e, _⟩ | ⟨b', off', len', cap', C, T, e, hFb, hb, hl, hc, hmx, hsz, fps, g1, g2, g3⟩
 ·cases e
 cases e
 have hyl := hy.length_le
 have hsz' : off + cap ≤ C.size := by simpa [show GT.sz Int = 1 from rfl] using hsz
 have hbw : w.heap[b]? = some (.cells C T (0, 0)) := hb
 have hlt := (Array.getElem?_eq_some_iff.1 hbw).1
 have hnew : (Sort.grow (Sort.putRow (Value.int .i64) (Sort.ahead w n) b off zs.toArray) os).heap[b]? = some (.cells (Sort.putCells (Value.int .i64) off zs.toArray C) T (0, 0)) := by
  rw [Sort.heap_grow_old _ _ (by simpa [Sort.ahead] using hlt)]
  simp [Sort.putRow, Sort.mapBlock, Sort.ahead, Array.getElem?_modify, hbw, Sort.onCells]
 have hCs : (Sort.putCells (Value.int .i64) off zs.toArray C).size = C.size := by simp [Sort.putCells]
 have hF2b : ∀ F2, (ow [.slice (some ⟨b, off, none⟩) xs.length cap] xs).pr F2 (hp w) → F2 b := fun F2 hF2 => by
  have hF2' : sliceOwn F2 (hp w) (.slice (some ⟨b, off, none⟩) xs.length cap) xs := own_list.1 hF2
  rcases hF2' with ⟨e, _⟩ | ⟨b2, off2, len2, cap2, C2, T2, e, hFb2, _⟩
  ·cases e
  ·cases e; exact hFb2
 refine hm.upd k hk ⟨rfl, rfl, rfl, by simp [Sort.ahead]⟩ fun F2 hF2 hFw2 => ⟨fun c => c = b, fun c hc => by subst hc; exact .inl (hF2b F2 hF2), fun c hc => by subst hc; simp [Sort.ahead]; omega, own_list.2 (.inr ⟨b, off, ys.length, cap, Sort.putCells (Value.int .i64) off zs.toArray C, T, rfl, rfl, hnew, rfl, by omega, ⟨hmx.1, by omega⟩, by rw [hCs]; exact hsz, fun _ _ => False, fun _ _ h => h.elim, fun _ _ _ _ h => h.elim, fun i x hx => ?_⟩), fun c hc hne => ?_⟩
 ·have hi : i < ys.length := (List.getElem?_eq_some_iff.1 hx).1
  have hx2 : zs[i]? = some x := by
   obtain ⟨t, rfl⟩ := hy
   rw [List.getElem?_append_left hi]; exact hx
  have hi2 : i < zs.length := by omega
  have hx' : zs[i] = x := (List.getElem?_eq_some_iff.1 hx2).2
  refine Flat.own_iff.2 ?_
  show seg _ (off + i * 1) 1 = [.int .i64 x]
  have hc1 : (Sort.putCells (Value.int .i64) off zs.toArray C)[off + i]? = some (.int .i64 x) := by
   simp only [Sort.putCells, Array.getElem?_mapIdx]
   have : off + i < C.size := by omega
   rw [Array.getElem?_eq_getElem this, Option.map_some, if_pos ⟨by omega, by simp; omega⟩, show off + i - off = i by omega, getB hi2, hx']
  have hls : (seg (Sort.putCells (Value.int .i64) off zs.toArray C) (off + i * 1) 1).length = 1 := seg_len (by rw [hCs]; omega)
  apply List.ext_getElem?
  intro j
  cases j with
  | zero =>
   have h5 : hp (Sort.grow (Sort.putRow (Value.int .i64) (Sort.ahead w n) b off zs.toArray) os) b = some (.cells (Sort.putCells (Value.int .i64) off zs.toArray C) T (0, 0)) := hnew
   obtain ⟨C', T', fz', e1, e2⟩ := cellsAt_seg (o := off + i * 1) (n := 1) h5
   have e3 := e2 0 _ (List.getElem?_eq_getElem (by omega))
   rw [h5] at e1
   cases e1
   rw [List.getElem?_eq_getElem (by omega)]
   rw [show off + i * 1 + 0 = off + i by omega, hc1] at e3
   simpa using e3.symm
  | succ j => rw [List.getElem?_eq_none (by omega), List.getElem?_eq_none (by simp)]
 ·have hcb : b ≠ c := fun e => hne (by subst e; exact hF2b F2 hF2)
  rw [Sort.heap_grow_old _ _ (by simpa [Sort.ahead] using hc)]
  simp [Sort.putRow, Sort.mapBlock, Sort.ahead, Array.getElem?_modify, hcb]
theorem row_holds {w : World} {L : List Ch} {b off cap : Nat} (hm : Mem w0 hz w L) (k : Nat) (hk : L[k]? = some (ow [.slice (some ⟨b, off, none⟩) xs.length cap] xs)) : Sort.Holds (Value.int .i64) w b off xs.toArray ∧ b < w.heap.size ∧ xs.length ≤ cap ∧ xs.length ≤ 140737488355328 := by
 obtain ⟨F, hF, hFw⟩ := hm.get k hk
 have hF' : sliceOwn F (hp w) (.slice (some ⟨b, off, none⟩) xs.length cap) xs := own_list.1 hF
 rcases hF' with ⟨e, _⟩ | ⟨b', off', len', cap', C, T, e, hFb, hb, hl, hc, hmx, hsz, fps, g1, g2, g3⟩
 ·cases e
 cases e
 have hbw : w.heap[b]? = some (.cells C T (0, 0)) := hb
 refine ⟨fun j hj => ?_, (Array.getElem?_eq_some_iff.1 hbw).1, hc, hmx.2⟩
 have hj' : j < xs.length := by simpa using hj
 have h1 := g3 j xs[j] (List.getElem?_eq_getElem hj')
 have h2 : seg C (off + j * 1) 1 = [.int .i64 xs[j]] := Flat.own_iff.1 h1
 have h3 : (seg C (off + j * 1) 1)[0]? = some (.int .i64 xs[j]) := by rw [h2]; rfl
 obtain ⟨C', T', fz', e1, e2⟩ := cellsAt_seg (o := off + j * 1) (n := 1) hb
 rw [hb] at e1
 cases e1
 have := e2 0 _ h3
 rw [getB hj']
 have h4 : C[off + j]? = some (.int .i64 xs[j]) := by simpa using this
 exact ⟨by simp [World.cell?, hbw, h4], by simp [World.frozen?, hbw]⟩
theorem own_form {w : World} {L : List Ch} (hm : Mem w0 hz w L) (k : Nat) (hk : L[k]? = some (ow [v] xs)) : (v = .slice none 0 0 ∧ xs = []) ∨ ∃ b off cap, v = .slice (some ⟨b, off, none⟩) xs.length cap := by
 obtain ⟨F, hF, hFw⟩ := hm.get k hk
 have hF' : sliceOwn F (hp w) v xs := own_list.1 hF
 rcases hF' with h | ⟨b, off, len, cap, C, T, rfl, hFb, hb, hl, _⟩
 ·exact .inl h
 ·exact .inr ⟨b, off, cap, by rw [hl]⟩
theorem set_sameL {α : Type} {l : List α} {k : Nat} {x : α} (h : l[k]? = some x) : l.set k x = l := by
 obtain ⟨h1, h2⟩ := List.getElem?_eq_some_iff.1 h
 rw [← h2]; exact List.set_getElem_self h1
theorem sort_con {w : World} {L : List Ch} (Ly : Go.Proofs.Lays.n189 P ρ) (hm : Mem w0 hz w L) (k : Nat) (hk : L[k]? = some (ow [v] xs)) : Con P (ρ.f 189) [v] w fun v' w' => v' = .tuple #[] ∧ Mem w0 hz w' (L.set k (ow [v] (sortI xs))) := by
 rcases own_form hm k hk with ⟨rfl, rfl⟩ | ⟨b, off, cap, rfl⟩
 ·refine Calls.mono (Go.Proofs.Any.slices_Sort_int_none Ly none 0 w) fun e w' h => ?_
  obtain ⟨rfl, rfl⟩ := h
  exact ⟨rfl, by rw [show sortI [] = [] by simp [sortI], set_sameL hk]; exact hm⟩
 ·obtain ⟨h1, h2, _, h4⟩ := row_holds hm k hk
  refine Calls.mono (Go.Proofs.Any.slices_Sort_int Ly b off cap xs w h1 h2 (by omega)) fun e w' h => ?_
  obtain ⟨rfl, n, os, rfl⟩ := h
  refine ⟨rfl, ?_⟩
  have := row_new (n := n) (os := os) (ys := sortI xs) (zs := sortI xs) (pre := 0) hm k hk (sortI_len xs) (List.prefix_refl _)
  rw [sortI_len] at this
  exact this
theorem compact_con {w : World} {L : List Ch} (Ly : Go.Proofs.Lays2.n20 P ρ) (hm : Mem w0 hz w L) (k : Nat) (hk : L[k]? = some (ow [v] xs)) : Con P (ρ.f 20) [v] w fun v' w' => Mem w0 hz w' (L.set k (ow [v'] (Lib.compact xs))) := by
 rcases own_form hm k hk with ⟨rfl, rfl⟩ | ⟨b, off, cap, rfl⟩
 ·refine Calls.mono (Go.Proofs.Any.slices_Compact_int_empty Ly none 0 w) fun e w' h => ?_
  obtain ⟨rfl, rfl⟩ := h
  show Mem w0 hz w' (L.set k (ow [.slice none 0 0] (Lib.compact [])))
  rw [show Lib.compact ([] : List Int) = [] from rfl, set_sameL hk]; exact hm
 ·obtain ⟨h1, h2, h3, h4⟩ := row_holds hm k hk
  have hle : (Lib.compact xs).length ≤ xs.length := Lib.compact_length_le xs
  refine Calls.mono (Go.Proofs.Any.slices_Compact_int Ly b off cap xs w h1 (by omega) h3) fun e w' h => ?_
  obtain ⟨rfl, n, rfl⟩ := h
  have := row_new (n := n) (os := #[]) (ys := Lib.compact xs) (zs := Lib.compact xs ++ List.replicate (xs.length - (Lib.compact xs).length) 0) (pre := 0) hm k hk (by simp; omega) (List.prefix_append _ _)
  rw [Sort.grow_empty] at this
  exact this
end
end Go.Wk
namespace Go.Wk
open Go Go.RowKit
theorem sortI_perm {xs ys : List Int} (h : xs.Perm ys) : sortI xs = sortI ys := by
 have h1 : (sortI xs).Perm (sortI ys) := (List.mergeSort_perm xs _).trans (h.trans (List.mergeSort_perm ys _).symm)
 have tr : ∀ a b c : Int, decide (a ≤ b) = true → decide (b ≤ c) = true → decide (a ≤ c) = true := fun a b c h1 h2 => by simp at *; omega
 have tt : ∀ a b : Int, (decide (a ≤ b) || decide (b ≤ a)) = true := fun a b => by simp; omega
 exact List.Perm.eq_of_pairwise (le := fun a b => a ≤ b) (fun x y _ _ h3 h4 => by omega) ((List.pairwise_mergeSort tr tt xs).imp fun h => by simpa using h) ((List.pairwise_mergeSort tr tt ys).imp fun h => by simpa using h) h1
theorem sortI_id {xs : List Int} (h : xs.Pairwise (· < ·)) : sortI xs = xs := by
 have tr : ∀ a b c : Int, decide (a ≤ b) = true → decide (b ≤ c) = true → decide (a ≤ c) = true := fun a b c h1 h2 => by simp at *; omega
 have tt : ∀ a b : Int, (decide (a ≤ b) || decide (b ≤ a)) = true := fun a b => by simp; omega
 exact List.Perm.eq_of_pairwise (le := fun a b => a ≤ b) (fun x y _ _ h3 h4 => by omega) ((List.pairwise_mergeSort tr tt xs).imp fun h => by simpa using h) (h.imp fun h => by omega) (List.mergeSort_perm xs _)
theorem appK (xs : List Int) (k : Int) : (Option.bind (appM xs ([k] : List Int)) fun ys => some ys) = if xs.length + 1 ≤ 2147483648 then some (xs ++ [k]) else none := by
 unfold appM
 by_cases h : xs.length + 1 ≤ 2147483648 <;> simp [h]
theorem rangeM_keys {β : Type} : ∀ (es : List (Int × β)) (xs : List Int), xs.length ≤ 2147483648 → rangeM (fun (p : Int × β) (xs : List Int) => Option.bind (appM xs ([p.1] : List Int)) fun ys => some ys) es xs = appM xs (es.map (·.1))
 | [], xs, h => by simp [rangeM, appM, h]
 | p :: es, xs, h => by
  rw [rangeM]
  rw [appK]
  by_cases h2 : xs.length + 1 ≤ 2147483648
  ·rw [if_pos h2, Option.bind_some, rangeM_keys es _ (by rw [List.length_append]; exact h2)]
   unfold appM
   simp [show es.length + (xs.length + 1) = xs.length + (es.length + 1) by omega, show xs.length + 1 + es.length = xs.length + (es.length + 1) by omega, Nat.add_assoc]
  ·rw [if_neg h2]
   unfold appM
   rw [if_neg (by simp; omega)]; rfl
theorem keys_model {β : Type} (m : MapS β) : Option.bind (rangeM (fun (p : Int × β) (xs : List Int) => Option.bind (appM xs ([p.1] : List Int)) fun ys => some ys) m.es []) (fun xs => some (sortI xs)) = appM [] m.keys := by
 rw [rangeM_keys _ _ (by simp)]
 cases h : appM [] (m.es.map (·.1)) with
 | none => exact h.symm
 | some ys =>
  rw [Option.bind_some]
  refine Eq.trans ?_ h.symm
  obtain ⟨_, rfl⟩ := appM_some.1 h
  exact congrArg some (sortI_id (List.pairwise_map.2 m.so))
section
variable {β ρ : Type} [MV β] {P : Program} {w0 : World} {hz : Heap} {n : Nat} {l : Env} {w : World} {v : Value} {m : MapS β} {c : Code} {Q : Exit → Act → World → Prop} {r : ρ}
theorem gRngK {kk : List Int → Option ρ} {xs0 : List Int} (hkk : ∀ xs ys, xs.Perm ys → kk xs = kk ys) (hrep : GT.rep hz [v] m) (J : Array Nat → List Int → Act → World → Prop) (h0 : ∀ a, Fr n l a → J #[] xs0 a w)
  (hr : ∀ seen s a w, J seen s a w → More hz v seen (fun (p : Int × β) (xs : List Int) => Option.bind (appM xs ([p.1] : List Int)) fun ys => some ys) s → c.wk P (Then (Rnd hz v seen (fun (p : Int × β) (xs : List Int) => Option.bind (appM xs ([p.1] : List Int)) fun ys => some ys) s J) Q) a w)
  (he : ∀ seen s a w, J seen s a w → NoMore hz v seen → kk s = some r → c.wk P (Then (fun _ _ => False) Q) a w) :
  G (Option.bind (rangeM (fun (p : Int × β) (xs : List Int) => Option.bind (appM xs ([p.1] : List Int)) fun ys => some ys) m.es xs0) kk) r n l ((Code.loop c).wk P Q) w := by
 intro hq a hf
 classical
 obtain ⟨ys, hys, hq⟩ := bnd hq
 have hcomm : Comm (fun (p : Int × β) (s : Nat × (Int → Nat)) => if s.1 + 1 ≤ 2147483648 then some ((s.1 + 1, fun k => s.2 k + if k = p.1 then 1 else 0) : Nat × (Int → Nat)) else none) := fun p q s => by
  by_cases h : s.1 + 1 ≤ 2147483648
  ·simp only [h, if_true, Option.bind_some]
   congr 1
   congr 1
   congr 1
   funext k
   omega
  ·simp only [h, if_false]
   rfl
 have hst : ∀ (xs : List Int) (p : Int × β), (fun k => xs.count k + if k = p.1 then 1 else 0) = fun k => (xs ++ [p.1]).count k := fun xs p => by
  funext k
  rw [List.count_append, List.count_singleton]
  by_cases e : k = p.1
  ·subst e; simp
  ·rw [if_neg e, if_neg (by simpa using fun h => e h.symm)]
 have hcnt : ∀ (es : List (Int × β)) (xs ys : List Int), rangeM (fun (p : Int × β) (xs : List Int) => Option.bind (appM xs ([p.1] : List Int)) fun ys => some ys) es xs = some ys → rangeM (fun (p : Int × β) (s : Nat × (Int → Nat)) => if s.1 + 1 ≤ 2147483648 then some ((s.1 + 1, fun k => s.2 k + if k = p.1 then 1 else 0) : Nat × (Int → Nat)) else none) es (xs.length, fun k => xs.count k) = some (ys.length, fun k => ys.count k) := by
  intro es
  induction es with
  | nil => intro xs ys h; simp only [rangeM, Option.some.injEq] at h; subst h; rfl
  | cons p es ih =>
   intro xs ys h
   rw [rangeM] at h
   rw [appK] at h
   by_cases h2 : xs.length + 1 ≤ 2147483648
   ·rw [if_pos h2, Option.bind_some] at h
    have := ih _ _ h
    simp only [rangeM, h2, if_true, Option.bind_some, hst]
    simpa using this
   ·rw [if_neg h2] at h; cases h
 refine gRng (r := r) (m := m) (s0 := (xs0.length, fun k => xs0.count k)) (kk := fun s => if s = (ys.length, fun k => ys.count k) then some r else none) hcomm hrep (fun seen s a w => ∃ xs : List Int, s = (xs.length, fun k => xs.count k) ∧ J seen xs a w) (fun a hf => ⟨xs0, rfl, h0 a hf⟩) ?_ ?_ ?_ a hf
 ·rintro seen _ a w ⟨xs, rfl, hJ⟩ ⟨r1, E, clock, e1, e2, e3, e4, e5⟩
  have hle : ∀ (p : Int × β) (s' : Nat × (Int → Nat)), (if xs.length + 1 ≤ 2147483648 then some ((xs.length + 1, fun k => xs.count k + if k = p.1 then 1 else 0) : Nat × (Int → Nat)) else none) = some s' → xs.length + 1 ≤ 2147483648 := fun p s' h => by
   by_cases h2 : xs.length + 1 ≤ 2147483648
   ·exact h2
   ·rw [if_neg h2] at h; cases h
  refine Code.wk_mono (fun ex a' w' h => ?_) (hr seen xs a w hJ ⟨r1, E, clock, e1, e2, e3, e4, fun e he => ?_⟩)
  ·cases ex with
   | normal =>
    obtain ⟨bn, p, s', hg, hb, hJ'⟩ := h
    have h2 : xs.length + 1 ≤ 2147483648 := by
     dsimp only at hb
     rw [appK] at hb
     by_cases h2 : xs.length + 1 ≤ 2147483648
     ·exact h2
     ·rw [if_neg h2] at hb; cases hb
    dsimp only at hb
    rw [appK, if_pos h2] at hb
    cases hb
    exact ⟨bn, p, (xs.length + 1, fun k => xs.count k + if k = p.1 then 1 else 0), hg, if_pos h2, xs ++ [p.1], by rw [hst]; simp, hJ'⟩
   | _ => exact h
  ·obtain ⟨p, s', h1, h2⟩ := e5 e he
   exact ⟨p, _, h1, (appK xs p.1).trans (if_pos (hle p s' h2))⟩
 ·rintro seen _ a w ⟨xs, rfl, hJ⟩ hno hk
  refine he seen xs a w hJ hno ?_
  by_cases e : (xs.length, fun k => xs.count k) = (ys.length, fun k => ys.count k)
  ·rw [if_pos e] at hk
   rw [← hk, ← hq]
   refine hkk _ _ (List.perm_iff_count.2 fun k => ?_)
   exact congrFun (congrArg Prod.snd e) k
  ·rw [if_neg e] at hk; cases hk
 ·rw [hcnt m.es xs0 ys hys, Option.bind_some, if_pos rfl]
end
section
variable {β : Type} [MV β] {w0 : World} {hz : Heap} {w : World} {L : List Ch} {v : Value} {m : MapS β}
theorem owm_cells (hm : Mem w0 hz w L) (k : Nat) (hk : L[k]? = some (owm v m)) : v.cells = [v].toArray := by
 obtain ⟨r, rfl⟩ := owm_form hm k hk
 rfl
end
section
variable {P : Program} {l : Env} {w : World} {o : Oper} {x y : Operand} {t kt vt : TypeId} {v : Value} {key : Int}
theorem y_lookB {m : MapS Bool} (hK : P.underlying kt = some (.int .i64)) (ht : P.underlying t = some (.map kt vt)) (hz0 : ∀ w, (zeroValue vt).run P w = .ok (.bool false) w) (hr : GT.rep (hp w) [v] m) (ho : o.op = .lookup t x y false)
  (hx : ev l x = some v) (hy : ev l y = some (.int .i64 key)) : Yl P l w o (.bool ((m.get key).getD false)) := by
 have h := y_lookS (zv := .bool false) hK ht hz0 hr ho hx hy
 cases e : m.get key <;> rw [e] at h <;> exact h
end
end Go.Wk
namespace Go.Wk
open Go Go.RowKit
end Go.Wk
namespace Go.Wk
open Go Go.RowKit
def subC (s : Nat) (v : Value) (lo hi : Nat) : Value := match v with
 | .slice p _ _ => .slice (if hi = lo then p else p.map (·.add (lo * s))) (hi - lo) (hi - lo)
 | v => v
section
variable {α : Type} [GT α] {h : Heap} {v : Value} {xs : List α} {lo hi : Nat} {F : Nat → Prop}
end
section
variable {α : Type} [GT α] {P : Program} {l : Env} {h : Heap} {o : Oper} {x yl yh ym : Operand} {t e : TypeId} {v : Value} {xs : List α} {lo hi : Int} {kl kh km : IntKind}
end
end Go.Wk
namespace Go.Wk
open Go Go.RowKit
section
variable {β S : Type}
open Classical in
noncomputable def onM (es : List (Int × β)) (body : Int × β → S → Option S) : Int × β → S → Option S := fun p => if p ∈ es then body p else fun _ => none
end
section
variable {β S ρ : Type} [MV β] {P : Program} {w0 : World} {hz : Heap} {n : Nat} {l : Env} {w : World} {v : Value} {m : MapS β} {c : Code} {Q : Exit → Act → World → Prop} {r : ρ}
end
theorem MapS.ext {β : Type} {m1 m2 : MapS β} (h : m1.es.Perm m2.es) : m1 = m2 := by
 have : m1.es = m2.es := by
  have h1 := m1.so; have h2 := m2.so
  refine List.Perm.eq_of_pairwise (le := fun a b => a.1 < b.1) (fun x y _ _ h3 h4 => by omega) h1 h2 h
 cases m1; cases m2; simp at this; subst this; rfl
def guardN (l : List Int) : Option _root_.Unit := if l.Nodup then some () else none
end Go.Wk
namespace Go.Wk
open Go Go.RowKit
abbrev InSc (Q : Exit → Act → World → Prop) (e : Exit) : Act → World → Prop := match e with
 | .goto _ => fun _ _ => False
 | e => Q e
section
variable {ρ : Type} {m : Option ρ} {r : ρ} {n : Nat} {l : Env} {w : World} {P : Program} {c : Code} {Q : Exit → Act → World → Prop}
end
end Go.Wk
namespace Go.Wk
open Go Go.RowKit
def MapO (β : Type) : Type := Option (MapS β)
def MapO.toS {β : Type} (x : MapO β) : MapS β := match x with | some m => m | none => MapS.mk0
def MapO.of {β : Type} (m : MapS β) : MapO β := some m
def MapO.nil {β : Type} : MapO β := none
def MapO.get {β : Type} (x : MapO β) : Option (MapS β) := x
instance {β : Type} : Inhabited (MapO β) := ⟨none⟩
instance {β : Type} [MV β] : GT (MapO β) where
 sz := 1
 rep h cs x := ∃ v, cs = [v] ∧ ((v = .map none ∧ x = none) ∨ ∃ r m, v = .map (some r) ∧ x = some m ∧ mapAt h r m)
 own F h cs x := ∃ v, cs = [v] ∧ ((v = .map none ∧ x = none) ∨ ∃ r m, v = .map (some r) ∧ x = some m ∧ F r ∧ mapAt h r m)
 len := by rintro h cs m ⟨v, rfl, _⟩; rfl
 mono := by
  rintro h h' cs m hh ⟨v, rfl, hr⟩
  refine ⟨v, rfl, ?_⟩
  rcases hr with hr | ⟨r, m, hv, hx, E, c, es, h1, h2⟩
  ·exact .inl hr
  ·exact .inr ⟨r, m, hv, hx, E, c, es, hh _ _ h1, h2⟩
 own_rep := by
  rintro F h cs m ⟨v, rfl, hr⟩
  refine ⟨v, rfl, ?_⟩
  rcases hr with hr | ⟨r, m, hv, hx, _, h1⟩
  ·exact .inl hr
  ·exact .inr ⟨r, m, hv, hx, h1⟩
 own_loc := by
  rintro F h h' cs m ⟨v, rfl, hr⟩ hh
  refine ⟨v, rfl, ?_⟩
  rcases hr with hr | ⟨r, m, hv, hx, hF, E, c, es, h1, h2⟩
  ·exact .inl hr
  ·exact .inr ⟨r, m, hv, hx, hF, E, c, es, (hh r hF).trans h1, h2⟩
 own_mono := by
  rintro F F' h cs m hF ⟨v, rfl, hr⟩
  refine ⟨v, rfl, ?_⟩
  rcases hr with hr | ⟨r, m, hv, hx, h1, h2⟩
  ·exact .inl hr
  ·exact .inr ⟨r, m, hv, hx, hF r h1, h2⟩
 one := by
  rintro h cs m ⟨v, rfl, hr⟩ u hu
  simp at hu
  subst hu
  rcases hr with ⟨rfl, _⟩ | ⟨r, m, rfl, _⟩ <;> rfl
section
variable {β : Type} [MV β] {P : Program} {a : Act} {w w0 : World} {hz : Heap} {L : List Ch} {o : Oper} {n : Nat} {l : Env} {x y z : Operand} {t kt vt : TypeId} {r : Nat} {m : MapS β} {v : Value}
theorem own_mapO {F : Nat → Prop} {h : Heap} {x : MapO β} : GT.own F h [v] x ↔ ((v = .map none ∧ x = none) ∨ ∃ r m, v = .map (some r) ∧ x = some m ∧ F r ∧ mapAt h r m) := by
 constructor
 ·rintro ⟨u, hu, hr⟩; simp at hu; subst hu; exact hr
 ·intro hr; exact ⟨v, rfl, hr⟩
theorem own_nilO {F : Nat → Prop} {h : Heap} : GT.own F h [.map none] (MapO.nil : MapO β) := own_mapO.2 (.inl ⟨rfl, rfl⟩)
theorem Mem.owm_owO (hm : Mem w0 hz w L) (k : Nat) (hk : L[k]? = some (owm v m)) : Mem w0 hz w (L.set k (ow [v] (MapO.of m))) :=
 hm.imp k hk fun _ h => by
  obtain ⟨r, hv, hF, h1⟩ := h
  exact own_mapO.2 (.inr ⟨r, m, hv, rfl, hF, h1⟩)
theorem own_toS {F : Nat → Prop} {h : Heap} {cs : List Value} {x : MapO β} (ho : GT.own F h cs x) : GT.own F h cs x.toS := by
 obtain ⟨v, rfl, hr⟩ := ho
 refine own_map.2 ?_
 rcases hr with ⟨h1, rfl⟩ | ⟨r, m, h1, rfl, h2, h3⟩
 ·exact .inl ⟨h1, rfl⟩
 ·exact .inr ⟨r, h1, h2, h3⟩
theorem Mem.ow_toS {xs : List (MapO β)} (hm : Mem w0 hz w L) (k : Nat) (hk : L[k]? = some (ow [v] xs)) : Mem w0 hz w (L.set k (ow [v] (xs.map MapO.toS))) :=
 hm.imp k hk fun F h => by
  refine own_list.2 ?_
  rcases own_list.1 h with ⟨h1, h2⟩ | ⟨b, off, len, cap, C, T, e1, e2, e3, e4, e5, e6, e7, fps, e8, e9, e10⟩
  ·subst h2; exact .inl ⟨h1, rfl⟩
  ·refine .inr ⟨b, off, len, cap, C, T, e1, e2, e3, by simpa using e4, e5, e6, e7, fps, e8, e9, fun i x hx => ?_⟩
   rw [List.getElem?_map] at hx
   obtain ⟨y, hy, rfl⟩ := Option.map_eq_some_iff.1 hx
   exact own_toS (e10 i y hy)
theorem fz_owm {h : Heap} (H : ∃ F, (owm v m).pr F h) : GT.rep h [v] m := by
 obtain ⟨F, hF⟩ := H
 exact GT.own_rep (own_owm hF)
def Ent (h : Heap) (v : Value) (key st : Int) : Prop :=
 ∃ (r : Nat) (E : Array MapEntry) (clock j : Nat) (e : MapEntry), v = .map (some r) ∧ h r = some (.map E clock) ∧ E.toList[j]? = some e ∧ (e.born : Int) = st ∧ e.key = .int .i64 key
theorem run_entS {key : Int} {zv : β} {E : Array MapEntry} {clock : Nat} {es : List (Int × β)} (hK : P.underlying kt = some (.int .i64)) (ht : P.underlying t = some (.map kt vt)) (hz0 : ∀ w, (zeroValue vt).run P w = .ok (MV.venc zv) w) (hb : w.heap[r]? = some (.map E clock)) (hs : MapKept.Stamped E clock)
  (hE : E.toList.map (fun e => (e.key, e.val)) = es.map (fun p => (Value.int .i64 p.1, MV.venc p.2))) :
  ∃ (E' : Array MapEntry) (clock' j : Nat) (e : MapEntry), (Instr.mapEntry t (.map (some r)) (.int .i64 key)).run P w = .ok (.tuple #[MV.venc ((lookM es key).getD zv), .int .i64 (e.born : Int)]) { w with heap := w.heap.setIfInBounds r (.map E' clock') } ∧ MapKept.Stamped E' clock' ∧
   E'.toList.map (fun e => (e.key, e.val)) = (insM es key ((lookM es key).getD zv)).map (fun p => (Value.int .i64 p.1, MV.venc p.2)) ∧ E'.toList[j]? = some e ∧ e.key = .int .i64 key := by
 have hf2 := run_findKey (key_int hK) hE key w
 have hc := (key_int hK).check 9999 false key w
 unfold insM lookM
 cases hq : findIx key es 0 with
 | none =>
  rw [hq] at hf2
  refine ⟨E.push { key := .int .i64 key, val := MV.venc zv, born := clock }, clock + 1, E.size, { key := .int .i64 key, val := MV.venc zv, born := clock }, ?_, ?_, ?_, by simp, rfl⟩
  ·simp [Instr.mapEntry, run_underlying ht, MapKept.run_getObj_map hb, hc, hf2, hz0, MapKept.run_setObj_map _ hb, goInt]
  ·refine MapKept.stamped_push hs fun e he h => ?_
   have h1 : (e.key, e.val) ∈ es.map (fun p => (Value.int .i64 p.1, MV.venc p.2)) := by rw [← hE]; exact List.mem_map.2 ⟨e, he, rfl⟩
   obtain ⟨p, hp, h2⟩ := List.mem_map.1 h1
   simp only [Prod.mk.injEq] at h2
   rw [h] at h2
   have : p.1 = key := by simpa using h2.1
   exact findIx_none.1 hq p hp this.symm
  ·simp [hE]
 | some q =>
  obtain ⟨i, v0⟩ := q
  rw [hq] at hf2
  obtain ⟨_, h3⟩ := findIx_some hq
  rw [Nat.sub_zero] at h3
  have hlen : E.toList.length = es.length := by have := congrArg List.length hE; simpa using this
  have hi := (List.getElem?_eq_some_iff.1 h3).1
  have hie : i < E.toList.length := by omega
  have hie' : i < E.size := by simpa using hie
  obtain ⟨e, he⟩ : ∃ e, E[i]? = some e := ⟨_, Array.getElem?_eq_getElem hie'⟩
  have hkv : e.key = .int .i64 key ∧ e.val = MV.venc v0 := by
   have := congrArg (fun l => l[i]?) hE
   simp only [List.getElem?_map, h3, Option.map_some, Array.getElem?_toList, he] at this
   simpa using this
  refine ⟨E.modify i fun e => { e with key := .int .i64 key }, clock, i, e, ?_, ?_, ?_, ?_, hkv.1⟩
  ·simp [Instr.mapEntry, run_underlying ht, MapKept.run_getObj_map hb, hc, hf2, he, hkv.1, Instr.keyThatStays, (key_int hK).bits, MapKept.run_setObj_map _ hb, goInt]
  ·refine MapKept.stamped_modify hs i _ (fun _ _ => rfl) fun e' _ he' => ?_
   rw [he] at he'; cases he'
   exact hkv.1.symm
  ·apply List.ext_getElem?
   intro j
   have hj := congrArg (fun l => l[j]?) hE
   simp only [List.getElem?_map] at hj
   simp only [List.getElem?_map, Array.getElem?_toList, Array.getElem?_modify, List.getElem?_set]
   by_cases e1 : i = j
   ·subst e1
    simp [hi, he, hkv.2]
   ·simp only [e1, if_false]
    rw [← hj, Array.getElem?_toList]
  ·rw [Array.getElem?_toList, Array.getElem?_modify, if_pos rfl, he]
   have : ({ e with key := Value.int .i64 key } : MapEntry) = e := by rw [← hkv.1]
   simp [this]
theorem run_estS {key : Int} {u : β} {E : Array MapEntry} {clock j : Nat} {e : MapEntry} {es : List (Int × β)} (hb : w.heap[r]? = some (.map E clock)) (hs : MapKept.Stamped E clock) (hn : (es.map (·.1)).Nodup)
  (hE : E.toList.map (fun e => (e.key, e.val)) = es.map (fun p => (Value.int .i64 p.1, MV.venc p.2))) (he : E.toList[j]? = some e) (hk : e.key = .int .i64 key) :
  ∃ E' : Array MapEntry, (Instr.entryStore t (.map (some r)) (.int .i64 (e.born : Int)) (MV.venc u)).run P w = .ok () { w with heap := w.heap.setIfInBounds r (.map E' clock) } ∧ MapKept.Stamped E' clock ∧
   E'.toList.map (fun e => (e.key, e.val)) = (insM es key u).map (fun p => (Value.int .i64 p.1, MV.venc p.2)) := by
 have hidx : E.findIdx? (fun x => ((x.born : Nat) : Int) == ((e.born : Nat) : Int)) = some j := by
  rw [WideElems.findIdx_arr]
  exact WideElems.findIdx_born hs.2.1 he
 have hlen : E.toList.length = es.length := by have := congrArg List.length hE; simpa using this
 have hjl := (List.getElem?_eq_some_iff.1 he).1
 obtain ⟨p, hp⟩ : ∃ p, es[j]? = some p := ⟨_, List.getElem?_eq_getElem (by omega)⟩
 have hpk : p.1 = key := by
  have := congrArg (fun l => l[j]?) hE
  simp only [List.getElem?_map, hp, Option.map_some, he] at this
  rw [hk] at this
  simpa using (congrArg Prod.fst (Option.some.inj this)).symm
 have hq : ∃ v0, findIx key es 0 = some (j, v0) := by
  cases hq : findIx key es 0 with
  | none => exact absurd hpk.symm (findIx_none.1 hq p (List.mem_of_getElem? hp))
  | some q =>
   obtain ⟨i, v0⟩ := q
   obtain ⟨_, h3⟩ := findIx_some hq
   rw [Nat.sub_zero] at h3
   have h4 : (es.map (·.1))[i]? = some key := by rw [List.getElem?_map, h3]; rfl
   have h5 : (es.map (·.1))[j]? = some key := by rw [List.getElem?_map, hp, ← hpk]; rfl
   have : i = j := (List.getElem?_inj (List.getElem?_eq_some_iff.1 h4).1 hn).1 (h4.trans h5.symm)
   exact ⟨v0, by rw [this]⟩
 obtain ⟨v0, hq⟩ := hq
 unfold insM
 rw [hq]
 have hea : E[j]? = some e := by rw [← Array.getElem?_toList]; exact he
 refine ⟨E.modify j fun e => { e with val := MV.venc u }, ?_, ?_, ?_⟩
 ·simp [Instr.entryStore, MapKept.run_getObj_map hb, asInt, asIntOf, hidx, MapKept.run_setObj_map _ hb]
 ·exact MapKept.stamped_modify hs j _ (fun _ _ => rfl) fun _ _ _ => rfl
 ·apply List.ext_getElem?
  intro i
  have hj := congrArg (fun l => l[i]?) hE
  simp only [List.getElem?_map] at hj
  simp only [List.getElem?_map, Array.getElem?_toList, Array.getElem?_modify, List.getElem?_set]
  by_cases e1 : j = i
  ·subst e1
   have : j < es.length := by omega
   simp [this, hea, hk]
  ·simp only [e1, if_false]
   rw [← hj, Array.getElem?_toList]
theorem listO_at {F : Nat → Prop} {h : Heap} {b off len cap i : Nat} {xs : List (MapO β)} (ho : GT.own F h [.slice (some ⟨b, off, none⟩) len cap] xs) (hx : xs[i]? = some (MapO.of m)) (hc : CellsAt h b (off + i * 1) [v]) :
  ∃ r, v = .map (some r) ∧ F r ∧ F b ∧ r ≠ b ∧ mapAt h r m ∧ ∀ (h' : Heap) (m' : MapS β), (∀ c, c ≠ r → h' c = h c) → mapAt h' r m' → GT.own F h' [.slice (some ⟨b, off, none⟩) len cap] (xs.set i (MapO.of m')) := by
 rcases own_list.1 ho with ⟨e, _⟩ | ⟨b', off', len', cap', C, T, e1, e2, e3, e4, e5, e6, e7, fps, e8, e9, e10⟩
 ·cases e
 simp only [Value.slice.injEq, Option.some.injEq, Addr.mk.injEq] at e1
 obtain ⟨⟨rfl, rfl, _⟩, rfl, rfl⟩ := e1
 obtain ⟨u, hu, hr⟩ := e10 i _ hx
 have huv : u = v := by
  obtain ⟨C', T', fz, c1, c2⟩ := hc
  rw [e3] at c1
  simp only [Option.some.injEq, Obj.cells.injEq] at c1
  obtain ⟨rfl, _, _⟩ := c1
  have h0 := c2 0 v rfl
  have h1 : (seg C (off + i * GT.sz (MapO β)) (GT.sz (MapO β)))[0]? = some u := by rw [hu]; rfl
  have h2 : (seg C (off + i * 1) 1)[0]? = some u := h1
  unfold seg at h2
  simp only [List.getElem?_take, List.getElem?_drop] at h2
  simp at h2 h0
  rw [h0] at h2
  exact (Option.some.inj h2).symm
 subst huv
 rcases hr with ⟨_, e⟩ | ⟨r, m0, rfl, e, hFr, hma⟩
 ·cases e
 cases e
 refine ⟨r, rfl, (e8 i r hFr).1, e2, (e8 i r hFr).2, hma, fun h' m' hh hma' => own_list.2 (.inr ⟨b, off, len, cap, C, T, rfl, e2, ?_, by simpa using e4, e5, e6, e7, fps, e8, e9, fun j y hy => ?_⟩)⟩
 ·rw [hh b (fun e => (e8 i r hFr).2 e.symm)]; exact e3
 ·by_cases e : j = i
  ·subst e
   rw [List.getElem?_set_self (List.getElem?_eq_some_iff.1 hx).1] at hy
   cases hy
   rw [hu]
   exact own_mapO.2 (.inr ⟨r, m', rfl, rfl, hFr, hma'⟩)
  ·rw [List.getElem?_set_ne (fun q => e q.symm)] at hy
   exact GT.own_loc (e10 j y hy) fun c hc => hh c fun q => e9 i j c (fun q => e q.symm) (q ▸ hFr) hc
theorem Mem.listO {b off len cap i : Nat} {xs : List (MapO β)} (hm : Mem w0 hz w L) (k : Nat) (hk : L[k]? = some (ow [.slice (some ⟨b, off, none⟩) len cap] xs)) (hx : xs[i]? = some (MapO.of m)) (hc : CellsAt (hp w) b (off + i * 1) [v]) :
  ∃ r, v = .map (some r) ∧ mapAt (hp w) r m ∧ ∀ (O : Obj) (m' : MapS β), mapAt (hp { w with heap := w.heap.setIfInBounds r O }) r m' →
   (∀ o cs, CellsAt (hp w) b o cs → CellsAt (hp { w with heap := w.heap.setIfInBounds r O }) b o cs) ∧ Mem w0 hz { w with heap := w.heap.setIfInBounds r O } (L.set k (ow [.slice (some ⟨b, off, none⟩) len cap] (xs.set i (MapO.of m')))) := by
 obtain ⟨F0, hF0, _⟩ := hm.get k hk
 obtain ⟨r, hv, _, _, hrb, hma, _⟩ := listO_at hF0 hx hc
 have hoth : ∀ (O : Obj) (c : Nat), c ≠ r → hp { w with heap := w.heap.setIfInBounds r O } c = hp w c := fun O c hne => by
  have : r ≠ c := fun e => hne e.symm
  simp [hp, Array.getElem?_setIfInBounds, this]
 refine ⟨r, hv, hma, fun O m' hma' => ⟨fun o cs ⟨C, T, fz, c1, c2⟩ => ⟨C, T, fz, (hoth O b fun e => hrb e.symm).trans c1, c2⟩, ?_⟩⟩
 refine hm.upd k hk ⟨rfl, rfl, rfl, by simp⟩ fun F hF hFw => ?_
 obtain ⟨r', hv', hFr, _, _, _, hset⟩ := listO_at hF hx hc
 rw [hv] at hv'
 cases hv'
 exact ⟨F, fun _ h => .inl h, fun c hc => by simpa using hFw c hc, hset _ m' (hoth O) hma', fun c _ hne => by
  have : r ≠ c := fun e => hne (e ▸ hFr)
  simp [Array.getElem?_setIfInBounds, this]⟩
theorem e_entL {key : Int} {zv : β} {b off len cap i : Nat} {xs : List (MapO β)} (k : Nat) (hK : P.underlying kt = some (.int .i64)) (ht : P.underlying t = some (.map kt vt)) (hz0 : ∀ w, (zeroValue vt).run P w = .ok (MV.venc zv) w) (hf : Fr n l a) (hm : Mem w0 hz w L)
  (hk : L[k]? = some (ow [.slice (some ⟨b, off, none⟩) len cap] xs)) (hx : xs[i]? = some (MapO.of m)) (hc : CellsAt (hp w) b (off + i * 1) [v]) (ho : o.op = .mapEntry t x y) (hx' : ev l x = some v) (hy : ev l y = some (.int .i64 key)) :
  Ef P a w o (fun u w' => ∃ v0 st, u = .tuple #[MV.venc v0, .int .i64 st] ∧ Ent (hp w') v key st ∧ (∀ o cs, CellsAt (hp w) b o cs → CellsAt (hp w') b o cs) ∧ Mem w0 hz w' (L.set k (ow [.slice (some ⟨b, off, none⟩) len cap] (xs.set i (MapO.of (m.ins key v0)))))) := by
 obtain ⟨r, rfl, ⟨E, clock, es, h1, h2, h3, h4⟩, hset⟩ := hm.listO k hk hx hc
 obtain ⟨E', clock', j, e, g1, g2, g3, g4, g5⟩ := run_entS (zv := zv) hK ht hz0 h1 h2 h3 (key := key)
 have hlt := (Array.getElem?_eq_some_iff.1 h1).1
 have hnew : hp { w with heap := w.heap.setIfInBounds r (.map E' clock') } r = some (.map E' clock') := by simp [hp, hlt]
 obtain ⟨s1, s2⟩ := hset (.map E' clock') (m.ins key ((lookM es key).getD zv)) ⟨E', clock', insM es key ((lookM es key).getD zv), hnew, g2, g3, (insM_perm (keys_nodup h3 h4)).trans (List.Perm.trans ((h4.filter _).cons _) (m.ins_perm key _))⟩
 exact ef_value (by simp [execOp, ho, hf.eval hx', hf.eval hy, g1]) ⟨_, _, rfl, ⟨r, E', clock', j, e, rfl, hnew, g4, rfl, g5⟩, s1, s2⟩
omit [MV β] in
theorem ins_ins {key : Int} {u v0 : β} : (m.ins key v0).ins key u = m.ins key u := by
 show (⟨_, _⟩ : MapS β) = ⟨_, _⟩
 have h1 : (m.ins key v0).es.filter (fun p => decide (p.1 < key)) = m.es.filter (fun p => decide (p.1 < key)) := by
  show List.filter _ (_ ++ _ :: _) = _
  rw [List.filter_append, List.filter_cons, if_neg (by simp), List.filter_filter, List.filter_filter]
  have : (m.es.filter fun p => decide (p.1 < key) && decide (key < p.1)) = [] := List.filter_eq_nil_iff.2 fun q _ => by simp; omega
  rw [this, List.append_nil]
  congr 1; funext p; simp
 have h2 : (m.ins key v0).es.filter (fun p => decide (key < p.1)) = m.es.filter (fun p => decide (key < p.1)) := by
  show List.filter _ (_ ++ _ :: _) = _
  rw [List.filter_append, List.filter_cons, if_neg (by simp), List.filter_filter, List.filter_filter]
  have : (m.es.filter fun p => decide (key < p.1) && decide (p.1 < key)) = [] := List.filter_eq_nil_iff.2 fun q _ => by simp; omega
  rw [this, List.nil_append]
  congr 1; funext p; simp
 simp only [h1, h2]
theorem e_estL {key st : Int} {u v0 : β} {b off len cap i : Nat} {xs : List (MapO β)} (k : Nat) (hf : Fr n l a) (hm : Mem w0 hz w L)
  (hk : L[k]? = some (ow [.slice (some ⟨b, off, none⟩) len cap] (xs.set i (MapO.of (m.ins key v0))))) (hx : xs[i]? = some (MapO.of m)) (hc : CellsAt (hp w) b (off + i * 1) [v]) (he : Ent (hp w) v key st) (ho : o.op = .entryStore t x y z) (hx' : ev l x = some v) (hy : ev l y = some (.int .i64 st)) (hz' : ev l z = some (MV.venc u)) :
  Ef P a w o (fun _ w' => (∀ o cs, CellsAt (hp w) b o cs → CellsAt (hp w') b o cs) ∧ Mem w0 hz w' (L.set k (ow [.slice (some ⟨b, off, none⟩) len cap] (xs.set i (MapO.of (m.ins key u)))))) := by
 have hx2 : (xs.set i (MapO.of (m.ins key v0)))[i]? = some (MapO.of (m.ins key v0)) := List.getElem?_set_self (List.getElem?_eq_some_iff.1 hx).1
 obtain ⟨r, rfl, ⟨E, clock, es, h1, h2, h3, h4⟩, hset⟩ := hm.listO k hk hx2 hc
 obtain ⟨r', E1, clock1, j, e, q1, q2, q3, rfl, q5⟩ := he
 cases q1
 have h1' : hp w r = some (.map E clock) := h1
 rw [h1'] at q2
 cases q2
 obtain ⟨E', g1, g2, g3⟩ := run_estS (P := P) (t := t) (u := u) h1 h2 (keys_nodup h3 h4) h3 q3 q5
 have hlt := (Array.getElem?_eq_some_iff.1 h1).1
 have hnew : hp { w with heap := w.heap.setIfInBounds r (.map E' clock) } r = some (.map E' clock) := by simp [hp, hlt]
 obtain ⟨s1, s2⟩ := hset (.map E' clock) ((m.ins key v0).ins key u) ⟨E', clock, insM es key u, hnew, g2, g3, (insM_perm (keys_nodup h3 h4)).trans (List.Perm.trans ((h4.filter _).cons _) ((m.ins key v0).ins_perm key _))⟩
 rw [ins_ins, List.set_set] at s2
 exact ef_skip (by simp [execOp, ho, hf.eval hx', hf.eval hy, hf.eval hz', g1]) ⟨s1, s2⟩
end
section
variable {S α : Type} {f g f2 : S → Option S}
def CommF (f g : S → Option S) : Prop := ∀ s, Option.bind (f s) g = Option.bind (g s) f
theorem cf_symm (h : CommF f g) : CommF g f := fun s => (h s).symm
theorem cf_some : CommF (fun s => some s) g := fun s => by
 show g s = Option.bind (g s) fun s => some s
 cases g s <;> rfl
theorem cf_bind {c : Option α} {f : α → S → Option S} (h : ∀ a, CommF (f a) g) : CommF (fun s => Option.bind c fun a => f a s) g := fun s => by
 cases c with
 | none =>
  show none = Option.bind (g s) fun _ => none
  cases g s <;> rfl
 | some a => exact h a s
theorem cf_ite {c : Prop} [Decidable c] (h1 : CommF f g) (h2 : CommF f2 g) : CommF (fun s => if c then f s else f2 s) g := fun s => by
 by_cases h : c
 ·simp only [h, if_true]; exact h1 s
 ·simp only [h, if_false]; exact h2 s
theorem cf_post (h : CommF f g) : CommF (fun s => Option.bind (f s) fun t => some t) g := by
 have : (fun s => Option.bind (f s) fun t => some t) = f := funext fun s => by cases f s <;> rfl
 rw [this]; exact h
theorem cf_range {f : α → S → Option S} (h : ∀ p, CommF (f p) g) : ∀ es : List α, CommF (fun s => rangeM f es s) g
 | [] => cf_some
 | p :: es => fun s => by
  have h1 := h p s
  have h2 := cf_range h es
  show Option.bind (Option.bind (f p s) (rangeM f es)) g = Option.bind (g s) fun t => Option.bind (f p t) (rangeM f es)
  cases hf : f p s with
  | none =>
   rw [hf] at h1
   cases hg : g s with
   | none => rfl
   | some t =>
    rw [hg] at h1
    have h3 : none = f p t := h1
    show none = Option.bind (f p t) _
    rw [← h3]; rfl
  | some u =>
   rw [hf] at h1
   show Option.bind (rangeM f es u) g = _
   rw [show Option.bind (rangeM f es u) g = Option.bind (g u) (fun s => rangeM f es s) from h2 u]
   have h3 : g u = Option.bind (g s) (f p) := h1
   rw [h3]
   cases g s <;> rfl
end
def put1 (a k : Int) (xs : List (MapO Bool)) : Option (List (MapO Bool)) := Option.bind (getI xs a) fun x => Option.bind (MapO.get x) fun m => some (xs.set a.toNat (MapO.of (m.ins k true)))
theorem insT_comm {m : MapS Bool} {j k : Int} : (m.ins j true).ins k true = (m.ins k true).ins j true := Option.some.inj (comm_ins (β := Bool) (γ := Bool) (u := true) (j, true) (k, true) m)
theorem put1_comm (a k b j : Int) : CommF (put1 a k) (put1 b j) := fun s => by
 have key : ∀ (a k : Int) (s : List (MapO Bool)), put1 a k s = if h : 0 ≤ a then match s[a.toNat]? with | some (some m) => some (s.set a.toNat (MapO.of (m.ins k true))) | _ => none else none := fun a k s => by
  unfold put1 getI
  by_cases h : 0 ≤ a
  ·simp only [h, if_true, dite_true]
   cases s[a.toNat]? with
   | none => rfl
   | some x => cases x <;> rfl
  ·simp [h]
 by_cases ha : 0 ≤ a
 rotate_left
 ·have : ∀ t, put1 a k t = none := fun t => by rw [key, dif_neg ha]
  rw [this]
  show none = Option.bind (put1 b j s) _
  rw [show put1 a k = fun _ => none from funext this]
  cases put1 b j s <;> rfl
 by_cases hb : 0 ≤ b
 rotate_left
 ·have : ∀ t, put1 b j t = none := fun t => by rw [key, dif_neg hb]
  rw [this]
  show Option.bind (put1 a k s) _ = none
  rw [show put1 b j = fun _ => none from funext this]
  cases put1 a k s <;> rfl
 have p1 : ∀ (c i : Int) (t : List (MapO Bool)) (m : MapS Bool), 0 ≤ c → t[c.toNat]? = some (MapO.of m) → put1 c i t = some (t.set c.toNat (MapO.of (m.ins i true))) := fun c i t m hc ht => by
  unfold put1
  rw [getI_some.2 ⟨hc, ht⟩]; rfl
 have p0 : ∀ (c i : Int) (t : List (MapO Bool)), (∀ m, t[c.toNat]? ≠ some (MapO.of m)) → put1 c i t = none := fun c i t ht => by
  rw [key]
  split
  ·split
   ·rename_i m hm; exact absurd hm (ht m)
   ·rfl
  ·rfl
 by_cases e : a.toNat = b.toNat
 ·have e' : a = b := by omega
  subst e'
  by_cases h : ∃ m, s[a.toNat]? = some (MapO.of m)
  ·obtain ⟨m, hm⟩ := h
   have hl := (List.getElem?_eq_some_iff.1 hm).1
   rw [p1 a k s m ha hm, p1 a j s m ha hm]
   show put1 a j _ = put1 a k _
   rw [p1 a j _ (m.ins k true) ha (List.getElem?_set_self hl), p1 a k _ (m.ins j true) ha (List.getElem?_set_self hl), List.set_set, List.set_set, insT_comm]
  ·have h' : ∀ m, s[a.toNat]? ≠ some (MapO.of m) := fun m hm => h ⟨m, hm⟩
   rw [p0 a k s h', p0 a j s h']; rfl
 ·have e2 : b.toNat ≠ a.toNat := fun q => e q.symm
  by_cases h : ∃ m, s[a.toNat]? = some (MapO.of m)
  ·obtain ⟨m, hm⟩ := h
   by_cases h2 : ∃ m2, s[b.toNat]? = some (MapO.of m2)
   ·obtain ⟨m2, hm2⟩ := h2
    rw [p1 a k s m ha hm, p1 b j s m2 hb hm2]
    show put1 b j _ = put1 a k _
    rw [p1 b j _ m2 hb (by rw [List.getElem?_set_ne e]; exact hm2), p1 a k _ m ha (by rw [List.getElem?_set_ne e2]; exact hm), List.set_comm _ _ e]
   ·have h2' : ∀ m, s[b.toNat]? ≠ some (MapO.of m) := fun m hm => h2 ⟨m, hm⟩
    rw [p1 a k s m ha hm, p0 b j s h2']
    show put1 b j _ = none
    exact p0 b j _ fun m2 => by rw [List.getElem?_set_ne e]; exact h2' m2
  ·have h' : ∀ m, s[a.toNat]? ≠ some (MapO.of m) := fun m hm => h ⟨m, hm⟩
   rw [p0 a k s h']
   show none = Option.bind (put1 b j s) (put1 a k)
   by_cases h2 : ∃ m2, s[b.toNat]? = some (MapO.of m2)
   ·obtain ⟨m2, hm2⟩ := h2
    rw [p1 b j s m2 hb hm2]
    exact (p0 a k _ fun m => by rw [List.getElem?_set_ne e2]; exact h' m).symm
   ·have h2' : ∀ m, s[b.toNat]? ≠ some (MapO.of m) := fun m hm => h2 ⟨m, hm⟩
    rw [p0 b j s h2']; rfl
end Go.Wk
namespace Go.Wk
open Go Go.RowKit
def hput (h : Heap) (b : Nat) (o : Obj) : Heap := fun k => if k = b then some o else h k
theorem hput_at {h : Heap} {b : Nat} {o : Obj} : hput h b o b = some o := by simp [hput]
theorem hput_ne {h : Heap} {b k : Nat} {o : Obj} (e : k ≠ b) : hput h b o k = h k := by simp [hput, e]
theorem hput_hput {h : Heap} {b : Nat} {o o' : Obj} : hput (hput h b o) b o' = hput h b o' := by
 funext k
 unfold hput
 split <;> rfl
section
variable {w0 w w' : World} {hz hz' : Heap} {L : List Ch}
theorem Mem.weak (h : Heap.le hz hz') (hm : Mem w0 hz' w L) : Mem w0 hz w L := by
 obtain ⟨Fs, h1, h2, h3⟩ := hm.chs
 refine ⟨hm.same, Heap.le_trans h hm.lez, Fs, h1, h2, fun i b hb => ⟨?_, (h3 i b hb).2⟩⟩
 cases e : hz b with
 | none => rfl
 | some o => exact absurd (h3 i b hb).1 (by simp [h b o e])
theorem Mem.lay (hm : Mem w0 hz w L) (o : Obj) : Mem w0 (hput hz w.heap.size o) (w.alloc o) L := by
 obtain ⟨Fs, h1, h2, h3⟩ := hm.chs
 refine ⟨hm.same.trans ⟨rfl, rfl, rfl, by simp⟩, ?_, Fs, ?_, h2, fun i b hb => ⟨?_, by have := (h3 i b hb).2; simp; omega⟩⟩
 ·intro b o' h
  by_cases e : b = w.heap.size
  ·subst e
   rw [hput_at] at h
   cases h
   exact World.alloc_heap_new w o
  ·rw [hput_ne e] at h
   exact (Below.heap_alloc w o b (hm.hz_lt h)).trans (hm.lez b o' h)
 ·intro i c hi
  exact c.loc _ _ _ (h1 i c hi) fun b hb => Below.heap_alloc w o b (h3 i b hb).2
 ·have := (h3 i b hb).2
  rw [hput_ne (by omega)]
  exact (h3 i b hb).1
theorem Mem.turn (hm : Mem w0 hz w L) {l : Nat} {o : Obj} (ho : hz l = some o) (o' : Obj) : Mem w0 (hput hz l o') (w.putObj l o') L := by
 obtain ⟨Fs, h1, h2, h3⟩ := hm.chs
 have hl := hm.hz_lt ho
 have hne : ∀ i b, Fs i b → b ≠ l := fun i b hb e => by
  have := (h3 i b hb).1
  rw [e, ho] at this
  cases this
 refine ⟨hm.same.trans ⟨rfl, rfl, rfl, by simp⟩, ?_, Fs, ?_, h2, fun i b hb => ⟨?_, by have := (h3 i b hb).2; simpa using this⟩⟩
 ·intro b o1 h
  by_cases e : b = l
  ·subst e
   rw [hput_at] at h
   cases h
   exact World.putObj_heap_same hl
  ·rw [hput_ne e] at h
   exact (World.putObj_heap_other e).trans (hm.lez b o1 h)
 ·intro i c hi
  exact c.loc _ _ _ (h1 i c hi) fun b hb => World.putObj_heap_other (hne i b hb)
 ·rw [hput_ne (hne i b hb)]
  exact (h3 i b hb).1
end
def Back2 (P : Program) (f : FuncId) : Prop := ∀ (xs : List Int) (b : Nat) (v : Value) (lp : Nat) (J : Nat → World → Prop) (W : World),
 (∀ k W, J k W → W.cell? ⟨b, 0, none⟩ = some v ∧ GT.rep (hp W) [v] xs) →
 (∀ k j W, k + (j + 1) = xs.length → J k W → ∀ m, YieldAt Fence.wide m P lp #[.int .i64 (j : Int), .int .i64 (xs.getD j 0)] W fun e W' => e = .returned (.bool true) ∧ J (k + 1) W') →
 J 0 W → ∀ n, CallsIn Fence.wide n P f #[.func (.yield lp) #[] #[], .pointer (some ⟨b, 0, none⟩)] W fun e W' => (∃ v, e = .returned v) ∧ J xs.length W'
def backM {S : Type} (body : Int → Int → S → Option S) (xs : List Int) : Nat → S → Option S
 | 0, s => some s
 | k + 1, s => Option.bind (body (k : Int) (xs.getD k 0) s) fun s => backM body xs k s
def Gt (w0 : World) (hz : Heap) (L : List Ch) (φ : Heap → Act → World → Prop) (w : World) (a : Act) (w' : World) : Prop :=
 w' = w ∧ ∀ hz2 w2, Heap.le hz hz2 → Mem w0 hz2 w2 L → φ hz2 a w2
abbrev mark (D : Nat) : List Deferred := [{ target := .collected D, args := #[] }]
theorem not_lets {K : Act → World → Prop} : ¬ LetsOut (Exit.then K (fun _ _ _ => False)) := fun ⟨_, _, h⟩ => h
theorem wk_back {S : Type} {P : Program} {gf n0 i1 i2 k1 k2 b T : Nat} {g : Operand} {ps : Array Tmp} {assign body : Code} {Q : Exit → Act → World → Prop} {a : Act} {w w0 : World} {hz : Heap} {l : Env} {v : Value} {xs : List Int}
  (hB : Back2 P gf) (hcf : ∀ args w, (callFunc gf args).run P w = .ok (.enter gf args) w) (hf : Fr n0 l a) (hg : ev l g = some (.func (.func gf) #[] #[.pointer (some ⟨b, 0, none⟩)]))
  (hps : ps = #[i1, i2]) (hi1 : Nat.blt i1 n0 = true) (hi2 : Nat.blt i2 n0 = true) (bodyM : Int → Int → S → Option S) {s0 r : S} (hx : backM bodyM xs xs.length s0 = some r) (L' : S → List Ch) (hm : Mem w0 hz w (L' s0))
  (h1 : ∀ s, (L' s)[k1]? = some (blk b [v] T)) (h2 : ∀ s, (L' s)[k2]? = some (ow [v] xs)) (hna : nodef assign = true) (hnb : nodef body = true)
  (hr : ∀ i e s q W a, bodyM i e s = some q → Fr n0 ((i2, .int .i64 e) :: (i1, .int .i64 i) :: l) a →
   assign.wk P (Exit.then (Gt w0 hz (L' s) (fun hz2 => body.wk P (Exit.then (fun _ W3 => Mem w0 hz2 W3 (L' q)) (fun _ _ _ => False))) W) (fun _ _ _ => False)) a W)
  (hd : ∀ D hz2 W, Heap.le hz hz2 → hz D = none → hz2 D = some (.deferred (some [])) → Mem w0 hz2 W (L' r) → Q .normal (a.up (mark D)) W) : (Code.rangeFunc g ps assign body).wk P Q a w := by
 intro ds
 refine ⟨(wpIn_wide (n := 1)).1 (wpIn_rangeFunc ?_), fun hn => by simp [nodef] at hn⟩
 intro fn _
 have hge : (a.up ds).eval g = .func (.func gf) #[] #[.pointer (some ⟨b, 0, none⟩)] := by rw [up_eval]; exact hf.eval hg
 obtain ⟨rec, hrec⟩ : ∃ rec : LoopState → Option Code → Loop, rec = fun st pe => { state := st, pending := pe, fn, tmps := a.tmps, params := ps, assign, body, defers := w.heap.size } := ⟨_, rfl⟩
 have m1 := hm.lay (.deferred (some []))
 have m2 := m1.lay (.loop (rec .ready none))
 have hsz : (w.alloc (.deferred (some []))).heap.size = w.heap.size + 1 := by simp
 rw [hsz] at m2
 obtain ⟨hD, hhD⟩ : ∃ h, h = hput hz w.heap.size (.deferred (some [])) := ⟨_, rfl⟩
 rw [← hhD] at m2
 have hzD : hz w.heap.size = none := hm.hz_new (Nat.le_refl _)
 have hzl : hz (w.heap.size + 1) = none := hm.hz_new (Nat.le_succ _)
 have hle : ∀ o, Heap.le hz (hput hD (w.heap.size + 1) o) := fun o k o' h => by
  rw [hput_ne (fun e => by rw [e, hzl] at h; cases h), hhD, hput_ne (fun e => by rw [e, hzD] at h; cases h)]
  exact h
 have hDat : ∀ o, hput hD (w.heap.size + 1) o w.heap.size = some (.deferred (some [])) := fun o => by
  rw [hput_ne (by omega), hhD, hput_at]
 obtain ⟨W1, hW1⟩ : ∃ W1, (w.alloc (.deferred (some []))).alloc (.loop (rec .ready none)) = W1 := ⟨_, rfl⟩
 rw [hW1] at m2
 refine ⟨w.heap.size + 1, mark w.heap.size, W1, { target := .fn (.func gf) #[.pointer (some ⟨b, 0, none⟩)], args := #[.func (.yield (w.heap.size + 1)) #[] #[]] }, W1, gf,
  #[.func (.yield (w.heap.size + 1)) #[] #[], .pointer (some ⟨b, 0, none⟩)], W1, ?_, ?_, fun _ _ => trivial, ?_, fun h => by simp [Fence.wide] at h, ?_⟩
 ·rw [← hW1, hrec]; exact run_enterLoop_outer _ _ _ _ _
 ·simp only [resolve, hge]
  simp [go_sem]
 ·simp [invoke, go_sem, hcf]
 refine CallsIn.mono (hB xs b v (w.heap.size + 1) (fun k W => ∃ j, k + j = xs.length ∧ ∃ s, backM bodyM xs j s = some r ∧ Mem w0 (hput hD (w.heap.size + 1) (.loop (rec .ready none))) W (L' s)) W1 ?_ ?_ ⟨xs.length, by omega, s0, hx, m2⟩ _) ?_
 ·rintro k W ⟨j, _, s, _, hmW⟩
  exact ⟨hmW.blk_cell k1 (h1 s) rfl, hmW.ow_rep k2 (h2 s)⟩
 ·rintro k j W hkj ⟨j', hj', s, hs, hmW⟩ m
  obtain rfl : j' = j + 1 := by omega
  simp only [backM] at hs
  obtain ⟨q, hb, hq⟩ := Option.bind_eq_some_iff.1 hs
  have hl : W.heap[w.heap.size + 1]? = some (.loop (rec .ready none)) := hmW.lez _ _ hput_at
  have hy := run_yield (P := P) (args := #[.int .i64 (j : Int), .int .i64 (xs.getD j 0)]) hl (by rw [hrec, hps]; rfl)
  rw [hrec] at hy
  refine ⟨fn, _, assign, body, hy, roundIn_of_wpIn trivial ?_⟩
  have h0 := hr (j : Int) (xs.getD j 0) s q W { tmps := (ps.zip #[.int .i64 (j : Int), .int .i64 (xs.getD j 0)]).foldl (fun t p => t.setIfInBounds p.1 p.2) a.tmps, defers := [] } hb (by
   have f1 := (hf.put (v := .int .i64 (j : Int)) hi1).put (v := .int .i64 (xs.getD j 0)) hi2
   have e : (ps.zip #[.int .i64 (j : Int), .int .i64 (xs.getD j 0)]).foldl (fun t p => t.setIfInBounds p.1 p.2) a.tmps = (a.tmps.setIfInBounds i1 (.int .i64 (j : Int))).setIfInBounds i2 (.int .i64 (xs.getD j 0)) := by rw [hps]; generalize xs.getD j 0 = y; generalize (j : Int) = x; simp
   rw [e]
   exact ⟨f1.size, rfl, f1.get⟩)
  refine Code.wpIn_mono ?_ (wk_in h0 hna not_lets (w.heap.size + 1) m)
  rintro e a' W' h
  cases e with
  | normal =>
   obtain ⟨rfl, hbody⟩ := h
   refine ⟨_, run_beginRound hl (by rw [hrec]), ?_⟩
   have m3 := hmW.turn hput_at (.loop { rec .ready none with state := .busy })
   rw [hput_hput] at m3
   have h3 := hbody _ _ (hle _) m3
   refine Code.wpIn_mono ?_ (wk_in h3 hnb not_lets (w.heap.size + 1) m)
   rintro e a3 W3 h
   cases e with
   | normal =>
    have h : Mem w0 (hput hD (w.heap.size + 1) (.loop { rec .ready none with state := .busy })) W3 (L' q) := h
    have hl3 : W3.heap[w.heap.size + 1]? = some (.loop { rec .ready none with state := .busy }) := h.lez _ _ hput_at
    have m4 := h.turn hput_at (.loop (rec .ready none))
    rw [hput_hput] at m4
    refine ⟨_, _, run_endRound none hl3, rfl, j, by omega, q, hq, ?_⟩
    rw [hrec] at m4 ⊢
    exact m4
   | _ => exact h.elim
  | _ => exact h.elim
 ·rintro e W2 ⟨⟨u, rfl⟩, ⟨j, hj, s, hs, hm2⟩⟩
  obtain rfl : j = 0 := by omega
  simp only [backM, Option.some.injEq] at hs
  subst hs
  have hl : W2.heap[w.heap.size + 1]? = some (.loop (rec .ready none)) := hm2.lez _ _ hput_at
  subst hrec
  have hend := run_endLoop (P := P) hl (by simp)
  refine ⟨none, _, hend, a.up (mark w.heap.size), ?_, ?_⟩
  ·simp [Act.up, hf.defers]
  ·have m4 := hm2.turn hput_at (.loop { state := .exhausted, pending := none, fn, tmps := a.tmps, params := ps, assign, body, defers := w.heap.size })
   rw [hput_hput] at m4
   exact hd w.heap.size _ _ (hle _) hzD (hDat _) m4
def postK (P : Program) (fn : Func) (D : Nat) (R : Value → World → Prop) (e : Exit) (a : Act) (w : World) : Prop := match e with
 | .ret => a.defers = [] ∧ ∃ v, (∀ w, (results fn a.tmps).run P w = .ok v w) ∧ ∃ w', (Instr.takeDeferred D).run P w = .ok [] w' ∧ R v w'
 | _ => False
def postM (P : Program) (fn : Func) (R : Value → World → Prop) (e : Exit) (a : Act) (w : World) : Prop := ∃ D a0, a = a0.up (mark D) ∧ postK P fn D R e a0 w
theorem con_marks {P : Program} {f : FuncId} {fn : Func} {c : Code} {args : List Value} {w : World} {R : Value → World → Prop} {n : Nat} {l : Env}
  (hf : P.funcs[f]? = some fn) (hb : fn.body = some c) (hn : fn.ntmps = n) (hl : ∀ t v, lk l t = some v → args[t]? = some v) (hle : Nat.ble args.length n = true)
  (h : ∀ a, Fr n l a → c.wk P (postM P fn R) a w) : Con P f args w R := by
 refine (callsIn_wide (n := 1)).1 (callsIn_of_wp_marks hf hb trivial (wpIn_wide.2 (Code.wp_mono ?_ (wk_wp (h _ (by
  have : args.length ≤ n := Nat.le_of_ble_eq_true hle
  exact Fr.start (by simp [hn]; omega) (fun t v ht => by simpa using hl t v ht)))))))
 rintro e a w ⟨D, a0, rfl, h⟩
 cases e with
 | ret =>
  obtain ⟨hd, v, hv, w', ht, hr⟩ := h
  show LeavesInM Fence.wide 1 P fn (a0.up (mark D)).tmps (Rt R) (a0.up (mark D)).defers .returning w
  have : (a0.up (mark D)).defers = mark D := by simp [Act.up, hd]
  rw [this]
  exact ⟨by simp, .inl ⟨D, w', rfl, ht, v, hv w', hr⟩⟩
 | _ => exact h.elim
section
variable {ρ S : Type} {m : Option ρ} {r : ρ} {P : Program} {n : Nat} {l : Env} {w w0 : World} {hz : Heap} {L : List Ch} {R : ρ → Value → World → Prop} {fn : Func} {c : Code} {args : List Value} {f : FuncId} {Q : Exit → Act → World → Prop}
theorem gconM (hf : P.funcs[f]? = some fn) (h : (fn.body, fn.ntmps, Nat.ble args.length n) = (some c, n, true)) (k : ∀ r, G m r n (ix 0 args) (c.wk P (postM P fn (Jr R r))) w) : ConM P f args w m R := fun r hq =>
 con_marks hf (t3 h).1 (t3 h).2.1 (fun t v ht => by obtain ⟨j, h1, h2⟩ := ix_get ht; rw [h1, Nat.zero_add]; exact h2) (t3 h).2.2 fun a ha => k r hq a ha
theorem gKm {D : Nat} {rest : Code} {a : Act} (hf : Fr n l a) (he : m = some r) (k : G m r n l (rest.wk P (postK P fn D (Jr R r))) w) : rest.wk P (postM P fn (Jr R r)) (a.up (mark D)) w :=
 Code.wk_mono (fun _ _ _ ⟨a0, h1, h2⟩ => ⟨D, a0, h1, h2⟩) (wk_up (k he a hf) (mark D))
theorem gK1 {D : Nat} {t : Nat} {pay : ρ} {v : Value} (hr : fn.results = #[.tmp t]) (ht : lk l t = some v) (h : ∃ w', (Instr.takeDeferred D).run P w = .ok [] w' ∧ R pay v w') : G (some pay) r n l (postK P fn D (Jr R r) .ret) w := fun he a hf => by
 obtain rfl := Option.some.inj he
 exact ⟨hf.defers, v, fun w => by rw [results_tmp hr, hf.getD ht], h⟩
theorem Mem.shutK {hz2 : Heap} {D : Nat} (hm : Mem w0 hz2 w L) (hle : Heap.le hz hz2) (h1 : hz D = none) (h2 : hz2 D = some (.deferred (some []))) : ∃ w', (Instr.takeDeferred D).run P w = .ok [] w' ∧ Mem w0 hz w' L := by
 refine ⟨_, run_takeDeferred (hm.lez D _ h2), Mem.weak ?_ (hm.turn h2 (.deferred none))⟩
 intro b o hb
 rw [hput_ne (fun e => by rw [e, h1] at hb; cases hb)]
 exact hle b o hb
theorem gGt {φ : Heap → Act → World → Prop} (k : ∀ hz2 w2, Heap.le hz hz2 → Mem w0 hz2 w2 L → G m r n l (φ hz2) w2) : G m r n l (Gt w0 hz L φ w) w := fun he a hf =>
 ⟨rfl, fun hz2 w2 h1 h2 => k hz2 w2 h1 h2 he a hf⟩
def Mb (w0 : World) (L' : S → List Ch) (q : S) (hz : Heap) (_ : Act) (w : World) : Prop := Mem w0 hz w (L' q)
theorem gGz {L' : S → List Ch} {y s : S} (hm : Mem w0 hz w L) (js : List Nat) (h : (decide js.Nodup, js.map (fun j => L[j]?)) = (true, (L' y).map some)) : G (some y) s n l (Mb w0 L' s hz) w := fun he a hf => by
 obtain rfl := Option.some.inj he
 exact hm.pk js (t2_ h).1 (t2_ h).2
theorem gBf {kk : S → Option ρ} {bodyM : Int → Int → S → Option S} {s0 : S} {gf i1 i2 b T : Nat} {g : Operand} {ps : Array Tmp} {assign body rest : Code} {v : Value} {xs : List Int} (k1 k2 : Nat) (hB : Back2 P gf)
  (hcf : ∀ args w, (callFunc gf args).run P w = .ok (.enter gf args) w) (hm : Mem w0 hz w L) (L' : S → List Ch) (js : List Nat)
  (h0 : (decide js.Nodup, js.map (fun j => L[j]?), ev l g, ps, Nat.blt i1 n, Nat.blt i2 n, nodef assign, nodef body) = (true, (L' s0).map some, some (.func (.func gf) #[] #[.pointer (some ⟨b, 0, none⟩)]), #[i1, i2], true, true, true, true))
  (h1 : ∀ s, (L' s)[k1]? = some (blk b [v] T)) (h2 : ∀ s, (L' s)[k2]? = some (ow [v] xs)) (hQ : Q .normal = rest.wk P (postM P fn (Jr R r)))
  (hr : ∀ i e s q w, G (bodyM i e s) q n ((i2, .int .i64 e) :: (i1, .int .i64 i) :: l) (assign.wk P (Then (Gt w0 hz (L' s) (fun hz2 => body.wk P (Then (Mb w0 L' q hz2) (fun _ _ _ => False))) w) (fun _ _ _ => False))) w)
  (hd : ∀ D hz2 s w, Heap.le hz hz2 → hz D = none → hz2 D = some (.deferred (some [])) → Mem w0 hz2 w (L' s) → G (kk s) r n l (rest.wk P (postK P fn D (Jr R r))) w) :
  G (Option.bind (backM bodyM xs xs.length s0) kk) r n l ((Code.rangeFunc g ps assign body).wk P Q) w := fun he a hf => by
 obtain ⟨s, hs, hk⟩ := bnd he
 simp only [Prod.mk.injEq] at h0
 obtain ⟨g1, g2, g3, g4, g5, g6, g7, g8⟩ := h0
 refine wk_back hB hcf hf g3 g4 g5 g6 bodyM hs L' (hm.pk js g1 g2) h1 h2 g7 g8 (fun i e s q W a hb hfa => ?_) fun D hz2 W h3 h4 h5 h6 => ?_
 ·refine Code.wk_mono (fun e a w h => ?_) (hr i e s q W hb a hfa)
  cases e with
  | normal =>
   refine ⟨h.1, fun hz2 w2 h1 h2 => Code.wk_mono (fun e a w h => ?_) (h.2 hz2 w2 h1 h2)⟩
   cases e <;> exact h
  | _ => exact h
 ·rw [hQ]
  exact gKm hf hk (hd D hz2 s W h3 h4 h5 h6)
end
end Go.Wk
namespace Go.Wk
open Go Go.RowKit
section
variable {ρ : Type} {m : Option ρ} {r : ρ} {P : Program} {ops : Array Oper} {Q : Exit → Act → World → Prop} {n k : Nat} {l : Env} {w : World} {o : Oper} {rest : List Oper} {d : Nat} {v : Value} {c c' : Code} {f : FuncId} {fn : Func}
theorem oper_w {a : Act} {K : Act → World → Prop} (hh : o.wp P a w K Q) : o.wpIn Fence.wide k P a w K Q := by
 refine ⟨fun _ _ => trivial, ?_⟩
 show o.uponIn Fence.wide k P a K Q ((execOp a.eval o).run P w)
 unfold Oper.wp at hh
 revert hh
 generalize (execOp a.eval o).run P w = x
 intro hh
 cases x with
 | ok v w' =>
  cases v with
  | value v => exact hh
  | skip => exact hh
  | defer d => exact hh
  | enter f args => exact ⟨fun h => by simp [Fence.wide] at h, (callsIn_wide (n := k - 1)).2 hh⟩
  | row r args =>
   refine ⟨fun h => by simp [Fence.wide] at h, fun c cs _ => ?_⟩
   obtain ⟨v, w', hr, hs⟩ := hh c cs
   exact ⟨v, w', hr, stepsIn_wide.2 hs⟩
  | _ => exact hh.elim
 | halt s w' =>
  cases s <;> first | exact hh | exact hh.elim
abbrev wpW (k : Nat) (P : Program) (c : Code) (Q : Exit → Act → World → Prop) (a : Act) (w : World) : Prop := c.wpIn Fence.wide k P Q a w
abbrev wlW (k : Nat) (P : Program) (ops : Array Oper) (Q : Exit → Act → World → Prop) (os : List Oper) (a : Act) (w : World) : Prop := wpListIn Fence.wide k P ops Q os a w
theorem jS (h : G m r n l (wpW k P c (Then (wpW k P c' Q) Q)) w) : G m r n l (wpW k P (Code.seq c c') Q) w := fun he a hf =>
 wpIn_seq (Code.wpIn_mono (fun e _ _ h => by cases e <;> exact h) (h he a hf))
theorem jR {id : Nat} {os : List Oper} (h : G m r n l (wlW k P os.toArray Q os) w) : G m r n l (wpW k P (Code.region id os.toArray false) Q) w := fun he a hf => wpIn_region_lit (h he a hf)
theorem jE (h : G m r n l (Q .normal) w) : G m r n l (wlW k P ops Q []) w := h
theorem jY (h : Yd P ops n l w o d v) (hk : G m r n ((d, v) :: l) (wlW k P ops Q rest) w) : G m r n l (wlW k P ops Q (o :: rest)) w := fun he a hf => by
 unfold wlW wpListIn
 rw [if_pos (gd_ok hf h.1.1)]
 exact oper_w (wp_of_yl hf h.2 (by rw [h.1.2.1]; exact hk he _ (hf.put h.1.2.2)))
theorem jCt {o : Operand} (h : ev l o = some (.bool true)) (hk : G m r n l (wpW k P c Q) w) : G m r n l (wpW k P (Code.cond o c c') Q) w := fun he a hf => wpIn_cond_true (hf.eval h) (hk he a hf)
theorem jCf {o : Operand} (h : ev l o = some (.bool false)) (hk : G m r n l (wpW k P c' Q) w) : G m r n l (wpW k P (Code.cond o c c') Q) w := fun he a hf => wpIn_cond_false (hf.eval h) (hk he a hf)
theorem jSk (h : G m r n l (Q .normal) w) : G m r n l (wpW k P Code.skip Q) w := fun he a hf => wpIn_skip (h he a hf)
theorem jXt {id : Nat} (h : G m r n l (Q (.exit id)) w) : G m r n l (wpW k P (Code.exit id) Q) w := fun he a hf => wpIn_exit (h he a hf)
theorem jBk {id : Nat} (h : G m r n l (wpW k P c (InBlk id Q)) w) : G m r n l (wpW k P (Code.block id c) Q) w := fun he a hf =>
 wpIn_block (Code.wpIn_mono (fun e a w h => by
  cases e with
  | exit i =>
   have h : (bif Nat.beq i id then Q .normal else Q (.exit i)) a w := h
   show if i = id then Q .normal a w else Q (.exit i) a w
   by_cases e : i = id
   ·subst e
    rw [if_pos rfl]
    rw [show Nat.beq i i = true from Nat.beq_refl i] at h
    exact h
   ·rw [if_neg e]
    have : Nat.beq i id = false := by
     cases hb : Nat.beq i id with
     | false => rfl
     | true => exact absurd (Nat.eq_of_beq_eq_true hb) e
    rw [this] at h
    exact h
  | _ => exact h) (h he a hf))
theorem jYd {lp : Nat} {ars : List Operand} {vs : List Value} {x : Operand} {tys : Array TypeId} {R : World → Prop}
  (h : (gd ops l o.guard, o.dst, Nat.blt d n, o.op, ev l x, evs l ars) = (true, some d, true, .call { callee := .value x, args := ars.toArray, argTypes := tys }, some (.func (.yield lp) #[] #[]), some vs))
  (hy : ∀ m, YieldAt Fence.wide m P lp vs.toArray w fun e w' => e = .returned (.bool true) ∧ R w') (hk : ∀ w', R w' → G m r n ((d, .bool true) :: l) (wlW k P ops Q rest) w') : G m r n l (wlW k P ops Q (o :: rest)) w := fun he a hf => by
 obtain ⟨h1, h2, h3, h4, h5, h6⟩ := t6 h
 unfold wlW wpListIn
 rw [if_pos (gd_ok hf h1)]
 refine ⟨fun _ _ => trivial, ?_⟩
 obtain ⟨fn, tmps, assign, body, e1, e2⟩ := hy (k - 1)
 show o.uponIn Fence.wide k P a _ Q ((execOp a.eval o).run P w)
 have e3 : (execOp a.eval o).run P w = .ok (.round lp fn tmps assign body) w := by
  have e4 := hf.eval h5
  have e5 := hf.evals h6
  simp only [execOp, h4, resolve, e4]
  simp [invoke, go_sem, e5, e1]
 rw [e3]
 refine ⟨fun h => by simp [Fence.wide] at h, RoundIn.mono e2 ?_⟩
 rintro e w' ⟨rfl, hR⟩
 show wpListIn Fence.wide k P ops Q rest (a.put o.dst (.bool true)) w'
 rw [h2]
 exact hk w' hR he _ (hf.put h3)
theorem jDn {I : Nat → Act → World → Prop} (k0 : Nat) (h0 : ∀ a, Fr n l a → I k0 a w) (mu : Act → Nat) (hmu : ∀ j a w, I j a w → mu a = j)
  (hr : ∀ j a w, I (j + 1) a w → wpW k P c (Then (I j) Q) a w) (he : ∀ a w, I 0 a w → wpW k P c (Then (fun _ _ => False) Q) a w) : G m r n l (wpW k P (Code.loop c) Q) w := fun _ a hf => by
 refine wpIn_loop (fun a w => ∃ j, I j a w) (fun a _ => mu a) ⟨k0, h0 a hf⟩ ?_
 rintro a w ⟨j, hI⟩
 cases j with
 | zero =>
  refine Code.wpIn_mono (fun e a' w' h => ?_) (he a w hI)
  cases e with
  | normal => exact h.elim
  | _ => exact h
 | succ j =>
  refine Code.wpIn_mono (fun e a' w' h => ?_) (hr j a w hI)
  cases e with
  | normal =>
   refine ⟨⟨j, h⟩, ?_⟩
   rw [hmu _ _ _ h, hmu _ _ _ hI]
   exact Nat.lt_succ_self j
  | _ => exact h
theorem jCon {args : List Value} {R : Ending → World → Prop} (hf : P.funcs[f]? = some fn) (h : (fn.body, fn.ntmps, Nat.ble args.length n) = (some c, n, true)) (hk : G (some ()) () n (ix 0 args) (wpW k P c (bodyPost P fn R)) w) : CallsIn Fence.wide k P f args.toArray w R := by
 obtain ⟨h1, h2, h3⟩ := t3 h
 refine callsIn_of_wp hf h1 trivial (hk rfl _ ?_)
 have : args.length ≤ n := Nat.le_of_ble_eq_true h3
 exact Fr.start (by simp [h2]; omega) (fun t v ht => by obtain ⟨j, e1, e2⟩ := ix_get ht; rw [e1, Nat.zero_add]; simpa using e2)
theorem jEnd {R : Ending → World → Prop} (hr : fn.results = #[]) (h : R (.returned (.tuple #[])) w) : G m r n l (bodyPost P fn R .normal) w := fun _ a hf => ⟨hf.defers, .tuple #[], by rw [results_none hr], h⟩
end
theorem rep_cell {w : World} {v : Value} {xs : List Int} (hr : GT.rep (hp w) [v] xs) {i : Nat} (hi : i < xs.length) :
  ∃ b off cap, v = .slice (some ⟨b, off, none⟩) xs.length cap ∧ w.cell? ⟨b, off + i * 1, none⟩ = some (.int .i64 (xs.getD i 0)) := by
 obtain ⟨b, off, cap, e, cs, h1, h2⟩ := (rep_list.1 hr).at hi
 refine ⟨b, off, cap, e, ?_⟩
 have h2 : cs = [.int .i64 xs[i]] := h2
 subst h2
 obtain ⟨C, T, fz, g1, g2⟩ := h1
 have g3 := g2 0 _ rfl
 have g1 : w.heap[b]? = some (.cells C T fz) := g1
 have : (GT.sz Int) = 1 := rfl
 rw [this] at g3
 simp only [World.cell?, g1]
 rw [List.getD_eq_getElem?_getD, List.getElem?_eq_getElem hi]
 simpa using g3
section
variable {β : Type}
theorem cf_add {c : Int} : CommF (fun s : Int => some (w64 (s + c))) (fun s : Int => some (w64 (s + c))) := fun _ => rfl
theorem cf_sm {S : Type} {g : S → Option S} : CommF some g := cf_some
theorem cf_ms {S : Type} {g : S → Option S} : CommF g some := cf_symm cf_some
theorem cf_ins {a b : Int} {u : β} : CommF (fun s : MapS β => some (s.ins a u)) (fun s : MapS β => some (s.ins b u)) := fun s => by
 show some ((s.ins a u).ins b u) = some ((s.ins b u).ins a u)
 rw [ins_comm]
end
end Go.Wk
namespace Go.Wk
open Go Go.RowKit
def hupd (h : Heap) (b i : Nat) (v : Value) : Heap := fun c => if c = b then (match h b with | some (.cells C T fz) => some (.cells (C.setIfInBounds i v) T fz) | o => o) else h c
def hcell (h : Heap) (b i : Nat) (v : Value) : Prop := ∃ C T, h b = some (.cells C T (0, 0)) ∧ C[i]? = some v
theorem hupd_ne {h : Heap} {b i c : Nat} {v : Value} (e : c ≠ b) : hupd h b i v c = h c := by simp [hupd, e]
theorem hupd_at {h : Heap} {b i : Nat} {v : Value} {C : Array Value} {T : TypeId} {fz : Nat × Nat} (e : h b = some (.cells C T fz)) : hupd h b i v b = some (.cells (C.setIfInBounds i v) T fz) := by simp [hupd, e]
theorem hupd_self {h : Heap} {b i : Nat} {v : Value} (e : hcell h b i v) : hupd h b i v = h := by
 obtain ⟨C, T, h1, h2⟩ := e
 funext c
 by_cases e : c = b
 ·subst e
  rw [hupd_at h1, h1]
  congr 2
  apply Array.ext
  ·simp
  ·intro j h3 h4
   rw [Array.getElem_setIfInBounds h4]
   split
   ·rename_i e; subst e
    rw [Array.getElem?_eq_getElem h4] at h2
    exact (Option.some.inj h2).symm
   ·rfl
 ·exact hupd_ne e
theorem hcell_upd {h : Heap} {b i : Nat} {u v : Value} (e : hcell h b i u) : hcell (hupd h b i v) b i v := by
 obtain ⟨C, T, h1, h2⟩ := e
 refine ⟨_, T, hupd_at h1, ?_⟩
 have := (Array.getElem?_eq_some_iff.1 h2).1
 simp [this]
theorem hupd_upd {h : Heap} {b i : Nat} {u v : Value} : hupd (hupd h b i u) b i v = hupd h b i v := by
 funext c
 by_cases e : c = b
 ·subst e
  unfold hupd
  simp only [if_true]
  cases h c with
  | none => rfl
  | some o => cases o <;> simp
 ·rw [hupd_ne e, hupd_ne e, hupd_ne e]
theorem hp_setCell (w : World) (b i : Nat) (v : Value) : hp (w.setCell ⟨b, i, none⟩ v) = hupd (hp w) b i v := by
 funext c
 show (w.setCell ⟨b, i, none⟩ v).heap[c]? = _
 simp only [World.setCell, Array.getElem?_modify]
 by_cases e : b = c
 ·subst e
  unfold hupd hp
  simp only [if_true]
  cases w.heap[b]? with
  | none => rfl
  | some o => cases o <;> simp
 ·rw [if_neg e, hupd_ne (fun h => e h.symm)]; rfl
def celc (h0 : Heap) (b i : Nat) (v : Value) : Ch where
 pr F h := F b ∧ h b = hupd h0 b i v b ∧ ∃ u, hcell h0 b i u
 loc _ _ _ hp hh := ⟨hp.1, (hh b hp.1).trans hp.2.1, hp.2.2⟩
 mono _ _ _ hp hF := ⟨hF b hp.1, hp.2⟩
section
variable {P : Program} {a : Act} {w w0 : World} {hz : Heap} {L : List Ch} {o : Oper} {n : Nat} {l : Env} {x y : Operand} {v u : Value} {b i : Nat} {t : TypeId} {h0 : Heap}
theorem Mem.cel_at (hm : Mem w0 hz w L) (k : Nat) (hk : L[k]? = some (celc h0 b i v)) : hcell (hp w) b i v := by
 obtain ⟨F, hF, _⟩ := hm.get k hk
 obtain ⟨u, hu⟩ := hF.2.2
 obtain ⟨C, T, h1, h2⟩ := hcell_upd (v := v) hu
 exact ⟨C, T, by rw [hF.2.1]; exact h1, h2⟩
theorem hcell_cell (h : hcell (hp w) b i v) : w.cell? ⟨b, i, none⟩ = some v := by
 obtain ⟨C, T, h1, h2⟩ := h
 have h1 : w.heap[b]? = some (.cells C T (0, 0)) := h1
 simp [World.cell?, h1, h2]
theorem hcell_frozen (h : hcell (hp w) b i v) : w.frozen? ⟨b, i, none⟩ = false := by
 obtain ⟨C, T, h1, h2⟩ := h
 have h1 : w.heap[b]? = some (.cells C T (0, 0)) := h1
 simp [World.frozen?, h1]
theorem Mem.cel_cell (hm : Mem w0 hz w L) (k : Nat) (hk : L[k]? = some (celc h0 b i v)) : w.cell? ⟨b, i, none⟩ = some v := hcell_cell (hm.cel_at k hk)
theorem e_storeC (k : Nat) (hf : Fr n l a) (hm : Mem w0 hz w L) (hk : L[k]? = some (celc h0 b i u)) (hs : ∀ w, (sizeOf t).run P w = .ok 1 w) (ho : o.op = .store t x y)
  (hx : ev l x = some (.pointer (some ⟨b, i, none⟩))) (hy : ev l y = some v) (h1 : v.oneCell' = true) : Ef P a w o (fun _ w' => Mem w0 hz w' (L.set k (celc h0 b i v))) := by
 have hc := hm.cel_at k hk
 have hcell := hcell_cell hc
 have hfr := hcell_frozen hc
 have hcs : v.cells = #[v] := by cases v <;> first | rfl | cases h1
 refine ef_skip (w' := w.setCell ⟨b, i, none⟩ v) ?_ ?_
 ·simp [execOp, ho, hf.eval hx, hf.eval hy, Instr.storeAt, Instr.sureAddr, storeVar, hcs, hs, storeCells, add_none, run_store P w _ v _ h1, hcell, hfr]
 ·refine hm.upd k hk ⟨rfl, rfl, rfl, by simp [World.setCell]⟩ fun F hF hlt => ⟨F, fun _ h => .inl h, fun c hc => by simpa [World.setCell] using hlt c hc, ⟨hF.1, ?_, hF.2.2⟩, fun c _ hne => ?_⟩
  ·rw [hp_setCell]
   have e : hupd (hp w) b i v b = hupd (hupd h0 b i u) b i v b := by
    unfold hupd
    simp only [if_true]
    have := hF.2.1
    unfold hupd at this
    simp only [if_true] at this
    rw [this]
   rw [e, hupd_upd]
  ·have := congrFun (hp_setCell w b i v) c
   have e : c ≠ b := fun e => hne (by rw [e]; exact hF.1)
   rw [hupd_ne e] at this
   exact this
end
def VisitP (P : Program) (vf : Value) (f : Int → Option Int) (hzc : Heap) : Prop :=
 ∀ (w : World) (b i : Nat) (x y : Int), Heap.le hzc (hp w) → hcell (hp w) b i (.int .i64 x) → hzc b = none → f x = some y → FnOk P vf [.pointer (some ⟨b, i, none⟩)] w fun _ w' => Same w w' ∧ ∀ c, c < w.heap.size → hp w' c = hupd (hp w) b i (.int .i64 y) c
theorem visit_of {P : Program} {vf : Value} {f : Int → Option Int} {hzc : Heap}
  (H : ∀ (w : World) (hz h0 : Heap) (b i : Nat) (x y : Int), Heap.le hzc hz → Mem w hz w [celc h0 b i (.int .i64 x)] → f x = some y → FnOk P vf [.pointer (some ⟨b, i, none⟩)] w fun _ w' => Mem w hz w' [celc h0 b i (.int .i64 y)]) : VisitP P vf f hzc := by
 intro w b i x y hle hc hb hf
 have hm : Mem w (fun c => if c = b then none else hp w c) w [celc (hp w) b i (.int .i64 x)] := by
  refine ⟨Same.refl w, fun c o h => ?_, fun k c => k = 0 ∧ c = b, ?_, ?_, ?_⟩
  ·change (if c = b then none else hp w c) = some o at h
   split at h
   ·cases h
   ·exact h
  ·intro k c hk
   cases k with
   | zero =>
    simp at hk
    subst hk
    exact ⟨⟨rfl, rfl⟩, by rw [hupd_self hc], _, hc⟩
   | succ k => simp at hk
  ·rintro k j c hkj ⟨h1, _⟩ ⟨h2, _⟩
   exact hkj (h1.trans h2.symm)
  ·rintro k c ⟨_, rfl⟩
   obtain ⟨C, T, h1, _⟩ := hc
   exact ⟨by simp, hp_lt h1⟩
 obtain ⟨k, cs, e1, e2, e3⟩ := H w _ (hp w) b i x y (fun c o h => by
  have : c ≠ b := fun e => by rw [e, hb] at h; cases h
  simp only [this, if_false]
  exact hle c o h) hm hf
 refine ⟨k, cs, e1, e2, Calls.mono e3 ?_⟩
 intro e w' h
 cases e with
 | returned v =>
  have h : Mem w (fun c => if c = b then none else hp w c) w' [celc (hp w) b i (.int .i64 y)] := h
  refine ⟨h.same, fun c hc' => ?_⟩
  by_cases e : c = b
  ·subst e
   obtain ⟨F, hF, _⟩ := h.get 0 rfl
   exact hF.2.1
  ·rw [hupd_ne e]
   have h1 : hp w c = some w.heap[c] := Array.getElem?_eq_getElem hc'
   rw [h1]
   exact h.lez c _ (by simp only [e, if_false]; exact h1)
 | _ => exact h
section
variable {α β : Type} [GT α] [GT β]
def Deep (F : Nat → Prop) (h : Heap) (cs : List Value) (b i : Nat) (n : Int) (g : Int → α) : Prop := F b ∧ hcell h b i (.int .i64 n) ∧ ∀ y, GT.own F (hupd h b i (.int .i64 y)) cs (g y)
def Shal (F : Nat → Prop) (h : Heap) (cs : List Value) (d : Nat) (n : Int) (g : Int → α) : Prop := cs[d]? = some (.int .i64 n) ∧ ∀ y, GT.own F h (cs.set d (.int .i64 y)) (g y)
theorem shal_int {F : Nat → Prop} {h : Heap} {cs : List Value} {n : Int} (ho : GT.own F h cs n) : Shal F h cs 0 n (fun y => y) := by
 have e : cs = [.int .i64 n] := ho
 subst e
 exact ⟨rfl, fun y => (rfl : ([.int .i64 y] : List Value) = [.int .i64 y])⟩
theorem cells_uniq {h : Heap} {b o : Nat} {cs : List Value} {C : Array Value} {T : TypeId} {fz : Nat × Nat} (hc : CellsAt h b o cs) (hb : h b = some (.cells C T fz)) : seg C o cs.length = cs := by
 obtain ⟨C', T', fz', h1, h2⟩ := hc
 rw [hb] at h1
 cases h1
 apply List.ext_getElem?
 intro j
 by_cases hj : j < cs.length
 ·rw [seg_get hj, List.getElem?_eq_getElem hj]
  exact h2 j _ (List.getElem?_eq_getElem hj)
 ·have h3 : (seg C o cs.length)[j]? = none := List.getElem?_eq_none (by simp only [seg, List.length_take]; omega)
  rw [h3, List.getElem?_eq_none (by omega)]
theorem list_shal {F : Nat → Prop} {h : Heap} {b off len cap i d : Nat} {xs : List α} {cs : List Value} {x : α} {n : Int} {g : Int → α} (ho : GT.own F h [.slice (some ⟨b, off, none⟩) len cap] xs) (hx : xs[i]? = some x) (hc : CellsAt h b (off + i * GT.sz α) cs) (hl : cs.length = GT.sz α)
  (hs : ∀ G, GT.own G h cs x → Shal G h cs d n g) : Deep F h [.slice (some ⟨b, off, none⟩) len cap] b (off + i * GT.sz α + d) n (fun y => xs.set i (g y)) := by
 rcases own_list.1 ho with ⟨e, _⟩ | ⟨b', off', len', cap', C, T, hv, hF, hb, hlen, hcc, hmx, hsz, fps, h1, h2, h3⟩
 ·cases e
 ·cases hv
  have hi : i < xs.length := (List.getElem?_eq_some_iff.1 hx).1
  have hseg := cells_uniq hc hb
  rw [hl] at hseg
  have hown := h3 i x hx
  rw [hseg] at hown
  obtain ⟨s1, s2⟩ := hs _ hown
  have hd : d < GT.sz α := by have := (List.getElem?_eq_some_iff.1 s1).1; omega
  have hCd : C[off + i * GT.sz α + d]? = some (.int .i64 n) := by
   rw [← hseg, seg_get hd] at s1; exact s1
  refine ⟨hF, ⟨C, T, hb, hCd⟩, fun y => own_list.2 (.inr ⟨b, off, len, cap, C.setIfInBounds (off + i * GT.sz α + d) (.int .i64 y), T, rfl, hF, hupd_at hb, by simpa using hlen, hcc, hmx, by simpa using hsz, fps, h1, h2, fun j z hz => ?_⟩)⟩
  have hloc : ∀ c, fps j c → hupd h b (off + i * GT.sz α + d) (.int .i64 y) c = h c := fun c hcf => hupd_ne (h1 j c hcf).2
  by_cases e : j = i
  ·subst e
   rw [List.getElem?_set_self hi] at hz
   cases hz
   have hs2 : seg (C.setIfInBounds (off + j * GT.sz α + d) (.int .i64 y)) (off + j * GT.sz α) (GT.sz α) = cs.set d (.int .i64 y) := by
    rw [← hseg]
    apply List.ext_getElem?
    intro q
    by_cases hq : q < GT.sz α
    ·rw [seg_get hq, List.getElem?_set, Array.getElem?_setIfInBounds]
     by_cases e : d = q
     ·subst e
      have := (Array.getElem?_eq_some_iff.1 hCd).1
      simp [this, seg, hd]
      omega
     ·rw [if_neg (by omega), if_neg e, seg_get hq]
    ·rw [List.getElem?_eq_none (by simp only [seg, List.length_take]; omega), List.getElem?_eq_none (by simp only [List.length_set, seg, List.length_take]; omega)]
   rw [hs2]
   exact GT.own_loc (s2 y) hloc
  ·rw [List.getElem?_set_ne (Ne.symm e)] at hz
   have hs2 : seg (C.setIfInBounds (off + i * GT.sz α + d) (.int .i64 y)) (off + j * GT.sz α) (GT.sz α) = seg C (off + j * GT.sz α) (GT.sz α) := by
    refine seg_eq (by simp) fun q q1 q2 => ?_
    rw [Array.getElem?_setIfInBounds, if_neg]
    intro e2
    rcases Nat.lt_or_gt_of_ne e with h | h
    ·have := mul_lt_of (s := GT.sz α) h; omega
    ·have := mul_lt_of (s := GT.sz α) h; omega
   rw [hs2]
   exact GT.own_loc (h3 j z hz) hloc
theorem list_deep {F : Nat → Prop} {h : Heap} {b off len cap i b2 i2 : Nat} {xs : List α} {cs : List Value} {x : α} {n : Int} {g : Int → α} (ho : GT.own F h [.slice (some ⟨b, off, none⟩) len cap] xs) (hx : xs[i]? = some x) (hc : CellsAt h b (off + i * GT.sz α) cs) (hl : cs.length = GT.sz α)
  (hs : ∀ G, GT.own G h cs x → Deep G h cs b2 i2 n g) : Deep F h [.slice (some ⟨b, off, none⟩) len cap] b2 i2 n (fun y => xs.set i (g y)) := by
 rcases own_list.1 ho with ⟨e, _⟩ | ⟨b', off', len', cap', C, T, hv, hF, hb, hlen, hcc, hmx, hsz, fps, h1, h2, h3⟩
 ·cases e
 ·cases hv
  have hi : i < xs.length := (List.getElem?_eq_some_iff.1 hx).1
  have hseg := cells_uniq hc hb
  rw [hl] at hseg
  have hown := h3 i x hx
  rw [hseg] at hown
  obtain ⟨s0, s1, s2⟩ := hs _ hown
  have hb2 := h1 i b2 s0
  refine ⟨hb2.1, s1, fun y => own_list.2 (.inr ⟨b, off, len, cap, C, T, rfl, hF, by rw [hupd_ne (Ne.symm hb2.2)]; exact hb, by simpa using hlen, hcc, hmx, hsz, fps, h1, h2, fun j z hz => ?_⟩)⟩
  by_cases e : j = i
  ·subst e
   rw [List.getElem?_set_self hi] at hz
   cases hz
   rw [hseg]
   exact s2 y
  ·rw [List.getElem?_set_ne (Ne.symm e)] at hz
   exact GT.own_loc (h3 j z hz) fun c hcf => hupd_ne fun e2 => h2 i j c (Ne.symm e) (by rw [e2]; exact s0) hcf
theorem fst_shal {F : Nat → Prop} {h : Heap} {cs c d : List Value} {p : α × β} {n : Int} {k : Nat} {g : Int → α} (ho : GT.own F h cs p) (hcs : cs = c ++ d) (hl : c.length = GT.sz α) (hs : ∀ G, GT.own G h c p.1 → Shal G h c k n g) : Shal F h cs k n (fun y => (g y, p.2)) := by
 obtain ⟨c', d', e, G, H, g1, g2, g3, h1, h2⟩ := ho
 have hc : c = c' ∧ d = d' := by
  rw [e] at hcs
  have := (List.append_inj hcs (by rw [GT.len (GT.own_rep h1), hl]))
  exact ⟨this.1.symm, this.2.symm⟩
 obtain ⟨rfl, rfl⟩ := hc
 obtain ⟨s1, s2⟩ := hs G h1
 have hk : k < c.length := (List.getElem?_eq_some_iff.1 s1).1
 refine ⟨by rw [hcs, List.getElem?_append_left hk]; exact s1, fun y => ⟨c.set k (.int .i64 y), d, by rw [hcs, List.set_append_left _ _ hk], G, H, g1, g2, g3, s2 y, h2⟩⟩
theorem fst_deep {F : Nat → Prop} {h : Heap} {cs c d : List Value} {p : α × β} {n : Int} {b i : Nat} {g : Int → α} (ho : GT.own F h cs p) (hcs : cs = c ++ d) (hl : c.length = GT.sz α) (hs : ∀ G, GT.own G h c p.1 → Deep G h c b i n g) : Deep F h cs b i n (fun y => (g y, p.2)) := by
 obtain ⟨c', d', e, G, H, g1, g2, g3, h1, h2⟩ := ho
 have hc : c = c' ∧ d = d' := by
  rw [e] at hcs
  have := (List.append_inj hcs (by rw [GT.len (GT.own_rep h1), hl]))
  exact ⟨this.1.symm, this.2.symm⟩
 obtain ⟨rfl, rfl⟩ := hc
 obtain ⟨s0, s1, s2⟩ := hs G h1
 exact ⟨g1 b s0, s1, fun y => ⟨c, d, hcs, G, H, g1, g2, g3, s2 y, GT.own_loc h2 fun q hq => hupd_ne fun e => g3 b s0 (by rw [← e]; exact hq)⟩⟩
theorem snd_shal {F : Nat → Prop} {h : Heap} {cs c d : List Value} {p : α × β} {n : Int} {k : Nat} {g : Int → β} (ho : GT.own F h cs p) (hcs : cs = c ++ d) (hl : c.length = GT.sz α) (hs : ∀ G, GT.own G h d p.2 → Shal G h d k n g) : Shal F h cs (c.length + k) n (fun y => (p.1, g y)) := by
 obtain ⟨c', d', e, G, H, g1, g2, g3, h1, h2⟩ := ho
 have hc : c = c' ∧ d = d' := by
  rw [e] at hcs
  have := (List.append_inj hcs (by rw [GT.len (GT.own_rep h1), hl]))
  exact ⟨this.1.symm, this.2.symm⟩
 obtain ⟨rfl, rfl⟩ := hc
 obtain ⟨s1, s2⟩ := hs H h2
 refine ⟨by rw [hcs, List.getElem?_append_right (by omega), Nat.add_sub_cancel_left]; exact s1, fun y => ⟨c, d.set k (.int .i64 y), by rw [hcs, List.set_append_right _ _ (by omega), Nat.add_sub_cancel_left], G, H, g1, g2, g3, h1, s2 y⟩⟩
theorem snd_deep {F : Nat → Prop} {h : Heap} {cs c d : List Value} {p : α × β} {n : Int} {b i : Nat} {g : Int → β} (ho : GT.own F h cs p) (hcs : cs = c ++ d) (hl : c.length = GT.sz α) (hs : ∀ G, GT.own G h d p.2 → Deep G h d b i n g) : Deep F h cs b i n (fun y => (p.1, g y)) := by
 obtain ⟨c', d', e, G, H, g1, g2, g3, h1, h2⟩ := ho
 have hc : c = c' ∧ d = d' := by
  rw [e] at hcs
  have := (List.append_inj hcs (by rw [GT.len (GT.own_rep h1), hl]))
  exact ⟨this.1.symm, this.2.symm⟩
 obtain ⟨rfl, rfl⟩ := hc
 obtain ⟨s0, s1, s2⟩ := hs H h2
 exact ⟨g2 b s0, s1, fun y => ⟨c, d, hcs, G, H, g1, g2, g3, GT.own_loc h1 fun q hq => hupd_ne fun e => g3 q hq (by rw [e]; exact s0), s2 y⟩⟩
theorem Mem.visited {w0 w w' : World} {hz : Heap} {L : List Ch} {cs : List Value} {x : α} {b i : Nat} {n y : Int} {g : Int → α} (hm : Mem w0 hz w (ow cs x :: L)) (hd : ∀ F, GT.own F (hp w) cs x → Deep F (hp w) cs b i n g) (hs : Same w w') (hh : ∀ c, c < w.heap.size → hp w' c = hupd (hp w) b i (.int .i64 y) c) :
  Mem w0 hz w' (ow cs (g y) :: L) := by
 have := hm.upd (c' := ow cs (g y)) 0 rfl hs fun F hF hlt => by
  obtain ⟨s0, s1, s2⟩ := hd F hF
  refine ⟨F, fun _ h => .inl h, fun c hc => Nat.lt_of_lt_of_le (hlt c hc) hs.size, GT.own_loc (s2 y) fun c hc => hh c (hlt c hc), fun c hc hne => ?_⟩
  have := hh c hc
  rw [hupd_ne (fun e => hne (by rw [e]; exact s0))] at this
  exact this
 exact this
theorem Mem.spot {w0 w : World} {hz : Heap} {L : List Ch} {cs : List Value} {x : α} {b i : Nat} {n : Int} {g : Int → α} (hm : Mem w0 hz w (ow cs x :: L)) (hd : ∀ F, GT.own F (hp w) cs x → Deep F (hp w) cs b i n g) : hcell (hp w) b i (.int .i64 n) ∧ hz b = none := by
 obtain ⟨F, hF, h1⟩ := hm.get 0 rfl
 obtain ⟨s0, s1, _⟩ := hd F hF
 exact ⟨s1, (h1 b s0).2⟩
end
theorem FnOk.mono {P : Program} {fv : Value} {args : List Value} {w : World} {R R' : Value → World → Prop} (h : FnOk P fv args w R) (hr : ∀ v w', R v w' → R' v w') : FnOk P fv args w R' := by
 obtain ⟨k, cs, h1, h2, h3⟩ := h
 refine ⟨k, cs, h1, h2, Calls.mono h3 fun e w' h => ?_⟩
 cases e with
 | returned v => exact hr v w' h
 | _ => exact h
theorem gin {ρ : Type} {m : Option ρ} {r : ρ} {n : Nat} {l : Env} {w : World} {φ : Act → World → Prop} (k : m = some r → G (some r) r n l φ w) : G m r n l φ w := fun he => k he rfl
end Go.Wk
namespace Go.Wk
open Go Go.RowKit
def neM {β : Type} (m : MapS β) : Option Unit := if m.es.isEmpty = true then none else some ()
end Go.Wk
