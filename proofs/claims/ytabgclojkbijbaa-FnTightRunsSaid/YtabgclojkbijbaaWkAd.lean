/- A part of a proof: general laws of walks, no statement of the seat. -/
import Derived.Test.YtabgclojkbijbaaWkY
import Derived.Maps.RangeRun
import Derived.Shelf.Sort.Plain
import Derived.Shelf.Slices.In.SortNone
import Derived.Shelf.Slices.CompactI
import Derived.Lib.RowBridge
import Derived.Scope
import Derived.WideKeyEntry
import Derived.RangeFuncRecord
import Derived.RangeFuncLeaves
import Derived.RangeFuncSeq
import Derived.TacticsIn
namespace Go.Wk
open Go Go.RowKit
structure MapS (β : Type) where
  es : List (Int × β)
  so : es.Pairwise (fun a b => a.1 < b.1)
  deriving DecidableEq
instance {β : Type} : Inhabited (MapS β) := ⟨⟨[], .nil⟩⟩
namespace MapS
variable {β : Type}
def get (m : MapS β) (k : Int) : Option β := lookM m.es k
def mk0 : MapS β := ⟨[], .nil⟩
def ins (m : MapS β) (k : Int) (v : β) : MapS β :=
  ⟨m.es.filter (fun p => decide (p.1 < k)) ++ (k, v) :: m.es.filter (fun p => decide (k < p.1)), by
    refine List.pairwise_append.2 ⟨m.so.filter _, List.pairwise_cons.2 ⟨fun p hp => by simpa using (List.mem_filter.1 hp).2, m.so.filter _⟩, fun a ha b hb => ?_⟩
    have h1 : a.1 < k := by simpa using (List.mem_filter.1 ha).2
    rcases List.mem_cons.1 hb with e | hb
    · subst e; exact h1
    · have h2 : k < b.1 := by simpa using (List.mem_filter.1 hb).2
      omega⟩
def del (m : MapS β) (k : Int) : MapS β := ⟨m.es.filter (fun p => decide (p.1 ≠ k)), m.so.filter _⟩
def keys (m : MapS β) : List Int := m.es.map (·.1)
def len (m : MapS β) : Int := (m.es.length : Int)
theorem nodup (m : MapS β) : (m.es.map (·.1)).Nodup := by
  refine (List.pairwise_map.2 (m.so.imp ?_))
  intro a b h
  show a.1 ≠ b.1
  omega
end MapS
section
variable {β : Type}
theorem lookM_some {es : List (Int × β)} (hn : (es.map (·.1)).Nodup) {k : Int} {v : β} : lookM es k = some v ↔ (k, v) ∈ es := by
  unfold lookM
  constructor
  · intro h
    cases hq : findIx k es 0 with
    | none => rw [hq] at h; simp at h
    | some q =>
      obtain ⟨i, u⟩ := q
      rw [hq] at h
      simp at h
      subst h
      obtain ⟨_, h3⟩ := findIx_some hq
      exact List.mem_of_getElem? h3
  · intro h
    cases hq : findIx k es 0 with
    | none => exact absurd rfl (findIx_none.1 hq _ h)
    | some q =>
      obtain ⟨i, u⟩ := q
      obtain ⟨_, h3⟩ := findIx_some hq
      have h4 := List.mem_of_getElem? h3
      simp only [Option.map_some, Option.some.injEq]
      have key : ∀ (l : List (Int × β)), (l.map (·.1)).Nodup → (k, u) ∈ l → (k, v) ∈ l → u = v := by
        intro l
        induction l with
        | nil => intro _ h; simp at h
        | cons p l ih =>
          intro hn h1 h2
          rw [List.map_cons, List.nodup_cons] at hn
          rcases List.mem_cons.1 h1 with e1 | e1 <;> rcases List.mem_cons.1 h2 with e2 | e2
          · rw [← e1] at e2; simpa using e2.symm
          · exact absurd (List.mem_map.2 ⟨_, e2, rfl⟩) (by rw [← e1] at hn; exact hn.1)
          · exact absurd (List.mem_map.2 ⟨_, e1, rfl⟩) (by rw [← e2] at hn; exact hn.1)
          · exact ih hn.2 e1 e2
      exact key es hn h4 h
theorem lookM_perm {es es' : List (Int × β)} (hp : es'.Perm es) (hn : (es.map (·.1)).Nodup) (k : Int) : lookM es' k = lookM es k := by
  have hn' : (es'.map (·.1)).Nodup := (hp.map _).nodup_iff.2 hn
  cases h : lookM es k with
  | none =>
    cases h' : lookM es' k with
    | none => rfl
    | some v => rw [lookM_some hn'] at h'; rw [(lookM_some hn).2 (hp.mem_iff.1 h')] at h; cases h
  | some v => rw [lookM_some hn] at h; rw [lookM_some hn']; exact hp.mem_iff.2 h
theorem set_perm {k : Int} {v : β} : ∀ {es : List (Int × β)} {i : Nat} {u : β}, (es.map (·.1)).Nodup → es[i]? = some (k, u) → (es.set i (k, v)).Perm ((k, v) :: es.filter (fun p => decide (p.1 ≠ k)))
  | [], i, u, _, h => by simp at h
  | p :: es, 0, u, hn, h => by
    simp at h
    subst h
    rw [List.map_cons, List.nodup_cons] at hn
    have : es.filter (fun p => decide (p.1 ≠ k)) = es := List.filter_eq_self.2 fun q hq => by
      have : q.1 ≠ k := fun e => hn.1 (List.mem_map.2 ⟨q, hq, e⟩)
      simpa using this
    rw [List.filter_cons, if_neg (by simp), this]
    exact List.Perm.refl _
  | p :: es, i + 1, u, hn, h => by
    rw [List.map_cons, List.nodup_cons] at hn
    have h' : es[i]? = some (k, u) := by simpa using h
    have hpk : p.1 ≠ k := fun e => hn.1 (List.mem_map.2 ⟨_, List.mem_of_getElem? h', e.symm⟩)
    have ih := set_perm (v := v) hn.2 h'
    simp only [List.set_cons_succ, List.filter_cons, hpk, ne_eq, not_false_eq_true, decide_true, if_true]
    exact (ih.cons p).trans (List.Perm.swap _ _ _)
theorem insM_perm {k : Int} {v : β} {es : List (Int × β)} (hn : (es.map (·.1)).Nodup) : (insM es k v).Perm ((k, v) :: es.filter (fun p => decide (p.1 ≠ k))) := by
  unfold insM
  cases hq : findIx k es 0 with
  | none =>
    have h := findIx_none.1 hq
    have : es.filter (fun p => decide (p.1 ≠ k)) = es := List.filter_eq_self.2 fun q hq => by
      have : q.1 ≠ k := fun e => h q hq e.symm
      simpa using this
    simp only [this]
    exact List.perm_append_singleton _ _
  | some q =>
    obtain ⟨i, u⟩ := q
    obtain ⟨_, h3⟩ := findIx_some hq
    exact set_perm hn h3
theorem MapS.ins_perm (m : MapS β) (k : Int) (v : β) : ((k, v) :: m.es.filter (fun p => decide (p.1 ≠ k))).Perm (m.ins k v).es := by
  refine List.Perm.trans ?_ List.perm_middle.symm
  refine List.Perm.cons _ ?_
  have h := List.filter_append_perm (fun p : Int × β => decide (p.1 < k)) (m.es.filter (fun p => decide (p.1 ≠ k)))
  refine h.symm.trans ?_
  rw [List.filter_filter, List.filter_filter]
  have e1 : m.es.filter (fun p => decide (p.1 < k) && decide (p.1 ≠ k)) = m.es.filter (fun p => decide (p.1 < k)) := List.filter_congr fun p _ => by
    by_cases h : p.1 < k <;> simp [h]; omega
  have e2 : m.es.filter (fun p => !decide (p.1 < k) && decide (p.1 ≠ k)) = m.es.filter (fun p => decide (k < p.1)) := List.filter_congr fun p _ => by
    rcases Int.lt_trichotomy p.1 k with h | h | h
    · have : ¬ k < p.1 := by omega
      simp [h, this]
    · simp [h]
    · have h1 : ¬ p.1 < k := by omega
      have h2 : p.1 ≠ k := by omega
      simp [h, h1, h2]
  rw [e1, e2]
end
class MV (β : Type) where
  venc : β → Value
  inj : ∀ a b, venc a = venc b → a = b
instance : MV Bool := ⟨.bool, fun a b h => by simpa using h⟩
instance : MV Int := ⟨.int .i64, fun a b h => by simpa using h⟩
def mapAt {β : Type} [MV β] (h : Heap) (r : Nat) (m : MapS β) : Prop :=
  ∃ (E : Array MapEntry) (clock : Nat) (es : List (Int × β)), h r = some (.map E clock) ∧ MapKept.Stamped E clock ∧ E.toList.map (fun e => (e.key, e.val)) = es.map (fun p : Int × β => (Value.int .i64 p.1, MV.venc p.2)) ∧ es.Perm m.es
instance {β : Type} [MV β] : GT (MapS β) where
  sz := 1
  rep h cs m := ∃ v, cs = [v] ∧ ((v = .map none ∧ m.es = []) ∨ ∃ r, v = .map (some r) ∧ mapAt h r m)
  own F h cs m := ∃ v, cs = [v] ∧ ((v = .map none ∧ m.es = []) ∨ ∃ r, v = .map (some r) ∧ F r ∧ mapAt h r m)
  len := by rintro h cs m ⟨v, rfl, _⟩; rfl
  mono := by
    rintro h h' cs m hh ⟨v, rfl, hr⟩
    refine ⟨v, rfl, ?_⟩
    rcases hr with hr | ⟨r, hv, E, c, es, h1, h2⟩
    · exact .inl hr
    · exact .inr ⟨r, hv, E, c, es, hh _ _ h1, h2⟩
  own_rep := by
    rintro F h cs m ⟨v, rfl, hr⟩
    refine ⟨v, rfl, ?_⟩
    rcases hr with hr | ⟨r, hv, _, h1⟩
    · exact .inl hr
    · exact .inr ⟨r, hv, h1⟩
  own_loc := by
    rintro F h h' cs m ⟨v, rfl, hr⟩ hh
    refine ⟨v, rfl, ?_⟩
    rcases hr with hr | ⟨r, hv, hF, E, c, es, h1, h2⟩
    · exact .inl hr
    · exact .inr ⟨r, hv, hF, E, c, es, (hh r hF).trans h1, h2⟩
  own_mono := by
    rintro F F' h cs m hF ⟨v, rfl, hr⟩
    refine ⟨v, rfl, ?_⟩
    rcases hr with hr | ⟨r, hv, h1, h2⟩
    · exact .inl hr
    · exact .inr ⟨r, hv, hF r h1, h2⟩
  one := by
    rintro h cs m ⟨v, rfl, hr⟩ u hu
    simp at hu
    subst hu
    rcases hr with ⟨rfl, _⟩ | ⟨r, rfl, _⟩ <;> rfl
section
variable {β : Type} [MV β] {P : Program} {a : Act} {w w0 : World} {hz : Heap} {L : List Ch} {o : Oper} {n : Nat} {l : Env} {x y z : Operand} {t kt vt : TypeId} {r : Nat} {m : MapS β} {v : Value}
theorem rep_map {h : Heap} : GT.rep h [v] m ↔ ((v = .map none ∧ m.es = []) ∨ ∃ r, v = .map (some r) ∧ mapAt h r m) := by
  constructor
  · rintro ⟨u, hu, hr⟩; simp at hu; subst hu; exact hr
  · intro hr; exact ⟨v, rfl, hr⟩
theorem own_map {F : Nat → Prop} {h : Heap} : GT.own F h [v] m ↔ ((v = .map none ∧ m.es = []) ∨ ∃ r, v = .map (some r) ∧ F r ∧ mapAt h r m) := by
  constructor
  · rintro ⟨u, hu, hr⟩; simp at hu; subst hu; exact hr
  · intro hr; exact ⟨v, rfl, hr⟩
theorem mapS_at {F : Nat → Prop} {h : Heap} (ho : GT.own F h [.map (some r)] m) : F r ∧ mapAt h r m := by
  rcases own_map.1 ho with ⟨e, _⟩ | ⟨r', e, h1, h2⟩
  · cases e
  · cases e; exact ⟨h1, h2⟩
theorem keys_nodup {E : Array MapEntry} {es : List (Int × β)} (hE : E.toList.map (fun e => (e.key, e.val)) = es.map (fun p => (Value.int .i64 p.1, MV.venc p.2))) (hp : es.Perm m.es) : (es.map (·.1)).Nodup := (hp.map _).nodup_iff.2 m.nodup
theorem e_mkS (hm : Mem w0 hz w L) (ho : o.op = .makeMap t none) :
    Ef P a w o (fun v w' => ∃ r, v = .map (some r) ∧ Mem w0 hz w' (ow [.map (some r)] (MapS.mk0 : MapS β) :: L)) :=
  ef_value (w' := w.alloc (.map #[] 0)) (v := .map (some w.heap.size)) (by simp [execOp, ho, Instr.makeMap])
    ⟨_, rfl, hm.more ⟨rfl, rfl, rfl, by simp⟩ (fun b hb => Below.heap_alloc w _ b hb) ⟨fun b => b = w.heap.size, fun b hb => by subst hb; simp, own_map.2 (.inr ⟨_, rfl, rfl, #[], 0, [], heap_alloc_new w _, MapKept.stamped_empty 0, by simp, .nil⟩)⟩⟩
theorem y_lookS2 {key : Int} {zv : Value} (hK : P.underlying kt = some (.int .i64)) (ht : P.underlying t = some (.map kt vt)) (hz0 : ∀ w, (zeroValue vt).run P w = .ok zv w) (hr : GT.rep (hp w) [v] m) (ho : o.op = .lookup t x y true)
    (hx : ev l x = some v) (hy : ev l y = some (.int .i64 key)) : Yl P l w o (.tuple #[(m.get key).elim zv MV.venc, .bool (m.get key).isSome]) := fun n a hf => by
  rcases rep_map.1 hr with ⟨rfl, he⟩ | ⟨r, rfl, E, clock, es, h1, h2, h3, h4⟩
  · have hc := (key_int hK).check 9999 true key w
    have hf2 := run_findKey (venc := MV.venc (β := β)) (key_int hK) (E := []) (es := []) rfl key w
    simp only [execOp, ho, hf.eval hx, hf.eval hy, Instr.lookup]
    simp [run_underlying ht, hc, hf2, hz0, MapS.get, he, lookM, findIx]
  · have hf2 := run_findKey (key_int hK) h3 key w
    have hc := (key_int hK).check 9999 E.isEmpty key w
    simp only [execOp, ho, hf.eval hx, hf.eval hy, Instr.lookup]
    simp [run_underlying ht, MapKept.run_getObj_map h1, hc, hf2]
    unfold MapS.get
    rw [← lookM_perm h4 m.nodup]
    unfold lookM
    cases findIx key es 0 with
    | none => simp [hz0]
    | some q => simp
theorem y_lenS (ht : P.underlying t = some (.map kt vt)) (hr : GT.rep (hp w) [v] m) (ho : o.op = .call { callee := .builtin .len, args := #[x], argTypes := #[t] }) (hx : ev l x = some v) : Yl P l w o (.int .i64 m.len) := fun n a hf => by
  rcases rep_map.1 hr with ⟨rfl, he⟩ | ⟨r, rfl, E, clock, es, h1, h2, h3, h4⟩
  · simp [execOp, ho, resolve, invoke, builtin, hf.eval hx, Builtin.len_, run_underlying ht, goInt, MapS.len, he]
  · have hl : E.size = m.es.length := by
      have := congrArg List.length h3
      simp at this
      rw [this, h4.length_eq]
    simp [execOp, ho, resolve, invoke, builtin, hf.eval hx, Builtin.len_, run_underlying ht, goInt, MapS.len, MapKept.run_getObj_map h1, hl]
theorem run_insS {key : Int} {u : β} {E : Array MapEntry} {clock : Nat} {es : List (Int × β)} (hK : P.underlying kt = some (.int .i64)) (ht : P.underlying t = some (.map kt vt)) (hb : w.heap[r]? = some (.map E clock)) (hs : MapKept.Stamped E clock)
    (hE : E.toList.map (fun e => (e.key, e.val)) = es.map (fun p => (Value.int .i64 p.1, MV.venc p.2))) :
    ∃ E' clock', (Instr.mapUpdate t (.map (some r)) (.int .i64 key) (MV.venc u)).run P w = .ok () { w with heap := w.heap.setIfInBounds r (.map E' clock') } ∧ MapKept.Stamped E' clock' ∧ E'.toList.map (fun e => (e.key, e.val)) = (insM es key u).map (fun p => (Value.int .i64 p.1, MV.venc p.2)) := by
  have hf2 := run_findKey (key_int hK) hE key w
  have hc := (key_int hK).check 9999 false key w
  unfold insM
  cases hq : findIx key es 0 with
  | none =>
    rw [hq] at hf2
    refine ⟨E.push { key := .int .i64 key, val := MV.venc u, born := clock }, clock + 1, ?_, ?_, ?_⟩
    · simp [Instr.mapUpdate, run_underlying ht, MapKept.run_getObj_map hb, hc, hf2, MapKept.run_setObj_map _ hb]
    · refine MapKept.stamped_push hs fun e he h => ?_
      have h1 : (e.key, e.val) ∈ es.map (fun p => (Value.int .i64 p.1, MV.venc p.2)) := by rw [← hE]; exact List.mem_map.2 ⟨e, he, rfl⟩
      obtain ⟨p, hp, h2⟩ := List.mem_map.1 h1
      simp only [Prod.mk.injEq] at h2
      rw [h] at h2
      have : p.1 = key := by simpa using h2.1
      exact findIx_none.1 hq p hp this.symm
    · simp [hE]
  | some q =>
    obtain ⟨i, v0⟩ := q
    rw [hq] at hf2
    obtain ⟨_, h3⟩ := findIx_some hq
    rw [Nat.sub_zero] at h3
    have hlen : E.toList.length = es.length := by have := congrArg List.length hE; simpa using this
    have hi := (List.getElem?_eq_some_iff.1 h3).1
    have hkey : (E[i]?).map (·.key) = some (.int .i64 key) := by
      have := congrArg (fun l => l[i]?) hE
      simp only [List.getElem?_map, h3, Option.map_some] at this
      cases he : E[i]? with
      | none => rw [← Array.getElem?_toList] at he; rw [he] at this; simp at this
      | some e => rw [← Array.getElem?_toList] at he; rw [he] at this; simp at this; simp [this.1]
    refine ⟨E.modify i fun e => { e with key := .int .i64 key, val := MV.venc u }, clock, ?_, ?_, ?_⟩
    · simp [Instr.mapUpdate, run_underlying ht, MapKept.run_getObj_map hb, hc, hf2, hkey, Instr.keyThatStays, (key_int hK).bits, MapKept.run_setObj_map _ hb]
    · refine MapKept.stamped_modify hs i _ (fun _ _ => rfl) fun e _ he => ?_
      rw [he] at hkey
      simpa using hkey.symm
    · apply List.ext_getElem?
      intro j
      have hj := congrArg (fun l => l[j]?) hE
      simp only [List.getElem?_map] at hj
      simp only [List.getElem?_map, Array.getElem?_toList, Array.getElem?_modify, List.getElem?_set]
      by_cases e : i = j
      · subst e
        simp only [if_true, hi]
        have : i < E.size := by simpa using (by rw [← hlen] at hi; exact hi : i < E.toList.length)
        simp [this]
      · simp only [e, if_false]
        rw [← hj, Array.getElem?_toList]
theorem e_insS {key : Int} {u : β} {b : Bool} (k : Nat) (hK : P.underlying kt = some (.int .i64)) (ht : P.underlying t = some (.map kt vt)) (hf : Fr n l a) (hm : Mem w0 hz w L) (hk : L[k]? = some (ow [.map (some r)] m)) (ho : o.op = if b then .insert t x y z else .mapUpdate t x y z)
    (hx : ev l x = some (.map (some r))) (hy : ev l y = some (.int .i64 key)) (hv : ev l z = some (MV.venc u)) :
    Ef P a w o (fun _ w' => Mem w0 hz w' (L.set k (ow [.map (some r)] (m.ins key u)))) := by
  obtain ⟨F0, hF0, _⟩ := hm.get k hk
  obtain ⟨_, E, clock, es, h1, h2, h3, h4⟩ := mapS_at hF0
  obtain ⟨E', clock', h5, h6, h7⟩ := run_insS (u := u) hK ht h1 h2 h3 (key := key)
  have hlt := (Array.getElem?_eq_some_iff.1 h1).1
  refine ef_skip (w' := { w with heap := w.heap.setIfInBounds r (.map E' clock') }) ?_ ?_
  · cases b <;> simp [execOp, ho, hf.eval hx, hf.eval hy, hf.eval hv, h5]
  · refine hm.upd k hk ⟨rfl, rfl, rfl, by simp⟩ fun F hF hFw => ⟨F, fun _ h => .inl h, fun c hc => by simpa using hFw c hc, own_map.2 (.inr ⟨r, rfl, (mapS_at hF).1, E', clock', insM es key u, ?_, h6, h7, ?_⟩), fun c _ hne => ?_⟩
    · simp [hp, hlt]
    · refine (insM_perm (keys_nodup h3 h4)).trans (List.Perm.trans ?_ (m.ins_perm key u))
      exact (h4.filter _).cons _
    · have : r ≠ c := fun e => hne (by subst e; exact (mapS_at hF).1)
      simp [Array.getElem?_setIfInBounds, this]
def owm (v : Value) (m : MapS β) : Ch where
  pr F h := ∃ r, v = .map (some r) ∧ F r ∧ mapAt h r m
  loc := fun F h h' ⟨r, hv, hF, E, c, es, h1, h2⟩ hh => ⟨r, hv, hF, E, c, es, (hh r hF).trans h1, h2⟩
  mono := fun F F' h ⟨r, hv, h1, h2⟩ hF => ⟨r, hv, hF r h1, h2⟩
theorem own_owm {F : Nat → Prop} {h : Heap} (ho : (owm v m).pr F h) : GT.own F h [v] m := own_map.2 (.inr ho)
theorem owm_own {F : Nat → Prop} {h : Heap} (ho : GT.own F h [.map (some r)] m) : (owm (.map (some r)) m).pr F h := ⟨r, rfl, mapS_at ho⟩
theorem Mem.owm_ow (hm : Mem w0 hz w L) (k : Nat) (hk : L[k]? = some (owm v m)) : Mem w0 hz w (L.set k (ow [v] m)) := hm.imp k hk fun _ h => own_owm h
theorem Mem.owm_rep (hm : Mem w0 hz w L) (k : Nat) (hk : L[k]? = some (owm v m)) : GT.rep (hp w) [v] m := by
  obtain ⟨F, hF, _⟩ := hm.get k hk
  exact GT.own_rep (own_owm hF)
theorem owm_form (hm : Mem w0 hz w L) (k : Nat) (hk : L[k]? = some (owm v m)) : ∃ r, v = .map (some r) := by
  obtain ⟨F, ⟨r, h, _⟩, _⟩ := hm.get k hk
  exact ⟨r, h⟩
theorem set_set {α : Type} (l : List α) (k : Nat) (x y : α) : (l.set k x).set k y = l.set k y := by simp
theorem e_mkM (hm : Mem w0 hz w L) (ho : o.op = .makeMap t none) : Ef P a w o (fun v w' => Mem w0 hz w' (owm v (MapS.mk0 : MapS β) :: L)) := fun K Q hk =>
  e_mkS (β := β) hm ho K Q fun v w' ⟨r, hv, hm'⟩ => hk v w' (by subst hv; exact hm'.imp 0 rfl fun _ h => owm_own h)
theorem e_insM {key : Int} {u : β} {b : Bool} (k : Nat) (hK : P.underlying kt = some (.int .i64)) (ht : P.underlying t = some (.map kt vt)) (hf : Fr n l a) (hm : Mem w0 hz w L) (hk : L[k]? = some (owm v m)) (ho : o.op = if b then .insert t x y z else .mapUpdate t x y z)
    (hx : ev l x = some v) (hy : ev l y = some (.int .i64 key)) (hv : ev l z = some (MV.venc u)) : Ef P a w o (fun _ w' => Mem w0 hz w' (L.set k (owm v (m.ins key u)))) := by
  obtain ⟨r, rfl⟩ := owm_form hm k hk
  have hlt := (List.getElem?_eq_some_iff.1 hk).1
  have hk' : (L.set k (ow [.map (some r)] m))[k]? = some (ow [.map (some r)] m) := List.getElem?_set_self hlt
  intro K Q hkk
  refine e_insS (u := u) k hK ht hf (hm.owm_ow k hk) hk' ho hx hy hv K Q fun v' w' h => hkk v' w' ?_
  rw [set_set] at h
  have := h.imp (c' := owm (.map (some r)) (m.ins key u)) k (List.getElem?_set_self hlt) fun _ h => owm_own h
  rwa [set_set] at this
end
end Go.Wk
namespace Go.Wk
open Go Go.RowKit
def oc (b : Nat) (o : Obj) : Ch where
  pr F h := F b ∧ h b = some o
  loc _ _ _ hp hh := ⟨hp.1, (hh b hp.1).trans hp.2⟩
  mono _ _ _ hp hF := ⟨hF b hp.1, hp.2⟩
section
variable {α S : Type}
def rangeM (body : α → S → Option S) : List α → S → Option S
  | [], s => some s
  | p :: es, s => Option.bind (body p s) (rangeM body es)
def Comm (body : α → S → Option S) : Prop := ∀ p q s, Option.bind (body p s) (body q) = Option.bind (body q s) (body p)
end
section
variable {β S : Type} [MV β]
noncomputable def dec (e : MapEntry) (z : Int × β) : Int × β := by
  classical exact if h : ∃ p : Int × β, (e.key, e.val) = (Value.int .i64 p.1, MV.venc p.2) then h.choose else z
end
section
variable {β S : Type} [MV β] {P : Program} {ops : Array Oper} {a : Act} {w w0 : World} {hz : Heap} {L : List Ch} {o : Oper} {n d : Nat} {l : Env} {x : Operand} {t kt vt ty : TypeId} {v : Value} {m : MapS β} {b : Nat} {seen : Array Nat}
def itc (hz : Heap) (v : Value) (b : Nat) (seen : Array Nat) : Ch where
  pr F h := F b ∧ ((v = .map none ∧ h b = some (.mapIter none 0 seen 0)) ∨ ∃ r E clock, v = .map (some r) ∧ hz r = some (.map E clock) ∧ h b = some (.mapIter (some r) clock seen clock))
  loc F h h' hp hh := ⟨hp.1, by rw [hh b hp.1]; exact hp.2⟩
  mono F F' h hp hF := ⟨hF b hp.1, hp.2⟩
def More (hz : Heap) (v : Value) (seen : Array Nat) (body : Int × β → S → Option S) (s : S) : Prop :=
  ∃ r E clock, v = .map (some r) ∧ hz r = some (.map E clock) ∧ MapKept.Stamped E clock ∧ (leftOf E seen).size ≠ 0 ∧ ∀ e ∈ (leftOf E seen).toList, ∃ p s', (e.key, e.val) = (Value.int .i64 p.1, MV.venc p.2) ∧ body p s = some s'
def NoMore (hz : Heap) (v : Value) (seen : Array Nat) : Prop :=
  v = .map none ∨ ∃ r E clock, v = .map (some r) ∧ hz r = some (.map E clock) ∧ MapKept.Stamped E clock ∧ (leftOf E seen).size = 0
def Got (hz : Heap) (v : Value) (seen : Array Nat) (bn : Nat) (p : Int × β) : Prop :=
  ∃ r E clock e, v = .map (some r) ∧ hz r = some (.map E clock) ∧ MapKept.Stamped E clock ∧ e ∈ (leftOf E seen).toList ∧ bn = e.born ∧ (e.key, e.val) = (Value.int .i64 p.1, MV.venc p.2)
def Rnd (hz : Heap) (v : Value) (seen : Array Nat) (body : Int × β → S → Option S) (s : S) (J : Array Nat → S → Act → World → Prop) (a : Act) (w : World) : Prop :=
  ∃ bn p s', Got hz v seen bn p ∧ body p s = some s' ∧ J (seen.push bn) s' a w
variable {ρ : Type} {c : Code} {Q : Exit → Act → World → Prop} {r : ρ} {s0 : S}
end
end Go.Wk
namespace Go.Wk
open Go Go.RowKit Go.Shelf
def sortI (xs : List Int) : List Int := xs.mergeSort fun x y => decide (x ≤ y)
section
variable {P : Program} {ρ : Ren} {w0 : World} {hz : Heap} {v : Value} {xs : List Int}
end
end Go.Wk
namespace Go.Wk
open Go Go.RowKit
section
variable {β ρ : Type} [MV β] {P : Program} {w0 : World} {hz : Heap} {n : Nat} {l : Env} {w : World} {v : Value} {m : MapS β} {c : Code} {Q : Exit → Act → World → Prop} {r : ρ}
end
section
variable {β : Type} [MV β] {w0 : World} {hz : Heap} {w : World} {L : List Ch} {v : Value} {m : MapS β}
end
section
variable {P : Program} {l : Env} {w : World} {o : Oper} {x y : Operand} {t kt vt : TypeId} {v : Value} {key : Int}
theorem y_lookI2 {m : MapS Int} (hK : P.underlying kt = some (.int .i64)) (ht : P.underlying t = some (.map kt vt)) (hz0 : ∀ w, (zeroValue vt).run P w = .ok (.int .i64 0) w) (hr : GT.rep (hp w) [v] m) (ho : o.op = .lookup t x y true)
    (hx : ev l x = some v) (hy : ev l y = some (.int .i64 key)) : Yl P l w o (.tuple #[.int .i64 ((m.get key).getD 0), .bool (m.get key).isSome]) := by
  have h := y_lookS2 (zv := .int .i64 0) hK ht hz0 hr ho hx hy
  cases e : m.get key <;> rw [e] at h <;> exact h
end
end Go.Wk
namespace Go.Wk
open Go Go.RowKit
theorem owm_one {β : Type} [MV β] {w0 w : World} {hz : Heap} {L : List Ch} {v : Value} {m : MapS β} (hm : Mem w0 hz w L) (k : Nat) (hk : L[k]? = some (owm v m)) : v.oneCell' = true := by
  obtain ⟨r, rfl⟩ := owm_form hm k hk
  rfl
end Go.Wk
namespace Go.Wk
open Go Go.RowKit
def subC (s : Nat) (v : Value) (lo hi : Nat) : Value := match v with
  | .slice p _ _ => .slice (if hi = lo then p else p.map (·.add (lo * s))) (hi - lo) (hi - lo)
  | v => v
section
variable {α : Type} [GT α] {h : Heap} {v : Value} {xs : List α} {lo hi : Nat} {F : Nat → Prop}
end
section
variable {α : Type} [GT α] {P : Program} {l : Env} {h : Heap} {o : Oper} {x yl yh ym : Operand} {t e : TypeId} {v : Value} {xs : List α} {lo hi : Int} {kl kh km : IntKind}
end
end Go.Wk
namespace Go.Wk
open Go Go.RowKit
section
variable {β S : Type}
open Classical in
noncomputable def onM (es : List (Int × β)) (body : Int × β → S → Option S) : Int × β → S → Option S := fun p => if p ∈ es then body p else fun _ => none
end
section
variable {β S ρ : Type} [MV β] {P : Program} {w0 : World} {hz : Heap} {n : Nat} {l : Env} {w : World} {v : Value} {m : MapS β} {c : Code} {Q : Exit → Act → World → Prop} {r : ρ}
end
theorem MapS.ext {β : Type} {m1 m2 : MapS β} (h : m1.es.Perm m2.es) : m1 = m2 := by
  have : m1.es = m2.es := by
    have h1 := m1.so; have h2 := m2.so
    refine List.Perm.eq_of_pairwise (le := fun a b => a.1 < b.1) (fun x y _ _ h3 h4 => by omega) h1 h2 h
  cases m1; cases m2; simp at this; subst this; rfl
def guardN (l : List Int) : Option _root_.Unit := if l.Nodup then some () else none
end Go.Wk
namespace Go.Wk
open Go Go.RowKit
abbrev InSc (Q : Exit → Act → World → Prop) (e : Exit) : Act → World → Prop := match e with
  | .goto _ => fun _ _ => False
  | e => Q e
section
variable {ρ : Type} {m : Option ρ} {r : ρ} {n : Nat} {l : Env} {w : World} {P : Program} {c : Code} {Q : Exit → Act → World → Prop}
end
end Go.Wk
namespace Go.Wk
open Go Go.RowKit
def MapO (β : Type) : Type := Option (MapS β)
def MapO.toS {β : Type} (x : MapO β) : MapS β := match x with | some m => m | none => MapS.mk0
def MapO.of {β : Type} (m : MapS β) : MapO β := some m
def MapO.nil {β : Type} : MapO β := none
def MapO.get {β : Type} (x : MapO β) : Option (MapS β) := x
instance {β : Type} : Inhabited (MapO β) := ⟨none⟩
instance {β : Type} [MV β] : GT (MapO β) where
  sz := 1
  rep h cs x := ∃ v, cs = [v] ∧ ((v = .map none ∧ x = none) ∨ ∃ r m, v = .map (some r) ∧ x = some m ∧ mapAt h r m)
  own F h cs x := ∃ v, cs = [v] ∧ ((v = .map none ∧ x = none) ∨ ∃ r m, v = .map (some r) ∧ x = some m ∧ F r ∧ mapAt h r m)
  len := by rintro h cs m ⟨v, rfl, _⟩; rfl
  mono := by
    rintro h h' cs m hh ⟨v, rfl, hr⟩
    refine ⟨v, rfl, ?_⟩
    rcases hr with hr | ⟨r, m, hv, hx, E, c, es, h1, h2⟩
    · exact .inl hr
    · exact .inr ⟨r, m, hv, hx, E, c, es, hh _ _ h1, h2⟩
  own_rep := by
    rintro F h cs m ⟨v, rfl, hr⟩
    refine ⟨v, rfl, ?_⟩
    rcases hr with hr | ⟨r, m, hv, hx, _, h1⟩
    · exact .inl hr
    · exact .inr ⟨r, m, hv, hx, h1⟩
  own_loc := by
    rintro F h h' cs m ⟨v, rfl, hr⟩ hh
    refine ⟨v, rfl, ?_⟩
    rcases hr with hr | ⟨r, m, hv, hx, hF, E, c, es, h1, h2⟩
    · exact .inl hr
    · exact .inr ⟨r, m, hv, hx, hF, E, c, es, (hh r hF).trans h1, h2⟩
  own_mono := by
    rintro F F' h cs m hF ⟨v, rfl, hr⟩
    refine ⟨v, rfl, ?_⟩
    rcases hr with hr | ⟨r, m, hv, hx, h1, h2⟩
    · exact .inl hr
    · exact .inr ⟨r, m, hv, hx, hF r h1, h2⟩
  one := by
    rintro h cs m ⟨v, rfl, hr⟩ u hu
    simp at hu
    subst hu
    rcases hr with ⟨rfl, _⟩ | ⟨r, m, rfl, _⟩ <;> rfl
section
variable {β : Type} [MV β] {P : Program} {a : Act} {w w0 : World} {hz : Heap} {L : List Ch} {o : Oper} {n : Nat} {l : Env} {x y z : Operand} {t kt vt : TypeId} {r : Nat} {m : MapS β} {v : Value}
def Ent (h : Heap) (v : Value) (key st : Int) : Prop :=
  ∃ (r : Nat) (E : Array MapEntry) (clock j : Nat) (e : MapEntry), v = .map (some r) ∧ h r = some (.map E clock) ∧ E.toList[j]? = some e ∧ (e.born : Int) = st ∧ e.key = .int .i64 key
end
section
variable {S α : Type} {f g f2 : S → Option S}
def CommF (f g : S → Option S) : Prop := ∀ s, Option.bind (f s) g = Option.bind (g s) f
end
def put1 (a k : Int) (xs : List (MapO Bool)) : Option (List (MapO Bool)) := Option.bind (getI xs a) fun x => Option.bind (MapO.get x) fun m => some (xs.set a.toNat (MapO.of (m.ins k true)))
end Go.Wk
namespace Go.Wk
open Go Go.RowKit
def hput (h : Heap) (b : Nat) (o : Obj) : Heap := fun k => if k = b then some o else h k
section
variable {w0 w w' : World} {hz hz' : Heap} {L : List Ch}
theorem Mem.weak (h : Heap.le hz hz') (hm : Mem w0 hz' w L) : Mem w0 hz w L := by
  obtain ⟨Fs, h1, h2, h3⟩ := hm.chs
  refine ⟨hm.same, Heap.le_trans h hm.lez, Fs, h1, h2, fun i b hb => ⟨?_, (h3 i b hb).2⟩⟩
  cases e : hz b with
  | none => rfl
  | some o => exact absurd (h3 i b hb).1 (by simp [h b o e])
end
def Back2 (P : Program) (f : FuncId) : Prop := ∀ (xs : List Int) (b : Nat) (v : Value) (lp : Nat) (J : Nat → World → Prop) (W : World),
  (∀ k W, J k W → W.cell? ⟨b, 0, none⟩ = some v ∧ GT.rep (hp W) [v] xs) →
  (∀ k j W, k + (j + 1) = xs.length → J k W → ∀ m, YieldAt Fence.wide m P lp #[.int .i64 (j : Int), .int .i64 (xs.getD j 0)] W fun e W' => e = .returned (.bool true) ∧ J (k + 1) W') →
  J 0 W → ∀ n, CallsIn Fence.wide n P f #[.func (.yield lp) #[] #[], .pointer (some ⟨b, 0, none⟩)] W fun e W' => (∃ v, e = .returned v) ∧ J xs.length W'
def backM {S : Type} (body : Int → Int → S → Option S) (xs : List Int) : Nat → S → Option S
  | 0, s => some s
  | k + 1, s => Option.bind (body (k : Int) (xs.getD k 0) s) fun s => backM body xs k s
def Gt (w0 : World) (hz : Heap) (L : List Ch) (φ : Heap → Act → World → Prop) (w : World) (a : Act) (w' : World) : Prop :=
  w' = w ∧ ∀ hz2 w2, Heap.le hz hz2 → Mem w0 hz2 w2 L → φ hz2 a w2
abbrev mark (D : Nat) : List Deferred := [{ target := .collected D, args := #[] }]
def postK (P : Program) (fn : Func) (D : Nat) (R : Value → World → Prop) (e : Exit) (a : Act) (w : World) : Prop := match e with
  | .ret => a.defers = [] ∧ ∃ v, (∀ w, (results fn a.tmps).run P w = .ok v w) ∧ ∃ w', (Instr.takeDeferred D).run P w = .ok [] w' ∧ R v w'
  | _ => False
def postM (P : Program) (fn : Func) (R : Value → World → Prop) (e : Exit) (a : Act) (w : World) : Prop := ∃ D a0, a = a0.up (mark D) ∧ postK P fn D R e a0 w
section
variable {ρ S : Type} {m : Option ρ} {r : ρ} {P : Program} {n : Nat} {l : Env} {w w0 : World} {hz : Heap} {L : List Ch} {R : ρ → Value → World → Prop} {fn : Func} {c : Code} {args : List Value} {f : FuncId} {Q : Exit → Act → World → Prop}
def Mb (w0 : World) (L' : S → List Ch) (q : S) (hz : Heap) (_ : Act) (w : World) : Prop := Mem w0 hz w (L' q)
end
end Go.Wk
namespace Go.Wk
open Go Go.RowKit
section
variable {ρ : Type} {m : Option ρ} {r : ρ} {P : Program} {ops : Array Oper} {Q : Exit → Act → World → Prop} {n k : Nat} {l : Env} {w : World} {o : Oper} {rest : List Oper} {d : Nat} {v : Value} {c c' : Code} {f : FuncId} {fn : Func}
abbrev wpW (k : Nat) (P : Program) (c : Code) (Q : Exit → Act → World → Prop) (a : Act) (w : World) : Prop := c.wpIn Fence.wide k P Q a w
abbrev wlW (k : Nat) (P : Program) (ops : Array Oper) (Q : Exit → Act → World → Prop) (os : List Oper) (a : Act) (w : World) : Prop := wpListIn Fence.wide k P ops Q os a w
end
section
variable {β : Type}
end
end Go.Wk
namespace Go.Wk
open Go Go.RowKit
def hupd (h : Heap) (b i : Nat) (v : Value) : Heap := fun c => if c = b then (match h b with | some (.cells C T fz) => some (.cells (C.setIfInBounds i v) T fz) | o => o) else h c
def hcell (h : Heap) (b i : Nat) (v : Value) : Prop := ∃ C T, h b = some (.cells C T (0, 0)) ∧ C[i]? = some v
theorem hupd_ne {h : Heap} {b i c : Nat} {v : Value} (e : c ≠ b) : hupd h b i v c = h c := by simp [hupd, e]
theorem hupd_at {h : Heap} {b i : Nat} {v : Value} {C : Array Value} {T : TypeId} {fz : Nat × Nat} (e : h b = some (.cells C T fz)) : hupd h b i v b = some (.cells (C.setIfInBounds i v) T fz) := by simp [hupd, e]
theorem hupd_self {h : Heap} {b i : Nat} {v : Value} (e : hcell h b i v) : hupd h b i v = h := by
  obtain ⟨C, T, h1, h2⟩ := e
  funext c
  by_cases e : c = b
  · subst e
    rw [hupd_at h1, h1]
    congr 2
    apply Array.ext
    · simp
    · intro j h3 h4
      rw [Array.getElem_setIfInBounds h4]
      split
      · rename_i e; subst e
        rw [Array.getElem?_eq_getElem h4] at h2
        exact (Option.some.inj h2).symm
      · rfl
  · exact hupd_ne e
theorem hcell_upd {h : Heap} {b i : Nat} {u v : Value} (e : hcell h b i u) : hcell (hupd h b i v) b i v := by
  obtain ⟨C, T, h1, h2⟩ := e
  refine ⟨_, T, hupd_at h1, ?_⟩
  have := (Array.getElem?_eq_some_iff.1 h2).1
  simp [this]
theorem hupd_upd {h : Heap} {b i : Nat} {u v : Value} : hupd (hupd h b i u) b i v = hupd h b i v := by
  funext c
  by_cases e : c = b
  · subst e
    unfold hupd
    simp only [if_true]
    cases h c with
    | none => rfl
    | some o => cases o <;> simp
  · rw [hupd_ne e, hupd_ne e, hupd_ne e]
theorem hp_setCell (w : World) (b i : Nat) (v : Value) : hp (w.setCell ⟨b, i, none⟩ v) = hupd (hp w) b i v := by
  funext c
  show (w.setCell ⟨b, i, none⟩ v).heap[c]? = _
  simp only [World.setCell, Array.getElem?_modify]
  by_cases e : b = c
  · subst e
    unfold hupd hp
    simp only [if_true]
    cases w.heap[b]? with
    | none => rfl
    | some o => cases o <;> simp
  · rw [if_neg e, hupd_ne (fun h => e h.symm)]; rfl
def celc (h0 : Heap) (b i : Nat) (v : Value) : Ch where
  pr F h := F b ∧ h b = hupd h0 b i v b ∧ ∃ u, hcell h0 b i u
  loc _ _ _ hp hh := ⟨hp.1, (hh b hp.1).trans hp.2.1, hp.2.2⟩
  mono _ _ _ hp hF := ⟨hF b hp.1, hp.2⟩
section
variable {P : Program} {a : Act} {w w0 : World} {hz : Heap} {L : List Ch} {o : Oper} {n : Nat} {l : Env} {x y : Operand} {v u : Value} {b i : Nat} {t : TypeId} {h0 : Heap}
theorem Mem.cel_at (hm : Mem w0 hz w L) (k : Nat) (hk : L[k]? = some (celc h0 b i v)) : hcell (hp w) b i v := by
  obtain ⟨F, hF, _⟩ := hm.get k hk
  obtain ⟨u, hu⟩ := hF.2.2
  obtain ⟨C, T, h1, h2⟩ := hcell_upd (v := v) hu
  exact ⟨C, T, by rw [hF.2.1]; exact h1, h2⟩
theorem hcell_cell (h : hcell (hp w) b i v) : w.cell? ⟨b, i, none⟩ = some v := by
  obtain ⟨C, T, h1, h2⟩ := h
  have h1 : w.heap[b]? = some (.cells C T (0, 0)) := h1
  simp [World.cell?, h1, h2]
theorem hcell_frozen (h : hcell (hp w) b i v) : w.frozen? ⟨b, i, none⟩ = false := by
  obtain ⟨C, T, h1, h2⟩ := h
  have h1 : w.heap[b]? = some (.cells C T (0, 0)) := h1
  simp [World.frozen?, h1]
theorem Mem.cel_cell (hm : Mem w0 hz w L) (k : Nat) (hk : L[k]? = some (celc h0 b i v)) : w.cell? ⟨b, i, none⟩ = some v := hcell_cell (hm.cel_at k hk)
theorem e_storeC (k : Nat) (hf : Fr n l a) (hm : Mem w0 hz w L) (hk : L[k]? = some (celc h0 b i u)) (hs : ∀ w, (sizeOf t).run P w = .ok 1 w) (ho : o.op = .store t x y)
    (hx : ev l x = some (.pointer (some ⟨b, i, none⟩))) (hy : ev l y = some v) (h1 : v.oneCell' = true) : Ef P a w o (fun _ w' => Mem w0 hz w' (L.set k (celc h0 b i v))) := by
  have hc := hm.cel_at k hk
  have hcell := hcell_cell hc
  have hfr := hcell_frozen hc
  have hcs : v.cells = #[v] := by cases v <;> first | rfl | cases h1
  refine ef_skip (w' := w.setCell ⟨b, i, none⟩ v) ?_ ?_
  · simp [execOp, ho, hf.eval hx, hf.eval hy, Instr.storeAt, Instr.sureAddr, storeVar, hcs, hs, storeCells, add_none, run_store P w _ v _ h1, hcell, hfr]
  · refine hm.upd k hk ⟨rfl, rfl, rfl, by simp [World.setCell]⟩ fun F hF hlt => ⟨F, fun _ h => .inl h, fun c hc => by simpa [World.setCell] using hlt c hc, ⟨hF.1, ?_, hF.2.2⟩, fun c _ hne => ?_⟩
    · rw [hp_setCell]
      have e : hupd (hp w) b i v b = hupd (hupd h0 b i u) b i v b := by
        unfold hupd
        simp only [if_true]
        have := hF.2.1
        unfold hupd at this
        simp only [if_true] at this
        rw [this]
      rw [e, hupd_upd]
    · have := congrFun (hp_setCell w b i v) c
      have e : c ≠ b := fun e => hne (by rw [e]; exact hF.1)
      rw [hupd_ne e] at this
      exact this
end
def VisitP (P : Program) (vf : Value) (f : Int → Option Int) (hzc : Heap) : Prop :=
  ∀ (w : World) (b i : Nat) (x y : Int), Heap.le hzc (hp w) → hcell (hp w) b i (.int .i64 x) → hzc b = none → f x = some y → FnOk P vf [.pointer (some ⟨b, i, none⟩)] w fun _ w' => Same w w' ∧ ∀ c, c < w.heap.size → hp w' c = hupd (hp w) b i (.int .i64 y) c
section
variable {α β : Type} [GT α] [GT β]
def Deep (F : Nat → Prop) (h : Heap) (cs : List Value) (b i : Nat) (n : Int) (g : Int → α) : Prop := F b ∧ hcell h b i (.int .i64 n) ∧ ∀ y, GT.own F (hupd h b i (.int .i64 y)) cs (g y)
def Shal (F : Nat → Prop) (h : Heap) (cs : List Value) (d : Nat) (n : Int) (g : Int → α) : Prop := cs[d]? = some (.int .i64 n) ∧ ∀ y, GT.own F h (cs.set d (.int .i64 y)) (g y)
theorem shal_int {F : Nat → Prop} {h : Heap} {cs : List Value} {n : Int} (ho : GT.own F h cs n) : Shal F h cs 0 n (fun y => y) := by
  have e : cs = [.int .i64 n] := ho
  subst e
  exact ⟨rfl, fun y => (rfl : ([.int .i64 y] : List Value) = [.int .i64 y])⟩
theorem cells_uniq {h : Heap} {b o : Nat} {cs : List Value} {C : Array Value} {T : TypeId} {fz : Nat × Nat} (hc : CellsAt h b o cs) (hb : h b = some (.cells C T fz)) : seg C o cs.length = cs := by
  obtain ⟨C', T', fz', h1, h2⟩ := hc
  rw [hb] at h1
  cases h1
  apply List.ext_getElem?
  intro j
  by_cases hj : j < cs.length
  · rw [seg_get hj, List.getElem?_eq_getElem hj]
    exact h2 j _ (List.getElem?_eq_getElem hj)
  · have h3 : (seg C o cs.length)[j]? = none := List.getElem?_eq_none (by simp only [seg, List.length_take]; omega)
    rw [h3, List.getElem?_eq_none (by omega)]
theorem list_shal {F : Nat → Prop} {h : Heap} {b off len cap i d : Nat} {xs : List α} {cs : List Value} {x : α} {n : Int} {g : Int → α} (ho : GT.own F h [.slice (some ⟨b, off, none⟩) len cap] xs) (hx : xs[i]? = some x) (hc : CellsAt h b (off + i * GT.sz α) cs) (hl : cs.length = GT.sz α)
    (hs : ∀ G, GT.own G h cs x → Shal G h cs d n g) : Deep F h [.slice (some ⟨b, off, none⟩) len cap] b (off + i * GT.sz α + d) n (fun y => xs.set i (g y)) := by
  rcases own_list.1 ho with ⟨e, _⟩ | ⟨b', off', len', cap', C, T, hv, hF, hb, hlen, hcc, hmx, hsz, fps, h1, h2, h3⟩
  · cases e
  · cases hv
    have hi : i < xs.length := (List.getElem?_eq_some_iff.1 hx).1
    have hseg := cells_uniq hc hb
    rw [hl] at hseg
    have hown := h3 i x hx
    rw [hseg] at hown
    obtain ⟨s1, s2⟩ := hs _ hown
    have hd : d < GT.sz α := by have := (List.getElem?_eq_some_iff.1 s1).1; omega
    have hCd : C[off + i * GT.sz α + d]? = some (.int .i64 n) := by
      rw [← hseg, seg_get hd] at s1; exact s1
    refine ⟨hF, ⟨C, T, hb, hCd⟩, fun y => own_list.2 (.inr ⟨b, off, len, cap, C.setIfInBounds (off + i * GT.sz α + d) (.int .i64 y), T, rfl, hF, hupd_at hb, by simpa using hlen, hcc, hmx, by simpa using hsz, fps, h1, h2, fun j z hz => ?_⟩)⟩
    have hloc : ∀ c, fps j c → hupd h b (off + i * GT.sz α + d) (.int .i64 y) c = h c := fun c hcf => hupd_ne (h1 j c hcf).2
    by_cases e : j = i
    · subst e
      rw [List.getElem?_set_self hi] at hz
      cases hz
      have hs2 : seg (C.setIfInBounds (off + j * GT.sz α + d) (.int .i64 y)) (off + j * GT.sz α) (GT.sz α) = cs.set d (.int .i64 y) := by
        rw [← hseg]
        apply List.ext_getElem?
        intro q
        by_cases hq : q < GT.sz α
        · rw [seg_get hq, List.getElem?_set, Array.getElem?_setIfInBounds]
          by_cases e : d = q
          · subst e
            have := (Array.getElem?_eq_some_iff.1 hCd).1
            simp [this, seg, hd]
            omega
          · rw [if_neg (by omega), if_neg e, seg_get hq]
        · rw [List.getElem?_eq_none (by simp only [seg, List.length_take]; omega), List.getElem?_eq_none (by simp only [List.length_set, seg, List.length_take]; omega)]
      rw [hs2]
      exact GT.own_loc (s2 y) hloc
    · rw [List.getElem?_set_ne (Ne.symm e)] at hz
      have hs2 : seg (C.setIfInBounds (off + i * GT.sz α + d) (.int .i64 y)) (off + j * GT.sz α) (GT.sz α) = seg C (off + j * GT.sz α) (GT.sz α) := by
        refine seg_eq (by simp) fun q q1 q2 => ?_
        rw [Array.getElem?_setIfInBounds, if_neg]
        intro e2
        rcases Nat.lt_or_gt_of_ne e with h | h
        · have := mul_lt_of (s := GT.sz α) h; omega
        · have := mul_lt_of (s := GT.sz α) h; omega
      rw [hs2]
      exact GT.own_loc (h3 j z hz) hloc
theorem list_deep {F : Nat → Prop} {h : Heap} {b off len cap i b2 i2 : Nat} {xs : List α} {cs : List Value} {x : α} {n : Int} {g : Int → α} (ho : GT.own F h [.slice (some ⟨b, off, none⟩) len cap] xs) (hx : xs[i]? = some x) (hc : CellsAt h b (off + i * GT.sz α) cs) (hl : cs.length = GT.sz α)
    (hs : ∀ G, GT.own G h cs x → Deep G h cs b2 i2 n g) : Deep F h [.slice (some ⟨b, off, none⟩) len cap] b2 i2 n (fun y => xs.set i (g y)) := by
  rcases own_list.1 ho with ⟨e, _⟩ | ⟨b', off', len', cap', C, T, hv, hF, hb, hlen, hcc, hmx, hsz, fps, h1, h2, h3⟩
  · cases e
  · cases hv
    have hi : i < xs.length := (List.getElem?_eq_some_iff.1 hx).1
    have hseg := cells_uniq hc hb
    rw [hl] at hseg
    have hown := h3 i x hx
    rw [hseg] at hown
    obtain ⟨s0, s1, s2⟩ := hs _ hown
    have hb2 := h1 i b2 s0
    refine ⟨hb2.1, s1, fun y => own_list.2 (.inr ⟨b, off, len, cap, C, T, rfl, hF, by rw [hupd_ne (Ne.symm hb2.2)]; exact hb, by simpa using hlen, hcc, hmx, hsz, fps, h1, h2, fun j z hz => ?_⟩)⟩
    by_cases e : j = i
    · subst e
      rw [List.getElem?_set_self hi] at hz
      cases hz
      rw [hseg]
      exact s2 y
    · rw [List.getElem?_set_ne (Ne.symm e)] at hz
      exact GT.own_loc (h3 j z hz) fun c hcf => hupd_ne fun e2 => h2 i j c (Ne.symm e) (by rw [e2]; exact s0) hcf
theorem fst_shal {F : Nat → Prop} {h : Heap} {cs c d : List Value} {p : α × β} {n : Int} {k : Nat} {g : Int → α} (ho : GT.own F h cs p) (hcs : cs = c ++ d) (hl : c.length = GT.sz α) (hs : ∀ G, GT.own G h c p.1 → Shal G h c k n g) : Shal F h cs k n (fun y => (g y, p.2)) := by
  obtain ⟨c', d', e, G, H, g1, g2, g3, h1, h2⟩ := ho
  have hc : c = c' ∧ d = d' := by
    rw [e] at hcs
    have := (List.append_inj hcs (by rw [GT.len (GT.own_rep h1), hl]))
    exact ⟨this.1.symm, this.2.symm⟩
  obtain ⟨rfl, rfl⟩ := hc
  obtain ⟨s1, s2⟩ := hs G h1
  have hk : k < c.length := (List.getElem?_eq_some_iff.1 s1).1
  refine ⟨by rw [hcs, List.getElem?_append_left hk]; exact s1, fun y => ⟨c.set k (.int .i64 y), d, by rw [hcs, List.set_append_left _ _ hk], G, H, g1, g2, g3, s2 y, h2⟩⟩
theorem fst_deep {F : Nat → Prop} {h : Heap} {cs c d : List Value} {p : α × β} {n : Int} {b i : Nat} {g : Int → α} (ho : GT.own F h cs p) (hcs : cs = c ++ d) (hl : c.length = GT.sz α) (hs : ∀ G, GT.own G h c p.1 → Deep G h c b i n g) : Deep F h cs b i n (fun y => (g y, p.2)) := by
  obtain ⟨c', d', e, G, H, g1, g2, g3, h1, h2⟩ := ho
  have hc : c = c' ∧ d = d' := by
    rw [e] at hcs
    have := (List.append_inj hcs (by rw [GT.len (GT.own_rep h1), hl]))
    exact ⟨this.1.symm, this.2.symm⟩
  obtain ⟨rfl, rfl⟩ := hc
  obtain ⟨s0, s1, s2⟩ := hs G h1
  exact ⟨g1 b s0, s1, fun y => ⟨c, d, hcs, G, H, g1, g2, g3, s2 y, GT.own_loc h2 fun q hq => hupd_ne fun e => g3 b s0 (by rw [← e]; exact hq)⟩⟩
theorem snd_shal {F : Nat → Prop} {h : Heap} {cs c d : List Value} {p : α × β} {n : Int} {k : Nat} {g : Int → β} (ho : GT.own F h cs p) (hcs : cs = c ++ d) (hl : c.length = GT.sz α) (hs : ∀ G, GT.own G h d p.2 → Shal G h d k n g) : Shal F h cs (c.length + k) n (fun y => (p.1, g y)) := by
  obtain ⟨c', d', e, G, H, g1, g2, g3, h1, h2⟩ := ho
  have hc : c = c' ∧ d = d' := by
    rw [e] at hcs
    have := (List.append_inj hcs (by rw [GT.len (GT.own_rep h1), hl]))
    exact ⟨this.1.symm, this.2.symm⟩
  obtain ⟨rfl, rfl⟩ := hc
  obtain ⟨s1, s2⟩ := hs H h2
  refine ⟨by rw [hcs, List.getElem?_append_right (by omega), Nat.add_sub_cancel_left]; exact s1, fun y => ⟨c, d.set k (.int .i64 y), by rw [hcs, List.set_append_right _ _ (by omega), Nat.add_sub_cancel_left], G, H, g1, g2, g3, h1, s2 y⟩⟩
theorem snd_deep {F : Nat → Prop} {h : Heap} {cs c d : List Value} {p : α × β} {n : Int} {b i : Nat} {g : Int → β} (ho : GT.own F h cs p) (hcs : cs = c ++ d) (hl : c.length = GT.sz α) (hs : ∀ G, GT.own G h d p.2 → Deep G h d b i n g) : Deep F h cs b i n (fun y => (p.1, g y)) := by
  obtain ⟨c', d', e, G, H, g1, g2, g3, h1, h2⟩ := ho
  have hc : c = c' ∧ d = d' := by
    rw [e] at hcs
    have := (List.append_inj hcs (by rw [GT.len (GT.own_rep h1), hl]))
    exact ⟨this.1.symm, this.2.symm⟩
  obtain ⟨rfl, rfl⟩ := hc
  obtain ⟨s0, s1, s2⟩ := hs H h2
  exact ⟨g2 b s0, s1, fun y => ⟨c, d, hcs, G, H, g1, g2, g3, GT.own_loc h1 fun q hq => hupd_ne fun e => g3 q hq (by rw [e]; exact s0), s2 y⟩⟩
theorem Mem.spot {w0 w : World} {hz : Heap} {L : List Ch} {cs : List Value} {x : α} {b i : Nat} {n : Int} {g : Int → α} (hm : Mem w0 hz w (ow cs x :: L)) (hd : ∀ F, GT.own F (hp w) cs x → Deep F (hp w) cs b i n g) : hcell (hp w) b i (.int .i64 n) ∧ hz b = none := by
  obtain ⟨F, hF, h1⟩ := hm.get 0 rfl
  obtain ⟨s0, s1, _⟩ := hd F hF
  exact ⟨s1, (h1 b s0).2⟩
end
theorem FnOk.mono {P : Program} {fv : Value} {args : List Value} {w : World} {R R' : Value → World → Prop} (h : FnOk P fv args w R) (hr : ∀ v w', R v w' → R' v w') : FnOk P fv args w R' := by
  obtain ⟨k, cs, h1, h2, h3⟩ := h
  refine ⟨k, cs, h1, h2, Calls.mono h3 fun e w' h => ?_⟩
  cases e with
  | returned v => exact hr v w' h
  | _ => exact h
theorem gin {ρ : Type} {m : Option ρ} {r : ρ} {n : Nat} {l : Env} {w : World} {φ : Act → World → Prop} (k : m = some r → G (some r) r n l φ w) : G m r n l φ w := fun he => k he rfl
end Go.Wk
namespace Go.Wk
open Go Go.RowKit
section
variable {α : Type} [GT α]
def hole2E (b off len cap : Nat) (xs : List α) (i : Nat) (ecs : List Value) (i2 : Nat) (fcs : List Value) : Ch where
  pr R h := ∃ C T, ∃ fps : Nat → Nat → Prop, h b = some (.cells C T (0, 0)) ∧ R b ∧ xs.length = len ∧ len ≤ cap ∧ (cap ≤ maxLen ∧ len ≤ 140737488355328) ∧ off + cap * GT.sz α ≤ C.size ∧
    (∀ j c, fps j c → R c ∧ c ≠ b) ∧ (∀ j k c, j ≠ k → fps j c → ¬ fps k c) ∧ (∀ (j : Nat) (x : α), j ≠ i → j ≠ i2 → xs[j]? = some x → GT.own (fps j) h (seg C (off + j * GT.sz α) (GT.sz α)) x) ∧ (i < xs.length ∧ seg C (off + i * GT.sz α) (GT.sz α) = ecs) ∧ (i2 < xs.length ∧ seg C (off + i2 * GT.sz α) (GT.sz α) = fcs) ∧ i ≠ i2
  loc R h h2 hp hh := by
    obtain ⟨C, T, fps, e1, e2, e3, e4, e5, e6, e7, e8, e9, e10, e11⟩ := hp
    exact ⟨C, T, fps, (hh b e2).trans e1, e2, e3, e4, e5, e6, e7, e8, fun j x hj hj2 hx => GT.own_loc (e9 j x hj hj2 hx) fun c hc => hh c (e7 j c hc).1, e10, e11⟩
  mono R R' h hp hR := by
    obtain ⟨C, T, fps, e1, e2, e3, e4, e5, e6, e7, e8, e9, e10, e11⟩ := hp
    exact ⟨C, T, fps, e1, hR b e2, e3, e4, e5, e6, fun j c hc => ⟨hR c (e7 j c hc).1, (e7 j c hc).2⟩, e8, e9, e10, e11⟩
variable {w0 w : World} {hz : Heap} {L : List Ch} {b off len cap i i2 : Nat} {xs : List α} {x : α} {ecs fcs : List Value}
end
def neI (i j : Int) : Option Unit := if i = j then none else some ()
end Go.Wk
namespace Go.Wk
open Go Go.RowKit
section
variable {α : Type} [GT α]
def dho (h0 : Heap) (b i : Nat) (cs : List Value) (g : Int → α) : Ch where
  pr F h := ∀ (h' : Heap) (y : Int), (∀ c, F c → h' c = h c) → h' b = hupd h0 b i (.int .i64 y) b → GT.own (fun c => F c ∨ c = b) h' cs (g y)
  loc _ _ _ hp hh := fun h' y h1 h2 => hp h' y (fun c hc => (h1 c hc).trans (hh c hc)) h2
  mono _ _ _ hp hF := fun h' y h1 h2 => GT.own_mono (fun c hc => hc.elim (fun h => .inl (hF c h)) .inr) (hp h' y (fun c hc => h1 c (hF c hc)) h2)
variable {w0 w : World} {hz : Heap} {L : List Ch} {cs : List Value} {x : α} {b i : Nat} {n y : Int} {g : Int → α} {h0 : Heap}
theorem Mem.openCel (hm : Mem w0 hz w (ow cs x :: L)) (hd : ∀ F, GT.own F (hp w) cs x → Deep F (hp w) cs b i n g) : Mem w0 hz w (celc (hp w) b i (.int .i64 n) :: dho (hp w) b i cs g :: L) :=
  hm.split 0 rfl fun F hF => by
    obtain ⟨s0, s1, s2⟩ := hd F hF
    refine ⟨fun c => F c ∧ c ≠ b, fun c => c = b, fun c h => h.1, fun c h => by rw [h]; exact s0, fun c h h2 => h.2 h2, fun h' y h1 h2 => ?_, rfl, by rw [hupd_self s1], _, s1⟩
    refine GT.own_mono (fun c hc => ?_) (GT.own_loc (s2 y) fun c hc => ?_)
    · by_cases e : c = b
      · exact .inr e
      · exact .inl ⟨hc, e⟩
    · by_cases e : c = b
      · rw [e]; exact h2
      · rw [h1 c ⟨hc, e⟩, hupd_ne e]
theorem Mem.shutCel (hm : Mem w0 hz w (celc h0 b i (.int .i64 y) :: dho h0 b i cs g :: L)) : Mem w0 hz w (ow cs (g y) :: L) := by
  have := (hm.merge (c' := ow cs (g y)) 1 0 (by decide) rfl rfl fun F G hF hG hd => by
    obtain ⟨g1, g2, _⟩ := hG
    exact GT.own_mono (fun c hc => hc.elim .inl fun e => .inr (by rw [e]; exact g1)) (hF (hp w) y (fun _ _ => rfl) g2)).er 0
  exact this
end
def VisitS {σ : Type} (P : Program) (vf : Value) (f : Int → σ → Option (Int × σ)) (hzc : Heap) (K : σ → Ch) : Prop :=
  ∀ (w : World) (hz h0 : Heap) (b i : Nat) (x : Int) (s : σ) (y : Int × σ), Heap.le hzc hz → Mem w hz w [celc h0 b i (.int .i64 x), K s] → f x s = some y → FnOk P vf [.pointer (some ⟨b, i, none⟩)] w fun _ w' => Mem w hz w' [celc h0 b i (.int .i64 y.1), K y.2]
def capM (b : Nat) (T : TypeId) (s : MapS Int) : Ch where
  pr F h := ∃ v, (Go.Wk.both (blk b [v] T) (owm v s)).pr F h
  loc _ _ _ := fun ⟨v, hp⟩ hh => ⟨v, (Go.Wk.both (blk b [v] T) (owm v s)).loc _ _ _ hp hh⟩
  mono _ _ _ := fun ⟨v, hp⟩ hF => ⟨v, (Go.Wk.both (blk b [v] T) (owm v s)).mono _ _ _ hp hF⟩
section
variable {w0 w : World} {hz : Heap} {c : Ch} {b : Nat} {T : TypeId} {s : MapS Int} {v : Value}
theorem Mem.capM_fold (hm : Mem w0 hz w [c, blk b [v] T, owm v s]) : Mem w0 hz w [c, capM b T s] :=
  ((hm.merge (c' := capM b T s) 1 2 (by decide) rfl rfl fun F G h1 h2 h3 => ⟨v, F, G, fun _ h => .inl h, fun _ h => .inr h, h3, h1, h2⟩).pick (L' := [c, capM b T s]) [0, 1] (by decide) rfl)
theorem Mem.capM_open (hm : Mem w0 hz w [c, capM b T s]) : ∃ v, Mem w0 hz w [c, blk b [v] T, owm v s] := by
  obtain ⟨F, hF, _⟩ := hm.get 1 rfl
  obtain ⟨v, _⟩ := hF
  have hx : ∃ v, ∃ Fs : Nat → Nat → Prop, c.pr (Fs 0) (hp w) ∧ (Go.Wk.both (blk b [v] T) (owm v s)).pr (Fs 1) (hp w) ∧ (∀ i j b, i ≠ j → Fs i b → ¬ Fs j b) ∧ ∀ i b, Fs i b → hz b = none ∧ b < w.heap.size := by
    obtain ⟨_, _, Fs, f1, f2, f3⟩ := hm
    obtain ⟨v, hv⟩ := f1 1 _ rfl
    exact ⟨v, Fs, f1 0 _ rfl, hv, f2, f3⟩
  obtain ⟨v, Fs, g0, g1, g2, g3⟩ := hx
  have hm1 : Mem w0 hz w [c, Go.Wk.both (blk b [v] T) (owm v s)] := ⟨hm.same, hm.lez, fun i b => i < 2 ∧ Fs i b, fun i d hi => by
    match i, hi with
    | 0, hi => cases hi; exact c.mono _ _ _ g0 fun b h => ⟨by omega, h⟩
    | 1, hi => cases hi; exact Ch.mono _ _ _ _ g1 fun b h => ⟨by omega, h⟩, fun i j b hij h1 h2 => g2 i j b hij h1.2 h2.2, fun i b h => g3 i b h.2⟩
  have := hm1.split (c1 := blk b [v] T) (c2 := owm v s) 1 rfl fun F hF => by
    obtain ⟨F1, G1, a1, a2, a3, a4, a5⟩ := hF
    exact ⟨F1, G1, a1, a2, a3, a4, a5⟩
  exact ⟨v, this.pick (L' := [c, blk b [v] T, owm v s]) [1, 2, 0] (by decide) rfl⟩
theorem visitS_map {P : Program} {vf : Value} {f : Int → MapS Int → Option (Int × MapS Int)} {hzc : Heap}
    (H : ∀ (w : World) (hz h0 : Heap) (b2 i : Nat) (x : Int) (s : MapS Int) (v : Value) (y : Int × MapS Int), Heap.le hzc hz → Mem w hz w [celc h0 b2 i (.int .i64 x), blk b [v] T, owm v s] → f x s = some y → FnOk P vf [.pointer (some ⟨b2, i, none⟩)] w fun _ w' => ∃ v', Mem w hz w' [celc h0 b2 i (.int .i64 y.1), blk b [v'] T, owm v' y.2]) : VisitS P vf f hzc (capM b T) := by
  intro w hz h0 b2 i x s y hle hm hy
  obtain ⟨v, hm1⟩ := hm.capM_open
  exact FnOk.mono (H w hz h0 b2 i x s v y hle hm1 hy) fun _ w' h => by
    obtain ⟨v', h'⟩ := h
    exact h'.capM_fold
end
end Go.Wk
namespace Go.Wk
open Go Go.RowKit
def neM {β : Type} (m : MapS β) : Option Unit := if m.es.isEmpty = true then none else some ()
end Go.Wk
