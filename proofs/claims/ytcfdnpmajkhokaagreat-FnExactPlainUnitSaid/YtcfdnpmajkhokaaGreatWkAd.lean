/- A part of a proof: general laws of walks, no statement of the seat. -/
import Derived.Test.YtcfdnpmajkhokaaGreatWkY
import Derived.Maps.RangeRun
import Derived.Shelf.Sort.Plain
import Derived.Shelf.Slices.In.SortNone
import Derived.Shelf.Slices.CompactI
import Derived.Lib.RowBridge
import Derived.Scope
import Derived.WideKeyEntry
import Derived.RangeFuncRecord
import Derived.RangeFuncLeaves
import Derived.RangeFuncSeq
import Derived.TacticsIn
import Derived.Laws.AppendOwn
namespace Go.Wk
open Go Go.RowKit
structure MapS (β : Type) where
  es : List (Int × β)
  so : es.Pairwise (fun a b => a.1 < b.1)
  deriving DecidableEq
instance {β : Type} : Inhabited (MapS β) := ⟨⟨[], .nil⟩⟩
namespace MapS
variable {β : Type}
def get (m : MapS β) (k : Int) : Option β := lookM m.es k
def mk0 : MapS β := ⟨[], .nil⟩
def ins (m : MapS β) (k : Int) (v : β) : MapS β :=
  ⟨m.es.filter (fun p => decide (p.1 < k)) ++ (k, v) :: m.es.filter (fun p => decide (k < p.1)), by
    refine List.pairwise_append.2 ⟨m.so.filter _, List.pairwise_cons.2 ⟨fun p hp => by simpa using (List.mem_filter.1 hp).2, m.so.filter _⟩, fun a ha b hb => ?_⟩
    have h1 : a.1 < k := by simpa using (List.mem_filter.1 ha).2
    rcases List.mem_cons.1 hb with e | hb
    · subst e; exact h1
    · have h2 : k < b.1 := by simpa using (List.mem_filter.1 hb).2
      omega⟩
def del (m : MapS β) (k : Int) : MapS β := ⟨m.es.filter (fun p => decide (p.1 ≠ k)), m.so.filter _⟩
def keys (m : MapS β) : List Int := m.es.map (·.1)
def len (m : MapS β) : Int := (m.es.length : Int)
theorem nodup (m : MapS β) : (m.es.map (·.1)).Nodup := by
  refine (List.pairwise_map.2 (m.so.imp ?_))
  intro a b h
  show a.1 ≠ b.1
  omega
end MapS
section
variable {β : Type}
theorem lookM_some {es : List (Int × β)} (hn : (es.map (·.1)).Nodup) {k : Int} {v : β} : lookM es k = some v ↔ (k, v) ∈ es := by
  unfold lookM
  constructor
  · intro h
    cases hq : findIx k es 0 with
    | none => rw [hq] at h; simp at h
    | some q =>
      obtain ⟨i, u⟩ := q
      rw [hq] at h
      simp at h
      subst h
      obtain ⟨_, h3⟩ := findIx_some hq
      exact List.mem_of_getElem? h3
  · intro h
    cases hq : findIx k es 0 with
    | none => exact absurd rfl (findIx_none.1 hq _ h)
    | some q =>
      obtain ⟨i, u⟩ := q
      obtain ⟨_, h3⟩ := findIx_some hq
      have h4 := List.mem_of_getElem? h3
      simp only [Option.map_some, Option.some.injEq]
      have key : ∀ (l : List (Int × β)), (l.map (·.1)).Nodup → (k, u) ∈ l → (k, v) ∈ l → u = v := by
        intro l
        induction l with
        | nil => intro _ h; simp at h
        | cons p l ih =>
          intro hn h1 h2
          rw [List.map_cons, List.nodup_cons] at hn
          rcases List.mem_cons.1 h1 with e1 | e1 <;> rcases List.mem_cons.1 h2 with e2 | e2
          · rw [← e1] at e2; simpa using e2.symm
          · exact absurd (List.mem_map.2 ⟨_, e2, rfl⟩) (by rw [← e1] at hn; exact hn.1)
          · exact absurd (List.mem_map.2 ⟨_, e1, rfl⟩) (by rw [← e2] at hn; exact hn.1)
          · exact ih hn.2 e1 e2
      exact key es hn h4 h
theorem lookM_perm {es es' : List (Int × β)} (hp : es'.Perm es) (hn : (es.map (·.1)).Nodup) (k : Int) : lookM es' k = lookM es k := by
  have hn' : (es'.map (·.1)).Nodup := (hp.map _).nodup_iff.2 hn
  cases h : lookM es k with
  | none =>
    cases h' : lookM es' k with
    | none => rfl
    | some v => rw [lookM_some hn'] at h'; rw [(lookM_some hn).2 (hp.mem_iff.1 h')] at h; cases h
  | some v => rw [lookM_some hn] at h; rw [lookM_some hn']; exact hp.mem_iff.2 h
theorem set_perm {k : Int} {v : β} : ∀ {es : List (Int × β)} {i : Nat} {u : β}, (es.map (·.1)).Nodup → es[i]? = some (k, u) → (es.set i (k, v)).Perm ((k, v) :: es.filter (fun p => decide (p.1 ≠ k)))
  | [], i, u, _, h => by simp at h
  | p :: es, 0, u, hn, h => by
    simp at h
    subst h
    rw [List.map_cons, List.nodup_cons] at hn
    have : es.filter (fun p => decide (p.1 ≠ k)) = es := List.filter_eq_self.2 fun q hq => by
      have : q.1 ≠ k := fun e => hn.1 (List.mem_map.2 ⟨q, hq, e⟩)
      simpa using this
    rw [List.filter_cons, if_neg (by simp), this]
    exact List.Perm.refl _
  | p :: es, i + 1, u, hn, h => by
    rw [List.map_cons, List.nodup_cons] at hn
    have h' : es[i]? = some (k, u) := by simpa using h
    have hpk : p.1 ≠ k := fun e => hn.1 (List.mem_map.2 ⟨_, List.mem_of_getElem? h', e.symm⟩)
    have ih := set_perm (v := v) hn.2 h'
    simp only [List.set_cons_succ, List.filter_cons, hpk, ne_eq, not_false_eq_true, decide_true, if_true]
    exact (ih.cons p).trans (List.Perm.swap _ _ _)
theorem insM_perm {k : Int} {v : β} {es : List (Int × β)} (hn : (es.map (·.1)).Nodup) : (insM es k v).Perm ((k, v) :: es.filter (fun p => decide (p.1 ≠ k))) := by
  unfold insM
  cases hq : findIx k es 0 with
  | none =>
    have h := findIx_none.1 hq
    have : es.filter (fun p => decide (p.1 ≠ k)) = es := List.filter_eq_self.2 fun q hq => by
      have : q.1 ≠ k := fun e => h q hq e.symm
      simpa using this
    simp only [this]
    exact List.perm_append_singleton _ _
  | some q =>
    obtain ⟨i, u⟩ := q
    obtain ⟨_, h3⟩ := findIx_some hq
    exact set_perm hn h3
theorem erase_perm {k : Int} : ∀ {es : List (Int × β)} {i : Nat} {u : β}, (es.map (·.1)).Nodup → es[i]? = some (k, u) → es.eraseIdx i = es.filter (fun p => decide (p.1 ≠ k))
  | [], i, u, _, h => by simp at h
  | p :: es, 0, u, hn, h => by
    simp at h
    subst h
    rw [List.map_cons, List.nodup_cons] at hn
    have : es.filter (fun p => decide (p.1 ≠ k)) = es := List.filter_eq_self.2 fun q hq => by
      have : q.1 ≠ k := fun e => hn.1 (List.mem_map.2 ⟨q, hq, e⟩)
      simpa using this
    rw [List.filter_cons, if_neg (by simp), this]
    rfl
  | p :: es, i + 1, u, hn, h => by
    rw [List.map_cons, List.nodup_cons] at hn
    have h' : es[i]? = some (k, u) := by simpa using h
    have hpk : p.1 ≠ k := fun e => hn.1 (List.mem_map.2 ⟨_, List.mem_of_getElem? h', e.symm⟩)
    simp only [List.eraseIdx_cons_succ, List.filter_cons, hpk, ne_eq, not_false_eq_true, decide_true, if_true]
    rw [erase_perm hn.2 h']
theorem erase_map {α γ : Type} (f : α → γ) : ∀ (l : List α) (i : Nat), (l.eraseIdx i).map f = (l.map f).eraseIdx i
  | [], i => by simp
  | x :: l, 0 => by simp
  | x :: l, i + 1 => by simp [erase_map f l i]
theorem MapS.ins_perm (m : MapS β) (k : Int) (v : β) : ((k, v) :: m.es.filter (fun p => decide (p.1 ≠ k))).Perm (m.ins k v).es := by
  refine List.Perm.trans ?_ List.perm_middle.symm
  refine List.Perm.cons _ ?_
  have h := List.filter_append_perm (fun p : Int × β => decide (p.1 < k)) (m.es.filter (fun p => decide (p.1 ≠ k)))
  refine h.symm.trans ?_
  rw [List.filter_filter, List.filter_filter]
  have e1 : m.es.filter (fun p => decide (p.1 < k) && decide (p.1 ≠ k)) = m.es.filter (fun p => decide (p.1 < k)) := List.filter_congr fun p _ => by
    by_cases h : p.1 < k <;> simp [h]; omega
  have e2 : m.es.filter (fun p => !decide (p.1 < k) && decide (p.1 ≠ k)) = m.es.filter (fun p => decide (k < p.1)) := List.filter_congr fun p _ => by
    rcases Int.lt_trichotomy p.1 k with h | h | h
    · have : ¬ k < p.1 := by omega
      simp [h, this]
    · simp [h]
    · have h1 : ¬ p.1 < k := by omega
      have h2 : p.1 ≠ k := by omega
      simp [h, h1, h2]
  rw [e1, e2]
end
class MV (β : Type) where
  venc : β → Value
  inj : ∀ a b, venc a = venc b → a = b
instance : MV Bool := ⟨.bool, fun a b h => by simpa using h⟩
instance : MV Int := ⟨.int .i64, fun a b h => by simpa using h⟩
def mapAt {β : Type} [MV β] (h : Heap) (r : Nat) (m : MapS β) : Prop :=
  ∃ (E : Array MapEntry) (clock : Nat) (es : List (Int × β)), h r = some (.map E clock) ∧ MapKept.Stamped E clock ∧ E.toList.map (fun e => (e.key, e.val)) = es.map (fun p : Int × β => (Value.int .i64 p.1, MV.venc p.2)) ∧ es.Perm m.es
instance {β : Type} [MV β] : GT (MapS β) where
  sz := 1
  rep h cs m := ∃ v, cs = [v] ∧ ((v = .map none ∧ m.es = []) ∨ ∃ r, v = .map (some r) ∧ mapAt h r m)
  own F h cs m := ∃ v, cs = [v] ∧ ((v = .map none ∧ m.es = []) ∨ ∃ r, v = .map (some r) ∧ F r ∧ mapAt h r m)
  len := by rintro h cs m ⟨v, rfl, _⟩; rfl
  mono := by
    rintro h h' cs m hh ⟨v, rfl, hr⟩
    refine ⟨v, rfl, ?_⟩
    rcases hr with hr | ⟨r, hv, E, c, es, h1, h2⟩
    · exact .inl hr
    · exact .inr ⟨r, hv, E, c, es, hh _ _ h1, h2⟩
  own_rep := by
    rintro F h cs m ⟨v, rfl, hr⟩
    refine ⟨v, rfl, ?_⟩
    rcases hr with hr | ⟨r, hv, _, h1⟩
    · exact .inl hr
    · exact .inr ⟨r, hv, h1⟩
  own_loc := by
    rintro F h h' cs m ⟨v, rfl, hr⟩ hh
    refine ⟨v, rfl, ?_⟩
    rcases hr with hr | ⟨r, hv, hF, E, c, es, h1, h2⟩
    · exact .inl hr
    · exact .inr ⟨r, hv, hF, E, c, es, (hh r hF).trans h1, h2⟩
  own_mono := by
    rintro F F' h cs m hF ⟨v, rfl, hr⟩
    refine ⟨v, rfl, ?_⟩
    rcases hr with hr | ⟨r, hv, h1, h2⟩
    · exact .inl hr
    · exact .inr ⟨r, hv, hF r h1, h2⟩
  one := by
    rintro h cs m ⟨v, rfl, hr⟩ u hu
    simp at hu
    subst hu
    rcases hr with ⟨rfl, _⟩ | ⟨r, rfl, _⟩ <;> rfl
section
variable {β : Type} [MV β] {P : Program} {a : Act} {w w0 : World} {hz : Heap} {L : List Ch} {o : Oper} {n : Nat} {l : Env} {x y z : Operand} {t kt vt : TypeId} {r : Nat} {m : MapS β} {v : Value}
theorem rep_map {h : Heap} : GT.rep h [v] m ↔ ((v = .map none ∧ m.es = []) ∨ ∃ r, v = .map (some r) ∧ mapAt h r m) := by
  constructor
  · rintro ⟨u, hu, hr⟩; simp at hu; subst hu; exact hr
  · intro hr; exact ⟨v, rfl, hr⟩
theorem own_map {F : Nat → Prop} {h : Heap} : GT.own F h [v] m ↔ ((v = .map none ∧ m.es = []) ∨ ∃ r, v = .map (some r) ∧ F r ∧ mapAt h r m) := by
  constructor
  · rintro ⟨u, hu, hr⟩; simp at hu; subst hu; exact hr
  · intro hr; exact ⟨v, rfl, hr⟩
theorem mapS_at {F : Nat → Prop} {h : Heap} (ho : GT.own F h [.map (some r)] m) : F r ∧ mapAt h r m := by
  rcases own_map.1 ho with ⟨e, _⟩ | ⟨r', e, h1, h2⟩
  · cases e
  · cases e; exact ⟨h1, h2⟩
theorem keys_nodup {E : Array MapEntry} {es : List (Int × β)} (hE : E.toList.map (fun e => (e.key, e.val)) = es.map (fun p => (Value.int .i64 p.1, MV.venc p.2))) (hp : es.Perm m.es) : (es.map (·.1)).Nodup := (hp.map _).nodup_iff.2 m.nodup
theorem e_mkS (hm : Mem w0 hz w L) (ho : o.op = .makeMap t none) :
    Ef P a w o (fun v w' => ∃ r, v = .map (some r) ∧ Mem w0 hz w' (ow [.map (some r)] (MapS.mk0 : MapS β) :: L)) :=
  ef_value (w' := w.alloc (.map #[] 0)) (v := .map (some w.heap.size)) (by simp [execOp, ho, Instr.makeMap])
    ⟨_, rfl, hm.more ⟨rfl, rfl, rfl, by simp⟩ (fun b hb => Below.heap_alloc w _ b hb) ⟨fun b => b = w.heap.size, fun b hb => by subst hb; simp, own_map.2 (.inr ⟨_, rfl, rfl, #[], 0, [], heap_alloc_new w _, MapKept.stamped_empty 0, by simp, .nil⟩)⟩⟩
theorem y_lookS {key : Int} {zv : Value} (hK : P.underlying kt = some (.int .i64)) (ht : P.underlying t = some (.map kt vt)) (hz0 : ∀ w, (zeroValue vt).run P w = .ok zv w) (hr : GT.rep (hp w) [v] m) (ho : o.op = .lookup t x y false)
    (hx : ev l x = some v) (hy : ev l y = some (.int .i64 key)) : Yl P l w o ((m.get key).elim zv MV.venc) := fun n a hf => by
  rcases rep_map.1 hr with ⟨rfl, he⟩ | ⟨r, rfl, E, clock, es, h1, h2, h3, h4⟩
  · have hc := (key_int hK).check 9999 true key w
    have hf2 := run_findKey (venc := MV.venc (β := β)) (key_int hK) (E := []) (es := []) rfl key w
    simp only [execOp, ho, hf.eval hx, hf.eval hy, Instr.lookup]
    simp [run_underlying ht, hc, hf2, hz0, MapS.get, he, lookM, findIx]
  · have hf2 := run_findKey (key_int hK) h3 key w
    have hc := (key_int hK).check 9999 E.isEmpty key w
    simp only [execOp, ho, hf.eval hx, hf.eval hy, Instr.lookup]
    simp [run_underlying ht, MapKept.run_getObj_map h1, hc, hf2]
    unfold MapS.get
    rw [← lookM_perm h4 m.nodup]
    unfold lookM
    cases findIx key es 0 with
    | none => simp [hz0]
    | some q => simp
theorem y_lenS (ht : P.underlying t = some (.map kt vt)) (hr : GT.rep (hp w) [v] m) (ho : o.op = .call { callee := .builtin .len, args := #[x], argTypes := #[t] }) (hx : ev l x = some v) : Yl P l w o (.int .i64 m.len) := fun n a hf => by
  rcases rep_map.1 hr with ⟨rfl, he⟩ | ⟨r, rfl, E, clock, es, h1, h2, h3, h4⟩
  · simp [execOp, ho, resolve, invoke, builtin, hf.eval hx, Builtin.len_, run_underlying ht, goInt, MapS.len, he]
  · have hl : E.size = m.es.length := by
      have := congrArg List.length h3
      simp at this
      rw [this, h4.length_eq]
    simp [execOp, ho, resolve, invoke, builtin, hf.eval hx, Builtin.len_, run_underlying ht, goInt, MapS.len, MapKept.run_getObj_map h1, hl]
theorem run_insS {key : Int} {u : β} {E : Array MapEntry} {clock : Nat} {es : List (Int × β)} (hK : P.underlying kt = some (.int .i64)) (ht : P.underlying t = some (.map kt vt)) (hb : w.heap[r]? = some (.map E clock)) (hs : MapKept.Stamped E clock)
    (hE : E.toList.map (fun e => (e.key, e.val)) = es.map (fun p => (Value.int .i64 p.1, MV.venc p.2))) :
    ∃ E' clock', (Instr.mapUpdate t (.map (some r)) (.int .i64 key) (MV.venc u)).run P w = .ok () { w with heap := w.heap.setIfInBounds r (.map E' clock') } ∧ MapKept.Stamped E' clock' ∧ E'.toList.map (fun e => (e.key, e.val)) = (insM es key u).map (fun p => (Value.int .i64 p.1, MV.venc p.2)) := by
  have hf2 := run_findKey (key_int hK) hE key w
  have hc := (key_int hK).check 9999 false key w
  unfold insM
  cases hq : findIx key es 0 with
  | none =>
    rw [hq] at hf2
    refine ⟨E.push { key := .int .i64 key, val := MV.venc u, born := clock }, clock + 1, ?_, ?_, ?_⟩
    · simp [Instr.mapUpdate, run_underlying ht, MapKept.run_getObj_map hb, hc, hf2, MapKept.run_setObj_map _ hb]
    · refine MapKept.stamped_push hs fun e he h => ?_
      have h1 : (e.key, e.val) ∈ es.map (fun p => (Value.int .i64 p.1, MV.venc p.2)) := by rw [← hE]; exact List.mem_map.2 ⟨e, he, rfl⟩
      obtain ⟨p, hp, h2⟩ := List.mem_map.1 h1
      simp only [Prod.mk.injEq] at h2
      rw [h] at h2
      have : p.1 = key := by simpa using h2.1
      exact findIx_none.1 hq p hp this.symm
    · simp [hE]
  | some q =>
    obtain ⟨i, v0⟩ := q
    rw [hq] at hf2
    obtain ⟨_, h3⟩ := findIx_some hq
    rw [Nat.sub_zero] at h3
    have hlen : E.toList.length = es.length := by have := congrArg List.length hE; simpa using this
    have hi := (List.getElem?_eq_some_iff.1 h3).1
    have hkey : (E[i]?).map (·.key) = some (.int .i64 key) := by
      have := congrArg (fun l => l[i]?) hE
      simp only [List.getElem?_map, h3, Option.map_some] at this
      cases he : E[i]? with
      | none => rw [← Array.getElem?_toList] at he; rw [he] at this; simp at this
      | some e => rw [← Array.getElem?_toList] at he; rw [he] at this; simp at this; simp [this.1]
    refine ⟨E.modify i fun e => { e with key := .int .i64 key, val := MV.venc u }, clock, ?_, ?_, ?_⟩
    · simp [Instr.mapUpdate, run_underlying ht, MapKept.run_getObj_map hb, hc, hf2, hkey, Instr.keyThatStays, (key_int hK).bits, MapKept.run_setObj_map _ hb]
    · refine MapKept.stamped_modify hs i _ (fun _ _ => rfl) fun e _ he => ?_
      rw [he] at hkey
      simpa using hkey.symm
    · apply List.ext_getElem?
      intro j
      have hj := congrArg (fun l => l[j]?) hE
      simp only [List.getElem?_map] at hj
      simp only [List.getElem?_map, Array.getElem?_toList, Array.getElem?_modify, List.getElem?_set]
      by_cases e : i = j
      · subst e
        simp only [if_true, hi]
        have : i < E.size := by simpa using (by rw [← hlen] at hi; exact hi : i < E.toList.length)
        simp [this]
      · simp only [e, if_false]
        rw [← hj, Array.getElem?_toList]
theorem e_insS {key : Int} {u : β} {b : Bool} (k : Nat) (hK : P.underlying kt = some (.int .i64)) (ht : P.underlying t = some (.map kt vt)) (hf : Fr n l a) (hm : Mem w0 hz w L) (hk : L[k]? = some (ow [.map (some r)] m)) (ho : o.op = if b then .insert t x y z else .mapUpdate t x y z)
    (hx : ev l x = some (.map (some r))) (hy : ev l y = some (.int .i64 key)) (hv : ev l z = some (MV.venc u)) :
    Ef P a w o (fun _ w' => Mem w0 hz w' (L.set k (ow [.map (some r)] (m.ins key u)))) := by
  obtain ⟨F0, hF0, _⟩ := hm.get k hk
  obtain ⟨_, E, clock, es, h1, h2, h3, h4⟩ := mapS_at hF0
  obtain ⟨E', clock', h5, h6, h7⟩ := run_insS (u := u) hK ht h1 h2 h3 (key := key)
  have hlt := (Array.getElem?_eq_some_iff.1 h1).1
  refine ef_skip (w' := { w with heap := w.heap.setIfInBounds r (.map E' clock') }) ?_ ?_
  · cases b <;> simp [execOp, ho, hf.eval hx, hf.eval hy, hf.eval hv, h5]
  · refine hm.upd k hk ⟨rfl, rfl, rfl, by simp⟩ fun F hF hFw => ⟨F, fun _ h => .inl h, fun c hc => by simpa using hFw c hc, own_map.2 (.inr ⟨r, rfl, (mapS_at hF).1, E', clock', insM es key u, ?_, h6, h7, ?_⟩), fun c _ hne => ?_⟩
    · simp [hp, hlt]
    · refine (insM_perm (keys_nodup h3 h4)).trans (List.Perm.trans ?_ (m.ins_perm key u))
      exact (h4.filter _).cons _
    · have : r ≠ c := fun e => hne (by subst e; exact (mapS_at hF).1)
      simp [Array.getElem?_setIfInBounds, this]
theorem e_delS {key : Int} (k : Nat) (hK : P.underlying kt = some (.int .i64)) (ht : P.underlying t = some (.map kt vt)) (hf : Fr n l a) (hm : Mem w0 hz w L) (hk : L[k]? = some (ow [.map (some r)] m)) {ts : Array TypeId} (hts : ts[0]? = some t)
    (ho : o.op = .call { callee := .builtin .delete, args := #[x, y], argTypes := ts }) (hx : ev l x = some (.map (some r))) (hy : ev l y = some (.int .i64 key)) :
    Ef P a w o (fun _ w' => Mem w0 hz w' (L.set k (ow [.map (some r)] (m.del key)))) := by
  obtain ⟨F0, hF0, _⟩ := hm.get k hk
  obtain ⟨_, E, clock, es, h1, h2, h3, h4⟩ := mapS_at hF0
  have hlt := (Array.getElem?_eq_some_iff.1 h1).1
  have hf2 := run_findKey (key_int hK) h3 key w
  have hc := (key_int hK).check 9999 E.isEmpty key w
  have hn := keys_nodup h3 h4
  have fin : ∀ (E' : Array MapEntry) (es' : List (Int × β)), MapKept.Stamped E' clock → E'.toList.map (fun e => (e.key, e.val)) = es'.map (fun p => (Value.int .i64 p.1, MV.venc p.2)) → es' = es.filter (fun p => decide (p.1 ≠ key)) →
      Mem w0 hz { w with heap := w.heap.setIfInBounds r (.map E' clock) } (L.set k (ow [.map (some r)] (m.del key))) := fun E' es' h6 h7 h8 => by
    refine hm.upd k hk ⟨rfl, rfl, rfl, by simp⟩ fun F hF hFw => ⟨F, fun _ h => .inl h, fun c hc => by simpa using hFw c hc, own_map.2 (.inr ⟨r, rfl, (mapS_at hF).1, E', clock, es', ?_, h6, h7, ?_⟩), fun c _ hne => ?_⟩
    · simp [hp, hlt]
    · rw [h8]; exact h4.filter _
    · have : r ≠ c := fun e => hne (by subst e; exact (mapS_at hF).1)
      simp [Array.getElem?_setIfInBounds, this]
  cases hq : findIx key es 0 with
  | none =>
    rw [hq] at hf2
    refine ef_value (v := .tuple #[]) (w' := { w with heap := w.heap.setIfInBounds r (.map E clock) }) ?_ (fin E es h2 h3 ?_)
    · simp [execOp, ho, resolve, invoke, builtin, hf.eval hx, hf.eval hy, Builtin.delete_, hts, run_underlying ht, MapKept.run_getObj_map h1, hc, hf2, MapKept.run_setObj_map _ h1]
    · exact (List.filter_eq_self.2 fun q hq' => by
        have : q.1 ≠ key := fun e => findIx_none.1 hq q hq' e.symm
        simpa using this).symm
  | some q =>
    obtain ⟨i, v0⟩ := q
    rw [hq] at hf2
    obtain ⟨_, h5⟩ := findIx_some hq
    rw [Nat.sub_zero] at h5
    have hlen : E.toList.length = es.length := by have := congrArg List.length h3; simpa using this
    have hi := (List.getElem?_eq_some_iff.1 h5).1
    refine ef_value (v := .tuple #[]) (w' := { w with heap := w.heap.setIfInBounds r (.map (E.eraseIdxIfInBounds i) clock) }) ?_ (fin _ (es.eraseIdx i) (MapKept.stamped_erase h2 i) ?_ (erase_perm hn h5))
    · simp [execOp, ho, resolve, invoke, builtin, hf.eval hx, hf.eval hy, Builtin.delete_, hts, run_underlying ht, MapKept.run_getObj_map h1, hc, hf2, MapKept.run_setObj_map _ h1]
    · have : i < E.size := by simpa using (by rw [← hlen] at hi; exact hi : i < E.toList.length)
      rw [Array.eraseIdxIfInBounds, dif_pos this]
      simp only [Array.toList_eraseIdx, erase_map, h3]
def owm (v : Value) (m : MapS β) : Ch where
  pr F h := ∃ r, v = .map (some r) ∧ F r ∧ mapAt h r m
  loc := fun F h h' ⟨r, hv, hF, E, c, es, h1, h2⟩ hh => ⟨r, hv, hF, E, c, es, (hh r hF).trans h1, h2⟩
  mono := fun F F' h ⟨r, hv, h1, h2⟩ hF => ⟨r, hv, hF r h1, h2⟩
theorem own_owm {F : Nat → Prop} {h : Heap} (ho : (owm v m).pr F h) : GT.own F h [v] m := own_map.2 (.inr ho)
theorem owm_own {F : Nat → Prop} {h : Heap} (ho : GT.own F h [.map (some r)] m) : (owm (.map (some r)) m).pr F h := ⟨r, rfl, mapS_at ho⟩
theorem Mem.owm_ow (hm : Mem w0 hz w L) (k : Nat) (hk : L[k]? = some (owm v m)) : Mem w0 hz w (L.set k (ow [v] m)) := hm.imp k hk fun _ h => own_owm h
theorem Mem.owm_rep (hm : Mem w0 hz w L) (k : Nat) (hk : L[k]? = some (owm v m)) : GT.rep (hp w) [v] m := by
  obtain ⟨F, hF, _⟩ := hm.get k hk
  exact GT.own_rep (own_owm hF)
theorem owm_form (hm : Mem w0 hz w L) (k : Nat) (hk : L[k]? = some (owm v m)) : ∃ r, v = .map (some r) := by
  obtain ⟨F, ⟨r, h, _⟩, _⟩ := hm.get k hk
  exact ⟨r, h⟩
theorem set_set {α : Type} (l : List α) (k : Nat) (x y : α) : (l.set k x).set k y = l.set k y := by simp
theorem e_mkM (hm : Mem w0 hz w L) (ho : o.op = .makeMap t none) : Ef P a w o (fun v w' => Mem w0 hz w' (owm v (MapS.mk0 : MapS β) :: L)) := fun K Q hk =>
  e_mkS (β := β) hm ho K Q fun v w' ⟨r, hv, hm'⟩ => hk v w' (by subst hv; exact hm'.imp 0 rfl fun _ h => owm_own h)
theorem e_insM {key : Int} {u : β} {b : Bool} (k : Nat) (hK : P.underlying kt = some (.int .i64)) (ht : P.underlying t = some (.map kt vt)) (hf : Fr n l a) (hm : Mem w0 hz w L) (hk : L[k]? = some (owm v m)) (ho : o.op = if b then .insert t x y z else .mapUpdate t x y z)
    (hx : ev l x = some v) (hy : ev l y = some (.int .i64 key)) (hv : ev l z = some (MV.venc u)) : Ef P a w o (fun _ w' => Mem w0 hz w' (L.set k (owm v (m.ins key u)))) := by
  obtain ⟨r, rfl⟩ := owm_form hm k hk
  have hlt := (List.getElem?_eq_some_iff.1 hk).1
  have hk' : (L.set k (ow [.map (some r)] m))[k]? = some (ow [.map (some r)] m) := List.getElem?_set_self hlt
  intro K Q hkk
  refine e_insS (u := u) k hK ht hf (hm.owm_ow k hk) hk' ho hx hy hv K Q fun v' w' h => hkk v' w' ?_
  rw [set_set] at h
  have := h.imp (c' := owm (.map (some r)) (m.ins key u)) k (List.getElem?_set_self hlt) fun _ h => owm_own h
  rwa [set_set] at this
theorem e_delM {key : Int} (k : Nat) (hK : P.underlying kt = some (.int .i64)) (ht : P.underlying t = some (.map kt vt)) (hf : Fr n l a) (hm : Mem w0 hz w L) (hk : L[k]? = some (owm v m)) {ts : Array TypeId} (hts : ts[0]? = some t)
    (ho : o.op = .call { callee := .builtin .delete, args := #[x, y], argTypes := ts }) (hx : ev l x = some v) (hy : ev l y = some (.int .i64 key)) : Ef P a w o (fun _ w' => Mem w0 hz w' (L.set k (owm v (m.del key)))) := by
  obtain ⟨r, rfl⟩ := owm_form hm k hk
  have hlt := (List.getElem?_eq_some_iff.1 hk).1
  have hk' : (L.set k (ow [.map (some r)] m))[k]? = some (ow [.map (some r)] m) := List.getElem?_set_self hlt
  intro K Q hkk
  refine e_delS k hK ht hf (hm.owm_ow k hk) hk' hts ho hx hy K Q fun v' w' h => hkk v' w' ?_
  rw [set_set] at h
  have := h.imp (c' := owm (.map (some r)) (m.del key)) k (List.getElem?_set_self hlt) fun _ h => owm_own h
  rwa [set_set] at this
end
end Go.Wk
namespace Go.Wk
open Go Go.RowKit
def oc (b : Nat) (o : Obj) : Ch where
  pr F h := F b ∧ h b = some o
  loc _ _ _ hp hh := ⟨hp.1, (hh b hp.1).trans hp.2⟩
  mono _ _ _ hp hF := ⟨hF b hp.1, hp.2⟩
section
variable {α S : Type}
def rangeM (body : α → S → Option S) : List α → S → Option S
  | [], s => some s
  | p :: es, s => Option.bind (body p s) (rangeM body es)
def Comm (body : α → S → Option S) : Prop := ∀ p q s, Option.bind (body p s) (body q) = Option.bind (body q s) (body p)
end
section
variable {β S : Type} [MV β]
noncomputable def dec (e : MapEntry) (z : Int × β) : Int × β := by
  classical exact if h : ∃ p : Int × β, (e.key, e.val) = (Value.int .i64 p.1, MV.venc p.2) then h.choose else z
end
section
variable {β S : Type} [MV β] {P : Program} {ops : Array Oper} {a : Act} {w w0 : World} {hz : Heap} {L : List Ch} {o : Oper} {n d : Nat} {l : Env} {x : Operand} {t kt vt ty : TypeId} {v : Value} {m : MapS β} {b : Nat} {seen : Array Nat}
def itc (hz : Heap) (v : Value) (b : Nat) (seen : Array Nat) : Ch where
  pr F h := F b ∧ ((v = .map none ∧ h b = some (.mapIter none 0 seen 0)) ∨ ∃ r E clock, v = .map (some r) ∧ hz r = some (.map E clock) ∧ h b = some (.mapIter (some r) clock seen clock))
  loc F h h' hp hh := ⟨hp.1, by rw [hh b hp.1]; exact hp.2⟩
  mono F F' h hp hF := ⟨hF b hp.1, hp.2⟩
def More (hz : Heap) (v : Value) (seen : Array Nat) (body : Int × β → S → Option S) (s : S) : Prop :=
  ∃ r E clock, v = .map (some r) ∧ hz r = some (.map E clock) ∧ MapKept.Stamped E clock ∧ (leftOf E seen).size ≠ 0 ∧ ∀ e ∈ (leftOf E seen).toList, ∃ p s', (e.key, e.val) = (Value.int .i64 p.1, MV.venc p.2) ∧ body p s = some s'
def NoMore (hz : Heap) (v : Value) (seen : Array Nat) : Prop :=
  v = .map none ∨ ∃ r E clock, v = .map (some r) ∧ hz r = some (.map E clock) ∧ MapKept.Stamped E clock ∧ (leftOf E seen).size = 0
def Got (hz : Heap) (v : Value) (seen : Array Nat) (bn : Nat) (p : Int × β) : Prop :=
  ∃ r E clock e, v = .map (some r) ∧ hz r = some (.map E clock) ∧ MapKept.Stamped E clock ∧ e ∈ (leftOf E seen).toList ∧ bn = e.born ∧ (e.key, e.val) = (Value.int .i64 p.1, MV.venc p.2)
def Rnd (hz : Heap) (v : Value) (seen : Array Nat) (body : Int × β → S → Option S) (s : S) (J : Array Nat → S → Act → World → Prop) (a : Act) (w : World) : Prop :=
  ∃ bn p s', Got hz v seen bn p ∧ body p s = some s' ∧ J (seen.push bn) s' a w
variable {ρ : Type} {c : Code} {Q : Exit → Act → World → Prop} {r : ρ} {s0 : S}
end
end Go.Wk
namespace Go.Wk
open Go Go.RowKit Go.Shelf
def sortI (xs : List Int) : List Int := xs.mergeSort fun x y => decide (x ≤ y)
theorem sortI_len (xs : List Int) : (sortI xs).length = xs.length := List.length_mergeSort xs
section
variable {P : Program} {ρ : Ren} {w0 : World} {hz : Heap} {v : Value} {xs : List Int}
theorem getB {xs : List Int} {j : Nat} (h : j < xs.length) : xs.toArray[j]! = xs[j] := by
  rw [getElem!_pos _ _ (by simpa using h)]; simp
theorem row_new {w : World} {L : List Ch} {b off cap n : Nat} {os : Array Obj} {ys zs : List Int} {pre : Nat} (hm : Mem w0 hz w L) (k : Nat) (hk : L[k]? = some (ow [.slice (some ⟨b, off, none⟩) xs.length cap] xs)) (hz1 : zs.length = xs.length) (hy : ys <+: zs) :
    Mem w0 hz (Sort.grow (Sort.putRow (Value.int .i64) (Sort.ahead w n) b off zs.toArray) os) (L.set k (ow [.slice (some ⟨b, off, none⟩) ys.length cap] ys)) := by
  obtain ⟨F, hF, hFw⟩ := hm.get k hk
  have hF' : sliceOwn F (hp w) (.slice (some ⟨b, off, none⟩) xs.length cap) xs := own_list.1 hF
  rcases hF' with ⟨e, _⟩ | ⟨b', off', len', cap', C, T, e, hFb, hb, hl, hc, hmx, hsz, fps, g1, g2, g3⟩
  · cases e
  cases e
  have hyl := hy.length_le
  have hsz' : off + cap ≤ C.size := by simpa [show GT.sz Int = 1 from rfl] using hsz
  have hbw : w.heap[b]? = some (.cells C T (0, 0)) := hb
  have hlt := (Array.getElem?_eq_some_iff.1 hbw).1
  have hnew : (Sort.grow (Sort.putRow (Value.int .i64) (Sort.ahead w n) b off zs.toArray) os).heap[b]? = some (.cells (Sort.putCells (Value.int .i64) off zs.toArray C) T (0, 0)) := by
    rw [Sort.heap_grow_old _ _ (by simpa [Sort.ahead] using hlt)]
    simp [Sort.putRow, Sort.mapBlock, Sort.ahead, Array.getElem?_modify, hbw, Sort.onCells]
  have hCs : (Sort.putCells (Value.int .i64) off zs.toArray C).size = C.size := by simp [Sort.putCells]
  have hF2b : ∀ F2, (ow [.slice (some ⟨b, off, none⟩) xs.length cap] xs).pr F2 (hp w) → F2 b := fun F2 hF2 => by
    have hF2' : sliceOwn F2 (hp w) (.slice (some ⟨b, off, none⟩) xs.length cap) xs := own_list.1 hF2
    rcases hF2' with ⟨e, _⟩ | ⟨b2, off2, len2, cap2, C2, T2, e, hFb2, _⟩
    · cases e
    · cases e; exact hFb2
  refine hm.upd k hk ⟨rfl, rfl, rfl, by simp [Sort.ahead]⟩ fun F2 hF2 hFw2 => ⟨fun c => c = b, fun c hc => by subst hc; exact .inl (hF2b F2 hF2), fun c hc => by subst hc; simp [Sort.ahead]; omega, own_list.2 (.inr ⟨b, off, ys.length, cap, Sort.putCells (Value.int .i64) off zs.toArray C, T, rfl, rfl, hnew, rfl, by omega, ⟨hmx.1, by omega⟩, by rw [hCs]; exact hsz, fun _ _ => False, fun _ _ h => h.elim, fun _ _ _ _ h => h.elim, fun i x hx => ?_⟩), fun c hc hne => ?_⟩
  · have hi : i < ys.length := (List.getElem?_eq_some_iff.1 hx).1
    have hx2 : zs[i]? = some x := by
      obtain ⟨t, rfl⟩ := hy
      rw [List.getElem?_append_left hi]; exact hx
    have hi2 : i < zs.length := by omega
    have hx' : zs[i] = x := (List.getElem?_eq_some_iff.1 hx2).2
    refine Flat.own_iff.2 ?_
    show seg _ (off + i * 1) 1 = [.int .i64 x]
    have hc1 : (Sort.putCells (Value.int .i64) off zs.toArray C)[off + i]? = some (.int .i64 x) := by
      simp only [Sort.putCells, Array.getElem?_mapIdx]
      have : off + i < C.size := by omega
      rw [Array.getElem?_eq_getElem this, Option.map_some, if_pos ⟨by omega, by simp; omega⟩, show off + i - off = i by omega, getB hi2, hx']
    have hls : (seg (Sort.putCells (Value.int .i64) off zs.toArray C) (off + i * 1) 1).length = 1 := seg_len (by rw [hCs]; omega)
    apply List.ext_getElem?
    intro j
    cases j with
    | zero =>
      have h5 : hp (Sort.grow (Sort.putRow (Value.int .i64) (Sort.ahead w n) b off zs.toArray) os) b = some (.cells (Sort.putCells (Value.int .i64) off zs.toArray C) T (0, 0)) := hnew
      obtain ⟨C', T', fz', e1, e2⟩ := cellsAt_seg (o := off + i * 1) (n := 1) h5
      have e3 := e2 0 _ (List.getElem?_eq_getElem (by omega))
      rw [h5] at e1
      cases e1
      rw [List.getElem?_eq_getElem (by omega)]
      rw [show off + i * 1 + 0 = off + i by omega, hc1] at e3
      simpa using e3.symm
    | succ j => rw [List.getElem?_eq_none (by omega), List.getElem?_eq_none (by simp)]
  · have hcb : b ≠ c := fun e => hne (by subst e; exact hF2b F2 hF2)
    rw [Sort.heap_grow_old _ _ (by simpa [Sort.ahead] using hc)]
    simp [Sort.putRow, Sort.mapBlock, Sort.ahead, Array.getElem?_modify, hcb]
theorem row_holds {w : World} {L : List Ch} {b off cap : Nat} (hm : Mem w0 hz w L) (k : Nat) (hk : L[k]? = some (ow [.slice (some ⟨b, off, none⟩) xs.length cap] xs)) : Sort.Holds (Value.int .i64) w b off xs.toArray ∧ b < w.heap.size ∧ xs.length ≤ cap ∧ xs.length ≤ 140737488355328 := by
  obtain ⟨F, hF, hFw⟩ := hm.get k hk
  have hF' : sliceOwn F (hp w) (.slice (some ⟨b, off, none⟩) xs.length cap) xs := own_list.1 hF
  rcases hF' with ⟨e, _⟩ | ⟨b', off', len', cap', C, T, e, hFb, hb, hl, hc, hmx, hsz, fps, g1, g2, g3⟩
  · cases e
  cases e
  have hbw : w.heap[b]? = some (.cells C T (0, 0)) := hb
  refine ⟨fun j hj => ?_, (Array.getElem?_eq_some_iff.1 hbw).1, hc, hmx.2⟩
  have hj' : j < xs.length := by simpa using hj
  have h1 := g3 j xs[j] (List.getElem?_eq_getElem hj')
  have h2 : seg C (off + j * 1) 1 = [.int .i64 xs[j]] := Flat.own_iff.1 h1
  have h3 : (seg C (off + j * 1) 1)[0]? = some (.int .i64 xs[j]) := by rw [h2]; rfl
  obtain ⟨C', T', fz', e1, e2⟩ := cellsAt_seg (o := off + j * 1) (n := 1) hb
  rw [hb] at e1
  cases e1
  have := e2 0 _ h3
  rw [getB hj']
  have h4 : C[off + j]? = some (.int .i64 xs[j]) := by simpa using this
  exact ⟨by simp [World.cell?, hbw, h4], by simp [World.frozen?, hbw]⟩
theorem own_form {w : World} {L : List Ch} (hm : Mem w0 hz w L) (k : Nat) (hk : L[k]? = some (ow [v] xs)) : (v = .slice none 0 0 ∧ xs = []) ∨ ∃ b off cap, v = .slice (some ⟨b, off, none⟩) xs.length cap := by
  obtain ⟨F, hF, hFw⟩ := hm.get k hk
  have hF' : sliceOwn F (hp w) v xs := own_list.1 hF
  rcases hF' with h | ⟨b, off, len, cap, C, T, rfl, hFb, hb, hl, _⟩
  · exact .inl h
  · exact .inr ⟨b, off, cap, by rw [hl]⟩
theorem set_sameL {α : Type} {l : List α} {k : Nat} {x : α} (h : l[k]? = some x) : l.set k x = l := by
  obtain ⟨h1, h2⟩ := List.getElem?_eq_some_iff.1 h
  rw [← h2]; exact List.set_getElem_self h1
theorem sort_con {w : World} {L : List Ch} (Ly : Go.Proofs.Lays.n189 P ρ) (hm : Mem w0 hz w L) (k : Nat) (hk : L[k]? = some (ow [v] xs)) : Con P (ρ.f 189) [v] w fun v' w' => v' = .tuple #[] ∧ Mem w0 hz w' (L.set k (ow [v] (sortI xs))) := by
  rcases own_form hm k hk with ⟨rfl, rfl⟩ | ⟨b, off, cap, rfl⟩
  · refine Calls.mono (Go.Proofs.Any.slices_Sort_int_none Ly none 0 w) fun e w' h => ?_
    obtain ⟨rfl, rfl⟩ := h
    exact ⟨rfl, by rw [show sortI [] = [] by simp [sortI], set_sameL hk]; exact hm⟩
  · obtain ⟨h1, h2, _, h4⟩ := row_holds hm k hk
    refine Calls.mono (Go.Proofs.Any.slices_Sort_int Ly b off cap xs w h1 h2 (by omega)) fun e w' h => ?_
    obtain ⟨rfl, n, os, rfl⟩ := h
    refine ⟨rfl, ?_⟩
    have := row_new (n := n) (os := os) (ys := sortI xs) (zs := sortI xs) (pre := 0) hm k hk (sortI_len xs) (List.prefix_refl _)
    rw [sortI_len] at this
    exact this
theorem compact_con {w : World} {L : List Ch} (Ly : Go.Proofs.Lays2.n20 P ρ) (hm : Mem w0 hz w L) (k : Nat) (hk : L[k]? = some (ow [v] xs)) : Con P (ρ.f 20) [v] w fun v' w' => Mem w0 hz w' (L.set k (ow [v'] (Lib.compact xs))) := by
  rcases own_form hm k hk with ⟨rfl, rfl⟩ | ⟨b, off, cap, rfl⟩
  · refine Calls.mono (Go.Proofs.Any.slices_Compact_int_empty Ly none 0 w) fun e w' h => ?_
    obtain ⟨rfl, rfl⟩ := h
    show Mem w0 hz w' (L.set k (ow [.slice none 0 0] (Lib.compact [])))
    rw [show Lib.compact ([] : List Int) = [] from rfl, set_sameL hk]; exact hm
  · obtain ⟨h1, h2, h3, h4⟩ := row_holds hm k hk
    have hle : (Lib.compact xs).length ≤ xs.length := Lib.compact_length_le xs
    refine Calls.mono (Go.Proofs.Any.slices_Compact_int Ly b off cap xs w h1 (by omega) h3) fun e w' h => ?_
    obtain ⟨rfl, n, rfl⟩ := h
    have := row_new (n := n) (os := #[]) (ys := Lib.compact xs) (zs := Lib.compact xs ++ List.replicate (xs.length - (Lib.compact xs).length) 0) (pre := 0) hm k hk (by simp; omega) (List.prefix_append _ _)
    rw [Sort.grow_empty] at this
    exact this
end
end Go.Wk
namespace Go.Wk
open Go Go.RowKit
section
variable {β ρ : Type} [MV β] {P : Program} {w0 : World} {hz : Heap} {n : Nat} {l : Env} {w : World} {v : Value} {m : MapS β} {c : Code} {Q : Exit → Act → World → Prop} {r : ρ}
end
section
variable {β : Type} [MV β] {w0 : World} {hz : Heap} {w : World} {L : List Ch} {v : Value} {m : MapS β}
theorem owm_cells (hm : Mem w0 hz w L) (k : Nat) (hk : L[k]? = some (owm v m)) : v.cells = [v].toArray := by
  obtain ⟨r, rfl⟩ := owm_form hm k hk
  rfl
end
section
variable {P : Program} {l : Env} {w : World} {o : Oper} {x y : Operand} {t kt vt : TypeId} {v : Value} {key : Int}
theorem y_lookI {m : MapS Int} (hK : P.underlying kt = some (.int .i64)) (ht : P.underlying t = some (.map kt vt)) (hz0 : ∀ w, (zeroValue vt).run P w = .ok (.int .i64 0) w) (hr : GT.rep (hp w) [v] m) (ho : o.op = .lookup t x y false)
    (hx : ev l x = some v) (hy : ev l y = some (.int .i64 key)) : Yl P l w o (.int .i64 ((m.get key).getD 0)) := by
  have h := y_lookS (zv := .int .i64 0) hK ht hz0 hr ho hx hy
  cases e : m.get key <;> rw [e] at h <;> exact h
end
end Go.Wk
namespace Go.Wk
open Go Go.RowKit
end Go.Wk
namespace Go.Wk
open Go Go.RowKit
def subC (s : Nat) (v : Value) (lo hi : Nat) : Value := match v with
  | .slice p _ _ => .slice (if hi = lo then p else p.map (·.add (lo * s))) (hi - lo) (hi - lo)
  | v => v
section
variable {α : Type} [GT α] {h : Heap} {v : Value} {xs : List α} {lo hi : Nat} {F : Nat → Prop}
end
section
variable {α : Type} [GT α] {P : Program} {l : Env} {h : Heap} {o : Oper} {x yl yh ym : Operand} {t e : TypeId} {v : Value} {xs : List α} {lo hi : Int} {kl kh km : IntKind}
end
end Go.Wk
namespace Go.Wk
open Go Go.RowKit
section
variable {β S : Type}
open Classical in
noncomputable def onM (es : List (Int × β)) (body : Int × β → S → Option S) : Int × β → S → Option S := fun p => if p ∈ es then body p else fun _ => none
end
section
variable {β S ρ : Type} [MV β] {P : Program} {w0 : World} {hz : Heap} {n : Nat} {l : Env} {w : World} {v : Value} {m : MapS β} {c : Code} {Q : Exit → Act → World → Prop} {r : ρ}
end
def guardN (l : List Int) : Option _root_.Unit := if l.Nodup then some () else none
theorem get_mem {β : Type} {m : MapS β} {k : Int} {x : β} (h : m.get k = some x) : (k, x) ∈ m.es := (lookM_some m.nodup).1 h
theorem rep_oneM {β : Type} [MV β] {h : Heap} {v : Value} {m : MapS β} (hr : GT.rep h [v] m) : v.oneCell' = true := GT.one hr _ (List.mem_singleton.2 rfl)
end Go.Wk
namespace Go.Wk
open Go Go.RowKit
abbrev InSc (Q : Exit → Act → World → Prop) (e : Exit) : Act → World → Prop := match e with
  | .goto _ => fun _ _ => False
  | e => Q e
section
variable {ρ : Type} {m : Option ρ} {r : ρ} {n : Nat} {l : Env} {w : World} {P : Program} {c : Code} {Q : Exit → Act → World → Prop}
end
end Go.Wk
namespace Go.Wk
open Go Go.RowKit
def MapO (β : Type) : Type := Option (MapS β)
def MapO.toS {β : Type} (x : MapO β) : MapS β := match x with | some m => m | none => MapS.mk0
def MapO.of {β : Type} (m : MapS β) : MapO β := some m
def MapO.nil {β : Type} : MapO β := none
def MapO.get {β : Type} (x : MapO β) : Option (MapS β) := x
instance {β : Type} : Inhabited (MapO β) := ⟨none⟩
instance {β : Type} [MV β] : GT (MapO β) where
  sz := 1
  rep h cs x := ∃ v, cs = [v] ∧ ((v = .map none ∧ x = none) ∨ ∃ r m, v = .map (some r) ∧ x = some m ∧ mapAt h r m)
  own F h cs x := ∃ v, cs = [v] ∧ ((v = .map none ∧ x = none) ∨ ∃ r m, v = .map (some r) ∧ x = some m ∧ F r ∧ mapAt h r m)
  len := by rintro h cs m ⟨v, rfl, _⟩; rfl
  mono := by
    rintro h h' cs m hh ⟨v, rfl, hr⟩
    refine ⟨v, rfl, ?_⟩
    rcases hr with hr | ⟨r, m, hv, hx, E, c, es, h1, h2⟩
    · exact .inl hr
    · exact .inr ⟨r, m, hv, hx, E, c, es, hh _ _ h1, h2⟩
  own_rep := by
    rintro F h cs m ⟨v, rfl, hr⟩
    refine ⟨v, rfl, ?_⟩
    rcases hr with hr | ⟨r, m, hv, hx, _, h1⟩
    · exact .inl hr
    · exact .inr ⟨r, m, hv, hx, h1⟩
  own_loc := by
    rintro F h h' cs m ⟨v, rfl, hr⟩ hh
    refine ⟨v, rfl, ?_⟩
    rcases hr with hr | ⟨r, m, hv, hx, hF, E, c, es, h1, h2⟩
    · exact .inl hr
    · exact .inr ⟨r, m, hv, hx, hF, E, c, es, (hh r hF).trans h1, h2⟩
  own_mono := by
    rintro F F' h cs m hF ⟨v, rfl, hr⟩
    refine ⟨v, rfl, ?_⟩
    rcases hr with hr | ⟨r, m, hv, hx, h1, h2⟩
    · exact .inl hr
    · exact .inr ⟨r, m, hv, hx, hF r h1, h2⟩
  one := by
    rintro h cs m ⟨v, rfl, hr⟩ u hu
    simp at hu
    subst hu
    rcases hr with ⟨rfl, _⟩ | ⟨r, m, rfl, _⟩ <;> rfl
section
variable {β : Type} [MV β] {P : Program} {a : Act} {w w0 : World} {hz : Heap} {L : List Ch} {o : Oper} {n : Nat} {l : Env} {x y z : Operand} {t kt vt : TypeId} {r : Nat} {m : MapS β} {v : Value}
def Ent (h : Heap) (v : Value) (key st : Int) : Prop :=
  ∃ (r : Nat) (E : Array MapEntry) (clock j : Nat) (e : MapEntry), v = .map (some r) ∧ h r = some (.map E clock) ∧ E.toList[j]? = some e ∧ (e.born : Int) = st ∧ e.key = .int .i64 key
end
section
variable {S α : Type} {f g f2 : S → Option S}
def CommF (f g : S → Option S) : Prop := ∀ s, Option.bind (f s) g = Option.bind (g s) f
end
def put1 (a k : Int) (xs : List (MapO Bool)) : Option (List (MapO Bool)) := Option.bind (getI xs a) fun x => Option.bind (MapO.get x) fun m => some (xs.set a.toNat (MapO.of (m.ins k true)))
end Go.Wk
namespace Go.Wk
open Go Go.RowKit
def hput (h : Heap) (b : Nat) (o : Obj) : Heap := fun k => if k = b then some o else h k
section
variable {w0 w w' : World} {hz hz' : Heap} {L : List Ch}
end
def Back2 (P : Program) (f : FuncId) : Prop := ∀ (xs : List Int) (b : Nat) (v : Value) (lp : Nat) (J : Nat → World → Prop) (W : World),
  (∀ k W, J k W → W.cell? ⟨b, 0, none⟩ = some v ∧ GT.rep (hp W) [v] xs) →
  (∀ k j W, k + (j + 1) = xs.length → J k W → ∀ m, YieldAt Fence.wide m P lp #[.int .i64 (j : Int), .int .i64 (xs.getD j 0)] W fun e W' => e = .returned (.bool true) ∧ J (k + 1) W') →
  J 0 W → ∀ n, CallsIn Fence.wide n P f #[.func (.yield lp) #[] #[], .pointer (some ⟨b, 0, none⟩)] W fun e W' => (∃ v, e = .returned v) ∧ J xs.length W'
def backM {S : Type} (body : Int → Int → S → Option S) (xs : List Int) : Nat → S → Option S
  | 0, s => some s
  | k + 1, s => Option.bind (body (k : Int) (xs.getD k 0) s) fun s => backM body xs k s
def Gt (w0 : World) (hz : Heap) (L : List Ch) (φ : Heap → Act → World → Prop) (w : World) (a : Act) (w' : World) : Prop :=
  w' = w ∧ ∀ hz2 w2, Heap.le hz hz2 → Mem w0 hz2 w2 L → φ hz2 a w2
abbrev mark (D : Nat) : List Deferred := [{ target := .collected D, args := #[] }]
def postK (P : Program) (fn : Func) (D : Nat) (R : Value → World → Prop) (e : Exit) (a : Act) (w : World) : Prop := match e with
  | .ret => a.defers = [] ∧ ∃ v, (∀ w, (results fn a.tmps).run P w = .ok v w) ∧ ∃ w', (Instr.takeDeferred D).run P w = .ok [] w' ∧ R v w'
  | _ => False
def postM (P : Program) (fn : Func) (R : Value → World → Prop) (e : Exit) (a : Act) (w : World) : Prop := ∃ D a0, a = a0.up (mark D) ∧ postK P fn D R e a0 w
section
variable {ρ S : Type} {m : Option ρ} {r : ρ} {P : Program} {n : Nat} {l : Env} {w w0 : World} {hz : Heap} {L : List Ch} {R : ρ → Value → World → Prop} {fn : Func} {c : Code} {args : List Value} {f : FuncId} {Q : Exit → Act → World → Prop}
def Mb (w0 : World) (L' : S → List Ch) (q : S) (hz : Heap) (_ : Act) (w : World) : Prop := Mem w0 hz w (L' q)
end
end Go.Wk
namespace Go.Wk
open Go Go.RowKit
section
variable {ρ : Type} {m : Option ρ} {r : ρ} {P : Program} {ops : Array Oper} {Q : Exit → Act → World → Prop} {n k : Nat} {l : Env} {w : World} {o : Oper} {rest : List Oper} {d : Nat} {v : Value} {c c' : Code} {f : FuncId} {fn : Func}
abbrev wpW (k : Nat) (P : Program) (c : Code) (Q : Exit → Act → World → Prop) (a : Act) (w : World) : Prop := c.wpIn Fence.wide k P Q a w
abbrev wlW (k : Nat) (P : Program) (ops : Array Oper) (Q : Exit → Act → World → Prop) (os : List Oper) (a : Act) (w : World) : Prop := wpListIn Fence.wide k P ops Q os a w
end
section
variable {β : Type}
end
end Go.Wk
namespace Go.Wk
open Go Go.RowKit
def hupd (h : Heap) (b i : Nat) (v : Value) : Heap := fun c => if c = b then (match h b with | some (.cells C T fz) => some (.cells (C.setIfInBounds i v) T fz) | o => o) else h c
def hcell (h : Heap) (b i : Nat) (v : Value) : Prop := ∃ C T, h b = some (.cells C T (0, 0)) ∧ C[i]? = some v
def celc (h0 : Heap) (b i : Nat) (v : Value) : Ch where
  pr F h := F b ∧ h b = hupd h0 b i v b ∧ ∃ u, hcell h0 b i u
  loc _ _ _ hp hh := ⟨hp.1, (hh b hp.1).trans hp.2.1, hp.2.2⟩
  mono _ _ _ hp hF := ⟨hF b hp.1, hp.2⟩
section
variable {P : Program} {a : Act} {w w0 : World} {hz : Heap} {L : List Ch} {o : Oper} {n : Nat} {l : Env} {x y : Operand} {v u : Value} {b i : Nat} {t : TypeId} {h0 : Heap}
end
def VisitP (P : Program) (vf : Value) (f : Int → Option Int) (hzc : Heap) : Prop :=
  ∀ (w : World) (b i : Nat) (x y : Int), Heap.le hzc (hp w) → hcell (hp w) b i (.int .i64 x) → hzc b = none → f x = some y → FnOk P vf [.pointer (some ⟨b, i, none⟩)] w fun _ w' => Same w w' ∧ ∀ c, c < w.heap.size → hp w' c = hupd (hp w) b i (.int .i64 y) c
section
variable {α β : Type} [GT α] [GT β]
def Deep (F : Nat → Prop) (h : Heap) (cs : List Value) (b i : Nat) (n : Int) (g : Int → α) : Prop := F b ∧ hcell h b i (.int .i64 n) ∧ ∀ y, GT.own F (hupd h b i (.int .i64 y)) cs (g y)
def Shal (F : Nat → Prop) (h : Heap) (cs : List Value) (d : Nat) (n : Int) (g : Int → α) : Prop := cs[d]? = some (.int .i64 n) ∧ ∀ y, GT.own F h (cs.set d (.int .i64 y)) (g y)
theorem Mem.spot {w0 w : World} {hz : Heap} {L : List Ch} {cs : List Value} {x : α} {b i : Nat} {n : Int} {g : Int → α} (hm : Mem w0 hz w (ow cs x :: L)) (hd : ∀ F, GT.own F (hp w) cs x → Deep F (hp w) cs b i n g) : hcell (hp w) b i (.int .i64 n) ∧ hz b = none := by
  obtain ⟨F, hF, h1⟩ := hm.get 0 rfl
  obtain ⟨s0, s1, _⟩ := hd F hF
  exact ⟨s1, (h1 b s0).2⟩
end
theorem FnOk.mono {P : Program} {fv : Value} {args : List Value} {w : World} {R R' : Value → World → Prop} (h : FnOk P fv args w R) (hr : ∀ v w', R v w' → R' v w') : FnOk P fv args w R' := by
  obtain ⟨k, cs, h1, h2, h3⟩ := h
  refine ⟨k, cs, h1, h2, Calls.mono h3 fun e w' h => ?_⟩
  cases e with
  | returned v => exact hr v w' h
  | _ => exact h
end Go.Wk
namespace Go.Wk
open Go Go.RowKit
section
variable {α : Type} [GT α]
def hole2E (b off len cap : Nat) (xs : List α) (i : Nat) (ecs : List Value) (i2 : Nat) (fcs : List Value) : Ch where
  pr R h := ∃ C T, ∃ fps : Nat → Nat → Prop, h b = some (.cells C T (0, 0)) ∧ R b ∧ xs.length = len ∧ len ≤ cap ∧ (cap ≤ maxLen ∧ len ≤ 140737488355328) ∧ off + cap * GT.sz α ≤ C.size ∧
    (∀ j c, fps j c → R c ∧ c ≠ b) ∧ (∀ j k c, j ≠ k → fps j c → ¬ fps k c) ∧ (∀ (j : Nat) (x : α), j ≠ i → j ≠ i2 → xs[j]? = some x → GT.own (fps j) h (seg C (off + j * GT.sz α) (GT.sz α)) x) ∧ (i < xs.length ∧ seg C (off + i * GT.sz α) (GT.sz α) = ecs) ∧ (i2 < xs.length ∧ seg C (off + i2 * GT.sz α) (GT.sz α) = fcs) ∧ i ≠ i2
  loc R h h2 hp hh := by
    obtain ⟨C, T, fps, e1, e2, e3, e4, e5, e6, e7, e8, e9, e10, e11⟩ := hp
    exact ⟨C, T, fps, (hh b e2).trans e1, e2, e3, e4, e5, e6, e7, e8, fun j x hj hj2 hx => GT.own_loc (e9 j x hj hj2 hx) fun c hc => hh c (e7 j c hc).1, e10, e11⟩
  mono R R' h hp hR := by
    obtain ⟨C, T, fps, e1, e2, e3, e4, e5, e6, e7, e8, e9, e10, e11⟩ := hp
    exact ⟨C, T, fps, e1, hR b e2, e3, e4, e5, e6, fun j c hc => ⟨hR c (e7 j c hc).1, (e7 j c hc).2⟩, e8, e9, e10, e11⟩
variable {w0 w : World} {hz : Heap} {L : List Ch} {b off len cap i i2 : Nat} {xs : List α} {x : α} {ecs fcs : List Value}
end
def neI (i j : Int) : Option Unit := if i = j then none else some ()
end Go.Wk
namespace Go.Wk
open Go Go.RowKit
section
variable {α : Type} [GT α]
def gap (b off len cap : Nat) (ys zs : List α) : Ch where
  pr R h := ∃ C T, ∃ fps : Nat → Nat → Prop, h b = some (.cells C T (0, 0)) ∧ R b ∧ ys.length + zs.length ≤ len ∧ len ≤ cap ∧ (cap ≤ maxLen ∧ len ≤ 140737488355328) ∧ off + cap * GT.sz α ≤ C.size ∧
    (∀ j c, fps j c → R c ∧ c ≠ b) ∧ (∀ j k c, j ≠ k → fps j c → ¬ fps k c) ∧
    (∀ (j : Nat) (x : α), ys[j]? = some x → GT.own (fps j) h (seg C (off + j * GT.sz α) (GT.sz α)) x) ∧
    (∀ (j : Nat) (x : α), zs[j]? = some x → GT.own (fps (len - zs.length + j)) h (seg C (off + (len - zs.length + j) * GT.sz α) (GT.sz α)) x)
  loc R h h2 hp hh := by
    obtain ⟨C, T, fps, e1, e2, e3, e4, e5, e6, e7, e8, e9, e10⟩ := hp
    exact ⟨C, T, fps, (hh b e2).trans e1, e2, e3, e4, e5, e6, e7, e8, fun j x hx => GT.own_loc (e9 j x hx) fun c hc => hh c (e7 j c hc).1, fun j x hx => GT.own_loc (e10 j x hx) fun c hc => hh c (e7 _ c hc).1⟩
  mono R R' h hp hR := by
    obtain ⟨C, T, fps, e1, e2, e3, e4, e5, e6, e7, e8, e9, e10⟩ := hp
    exact ⟨C, T, fps, e1, hR b e2, e3, e4, e5, e6, fun j c hc => ⟨hR c (e7 j c hc).1, (e7 j c hc).2⟩, e8, e9, e10⟩
variable {w0 w : World} {hz : Heap} {L : List Ch} {b off len cap : Nat} {xs ys zs : List α} {x : α} {ecs : List Value}
theorem Mem.gap_shut (hm : Mem w0 hz w L) (k : Nat) (hk : L[k]? = some (gap b off len cap ys zs)) : Mem w0 hz w (L.set k (ow [.slice (some ⟨b, off, none⟩) ys.length cap] ys)) :=
  hm.imp k hk fun F hF => by
    obtain ⟨C, T, fps, e1, e2, e3, e4, e5, e6, e7, e8, e9, e10⟩ := hF
    exact own_list.2 (.inr ⟨b, off, ys.length, cap, C, T, rfl, e2, e1, rfl, by omega, ⟨e5.1, by omega⟩, e6, fps, e7, e8, e9⟩)
theorem Mem.gap_len (hm : Mem w0 hz w L) (k : Nat) (hk : L[k]? = some (gap b off len cap ys zs)) : ys.length + zs.length ≤ len ∧ len ≤ cap := by
  obtain ⟨F, hF, _⟩ := hm.get k hk
  obtain ⟨C, T, fps, e1, e2, e3, e4, _⟩ := hF
  exact ⟨e3, e4⟩
def drn (b off cap : Nat) (xs : List α) (i : Nat) : Ch := gap b off xs.length cap [] (xs.drop i)
def drnV (v : Value) (xs : List α) (i : Int) : Ch where
  pr R h := xs.length ≤ i.toNat ∨ ∃ b off cap, v = .slice (some ⟨b, off, none⟩) xs.length cap ∧ (drn b off cap xs i.toNat).pr R h
  loc R h h2 hp hh := hp.imp id fun ⟨b, off, cap, e, hd⟩ => ⟨b, off, cap, e, (drn b off cap xs i.toNat).loc R h h2 hd hh⟩
  mono R R' h hp hR := hp.imp id fun ⟨b, off, cap, e, hd⟩ => ⟨b, off, cap, e, (drn b off cap xs i.toNat).mono R R' h hd hR⟩
def drnH (b off len cap : Nat) (xs : List α) (i : Nat) (ecs : List Value) : Ch where
  pr R h := (drn b off cap xs (i + 1)).pr R h ∧ CellsAt h b (off + i * GT.sz α) ecs ∧ R b ∧ xs.length = len
  loc R h h2 hp hh := ⟨(drn b off cap xs (i + 1)).loc R h h2 hp.1 hh, by
    obtain ⟨C, T, fz, h1, h2'⟩ := hp.2.1
    exact ⟨C, T, fz, (hh b hp.2.2.1).trans h1, h2'⟩, hp.2.2⟩
  mono R R' h hp hR := ⟨(drn b off cap xs (i + 1)).mono R R' h hp.1 hR, hp.2.1, hR b hp.2.2.1, hp.2.2.2⟩
variable {v : Value} {i j : Int}
def drnS (v : Value) (xs : List α) (i : Int) : Ch where
  pr R h := (0 ≤ i ∧ i.toNat < xs.length ∧ xs.length ≤ 140737488355328) ∧ (drnV v xs (i + 1)).pr R h
  loc R h h2 hp hh := ⟨hp.1, (drnV v xs (i + 1)).loc R h h2 hp.2 hh⟩
  mono R R' h hp hR := ⟨hp.1, (drnV v xs (i + 1)).mono R R' h hp.2 hR⟩
end
end Go.Wk
namespace Go.Wk
open Go Go.RowKit
section
variable {α : Type} [GT α] {w0 w : World} {hz : Heap} {L : List Ch} {b off len cap : Nat} {xs ys zs : List α} {x : α} {ecs : List Value}
def gapC (b off len cap : Nat) (ys zs : List α) (ecs : List Value) : Ch where
  pr R h := (gap b off len cap ys zs).pr R h ∧ CellsAt h b (off + ys.length * GT.sz α) ecs ∧ R b ∧ ys.length + zs.length < len
  loc R h h2 hp hh := ⟨(gap b off len cap ys zs).loc R h h2 hp.1 hh, by
    obtain ⟨C, T, fz, h1, h2'⟩ := hp.2.1
    exact ⟨C, T, fz, (hh b hp.2.2.1).trans h1, h2'⟩, hp.2.2⟩
  mono R R' h hp hR := ⟨(gap b off len cap ys zs).mono R R' h hp.1 hR, hp.2.1, hR b hp.2.2.1, hp.2.2.2⟩
theorem gap_write {P : Program} {vs : List Value} {o : Nat} (hm : Mem w0 hz w L) (k : Nat) (hk : L[k]? = some (gap b off len cap ys zs)) (h1 : ∀ u ∈ vs, u.oneCell' = true) (ho : ys.length ≤ o) (hl : o * GT.sz α + vs.length ≤ (len - zs.length) * GT.sz α) :
    ∃ w', (storeCells ⟨b, off + o * GT.sz α, none⟩ vs 0).run P w = .ok () w' ∧ Mem w0 hz w' (L.set k (gap b off len cap ys zs)) ∧ CellsAt (hp w') b (off + o * GT.sz α) vs := by
  obtain ⟨F, hF, hFw⟩ := hm.get k hk
  obtain ⟨C, T, fps, e1, e2, e3, e4, e5, e6, e7, e8, e9, e10⟩ := hF
  have hcap : (len - zs.length) * GT.sz α ≤ cap * GT.sz α := Nat.mul_le_mul_right _ (by omega)
  have hle : off + o * GT.sz α + vs.length ≤ C.toList.length := by simp; omega
  have hst := run_storeCells_at P b (off + o * GT.sz α) T vs 0 C w e1 (by simp; omega) h1
  have hb' := setRow_heap w b C (splice C.toList (off + o * GT.sz α) vs).toArray T (0, 0) e1
  refine ⟨w.setRow b (splice C.toList (off + o * GT.sz α) vs).toArray, by simpa [splice] using hst, ?_, ?_⟩
  · refine hm.upd k hk ⟨rfl, rfl, rfl, by simp⟩ fun F' hF' hlt => ⟨F', fun _ h => .inl h, fun c hc => by simpa using hlt c hc, ?_, fun c _ hne => setRow_other w b c _ (fun e => hne (by
      obtain ⟨C', T', fps', a1, a2, _⟩ := hF'
      subst e; exact a2))⟩
    obtain ⟨C', T', fps', a1, a2, a3, a4, a5, a6, a7, a8, a9, a10⟩ := hF'
    rw [e1] at a1
    simp only [Option.some.injEq, Obj.cells.injEq] at a1
    obtain ⟨rfl, rfl, _⟩ := a1
    have hsz : (splice C.toList (off + o * GT.sz α) vs).toArray.size = C.size := by simp [splice_length hle]
    refine ⟨(splice C.toList (off + o * GT.sz α) vs).toArray, T, fps', hb', a2, a3, a4, a5, by rw [hsz]; exact a6, a7, a8, fun j y hj => ?_, fun j y hj => ?_⟩
    · have hj' := (List.getElem?_eq_some_iff.1 hj).1
      rw [seg_eq (C := C) hsz]
      · exact GT.own_loc (a9 j y hj) fun c hc => setRow_other w b c _ (a7 j c hc).2
      · intro t ht1 ht2
        rw [List.getElem?_toArray, splice_get hle, if_neg]
        · simp
        · have := mul_lt_of (s := GT.sz α) (show j < o by omega); omega
    · have hj' := (List.getElem?_eq_some_iff.1 hj).1
      rw [seg_eq (C := C) hsz]
      · exact GT.own_loc (a10 j y hj) fun c hc => setRow_other w b c _ (a7 _ c hc).2
      · intro t ht1 ht2
        rw [List.getElem?_toArray, splice_get hle, if_neg]
        · simp
        · have := Nat.mul_le_mul_right (GT.sz α) (show len - zs.length ≤ len - zs.length + j by omega); omega
  · refine ⟨_, _, _, hb', fun j v hj => ?_⟩
    have hj' := (List.getElem?_eq_some_iff.1 hj).1
    rw [List.getElem?_toArray, splice_get hle, if_pos (by omega)]
    rw [← hj]; congr 1; omega
theorem e_clearG {P : Program} {a : Act} {o : Oper} {n : Nat} {l : Env} {q : Operand} {t e : TypeId} {z : Value} {m c : Nat} (k : Nat) (hf : Fr n l a) (hm : Mem w0 hz w L) (hk : L[k]? = some (gap b off len cap ys []))
    (ho : o.op = .call { callee := .builtin .clear, args := #[q], argTypes := #[t] }) (ht : P.underlying t = some (.slice e)) (hv : ∀ w, (zeroValue e).run P w = .ok z w) (hz1 : z.cells.size = GT.sz α) (hone : ∀ u ∈ z.cells.toList, u.oneCell' = true)
    (hq : ev l q = some (.slice (some ⟨b, off + ys.length * GT.sz α, none⟩) m c)) (hml : m = len - ys.length) :
    Ef P a w o (fun v w' => v = .tuple #[] ∧ Mem w0 hz w' (L.set k (gap b off len cap ys []))) := by
  by_cases h0 : m = 0
  · subst h0
    refine ef_value (w' := w) (v := .tuple #[]) ?_ ⟨rfl, by rw [set_same hk]; exact hm⟩
    simp [execOp, ho, resolve, invoke, builtin, hf.eval hq, Builtin.clear_, run_underlying ht]
  · obtain ⟨m', rfl⟩ : ∃ m', m = m' + 1 := ⟨m - 1, by omega⟩
    have hlz : (Builtin.zeroCells z.cells (m' + 1)).toList.length = (m' + 1) * GT.sz α := by rw [Array.length_toList, size_zeroCells, hz1]
    obtain ⟨w', hst, hm', _⟩ := gap_write (P := P) (vs := (Builtin.zeroCells z.cells (m' + 1)).toList) (o := ys.length) hm k hk (fun u hu => by
      simp only [Builtin.zeroCells, Array.toList_map, List.mem_map, Array.toList_range, List.mem_range] at hu
      obtain ⟨i, hi, rfl⟩ := hu
      have hpos : 0 < z.cells.size := by
        rcases Nat.eq_zero_or_pos z.cells.size with h | h
        · rw [h] at hi; simp at hi
        · exact h
      have hlt : i % z.cells.size < z.cells.size := Nat.mod_lt _ hpos
      rw [getElem!_pos z.cells _ hlt]
      exact hone _ (by simp)) (Nat.le_refl _) (by
      rw [hlz, ← Nat.add_mul]
      exact Nat.mul_le_mul_right _ (by simp; omega))
    refine ef_value (w' := w') (v := .tuple #[]) ?_ ⟨rfl, hm'⟩
    simp [execOp, ho, resolve, invoke, builtin, hf.eval hq, Builtin.clear_, run_underlying ht, hv, hst]
theorem y_subL {P : Program} {l : Env} {o : Oper} {X Y : Operand} {t e : TypeId} {k : IntKind} {lo : Nat} (hT : SliceTy P t e (GT.sz α)) (ho : o.op = .slice t X (some Y) none none) (hx : ev l X = some (.slice (some ⟨b, off, none⟩) len cap)) (hl : ev l Y = some (.int k (lo : Int))) (h1 : lo ≤ len) (h2 : len ≤ cap) :
    Yl P l w o (subV (GT.sz α) (.slice (some ⟨b, off, none⟩) len cap) lo len) := fun n a hf => by
  have := run_sub (α := α) (P := P) hT (p := some ⟨b, off, none⟩) (len := len) (cap := cap) w (some (.int k lo)) none lo len (.inr ⟨_, rfl⟩) (.inl ⟨rfl, rfl⟩) h1 (Nat.le_refl _) h2
  simp [execOp, ho, hf.eval hx, hf.eval hl, Instr.sliceAt, run_underlying hT.und, this]
theorem y_subH {P : Program} {l : Env} {o : Oper} {X Y : Operand} {t e : TypeId} {k : IntKind} {hi : Nat} (hT : SliceTy P t e (GT.sz α)) (ho : o.op = .slice t X none (some Y) none) (hx : ev l X = some (.slice (some ⟨b, off, none⟩) len cap)) (hh : ev l Y = some (.int k (hi : Int))) (h1 : hi ≤ len) (h2 : len ≤ cap) (h3 : 0 < cap) :
    Yl P l w o (.slice (some ⟨b, off, none⟩) hi cap) := fun n a hf => by
  have := run_sub (α := α) (P := P) hT (p := some ⟨b, off, none⟩) (len := len) (cap := cap) w none (some (.int k hi)) 0 hi (.inl ⟨rfl, rfl⟩) (.inr ⟨_, rfl⟩) (Nat.zero_le _) h1 h2
  have e : subV (GT.sz α) (.slice (some ⟨b, off, none⟩) len cap) 0 hi = .slice (some ⟨b, off, none⟩) hi cap := by
    simp [subV, add_none]
  rw [e] at this
  simp [execOp, ho, hf.eval hx, hf.eval hh, Instr.sliceAt, run_underlying hT.und, this]
theorem e_clearS {P : Program} {a : Act} {o : Oper} {n : Nat} {l : Env} {q : Operand} {t e : TypeId} {z : Value} (k : Nat) (hf : Fr n l a) (hm : Mem w0 hz w L) (hk : L[k]? = some (gap b off len cap ys []))
    (ho : o.op = .call { callee := .builtin .clear, args := #[q], argTypes := #[t] }) (ht : P.underlying t = some (.slice e)) (hv : ∀ w, (zeroValue e).run P w = .ok z w) (hz1 : z.cells.size = GT.sz α) (hone : ∀ u ∈ z.cells.toList, u.oneCell' = true)
    (hq : ev l q = some (subV (GT.sz α) (.slice (some ⟨b, off, none⟩) len cap) ys.length len)) :
    Ef P a w o (fun v w' => v = .tuple #[] ∧ Mem w0 hz w' (L.set k (gap b off len cap ys []))) := by
  have hlen := hm.gap_len k hk
  simp only [List.length_nil, Nat.add_zero] at hlen
  by_cases hc : cap = ys.length
  · have h0 : len - ys.length = 0 := by omega
    refine ef_value (w' := w) (v := .tuple #[]) ?_ ⟨rfl, by rw [set_same hk]; exact hm⟩
    simp only [subV, hc, if_true, h0] at hq
    simp [execOp, ho, resolve, invoke, builtin, hf.eval hq, Builtin.clear_, run_underlying ht]
  · refine e_clearG (m := len - ys.length) (c := cap - ys.length) k hf hm hk ho ht hv hz1 hone ?_ rfl
    rw [hq]
    simp [subV, hc, add_none]
end
end Go.Wk
namespace Go.Wk
open Go Go.RowKit
section
variable {α : Type} [GT α] {w0 w : World} {hz : Heap} {L : List Ch} {b off len cap : Nat} {xs ys zs : List α} {x : α} {ecs : List Value}
theorem e_appendE {P : Program} {a : Act} {o : Oper} {n : Nat} {l : Env} {v sv z : Value} {X Y : Operand} {t e : TypeId} {news : List Value} (k : Nat) (hT : ElemTy P t e (GT.sz α) z) (hf : Fr n l a) (hm : Mem w0 hz w L)
    (hk : L[k]? = some (both (ow [sv] xs) (els news ys))) (hS : Src w (GT.sz α) ys.length v news) (ho : o.op = .call { callee := .builtin .append, args := #[X, Y], argTypes := #[t, t] })
    (hx : ev l X = some sv) (hy : ev l Y = some v) (hlen : xs.length + ys.length ≤ 2147483648) :
    Ef P a w o (fun v' w' => Mem w0 hz w' (L.set k (ow [v'] (xs ++ ys)))) := by
  have key : ∀ F G : Nat → Prop, (∀ b, F b → b < w.heap.size) → (∀ b, G b → b < w.heap.size) → (∀ b, F b → ¬ G b) → GT.own F (hp w) [sv] xs → (els news ys).pr G (hp w) →
      ∃ v' w', (Builtin.append_ #[t, t] o.type #[sv, v]).run P w = .ok v' w' ∧ Same w w' ∧ (∀ b, b < w.heap.size → ¬ F b → w'.heap[b]? = w.heap[b]?) ∧
      ∃ F', (∀ b, F' b → F b ∨ G b ∨ w.heap.size ≤ b) ∧ (∀ b, F' b → b < w'.heap.size) ∧ sliceOwn F' (hp w') v' (xs ++ ys) := by
    intro F G hF hG hFG hx hy
    obtain ⟨_, fps, g2, g3, g1⟩ := hy
    obtain ⟨v', w', hr, hs, hout, F', f1, f2, f3⟩ := run_app (ty := o.type) hT (own_list.1 hx) hF hS rfl fps g1 (fun i c hc => ⟨fun hf => hFG c hf (g2 i c hc), hG c (g2 i c hc)⟩) g3 hlen
    exact ⟨v', w', hr, hs, hout, F', fun b hb => by
      rcases f1 b hb with h | ⟨i, h⟩ | h
      · exact .inl h
      · exact .inr (.inl (g2 i b h))
      · exact .inr (.inr h), f2, f3⟩
  obtain ⟨F0, ⟨F, G, a1, a2, a3, hF, hG⟩, hFw⟩ := hm.get k hk
  obtain ⟨v', w', hr, hs, hout, F', f1, f2, f3⟩ := key F G (fun b hb => (hFw b (a1 b hb)).1) (fun b hb => (hFw b (a2 b hb)).1) a3 hF hG
  refine ef_value (w' := w') (v := v') ?_ ?_
  · simp [execOp, ho, resolve, invoke, builtin, hf.eval hx, hf.eval hy, hr]
  · refine hm.upd k hk hs fun H0 ⟨H, I, b1, b2, b3, hH, hI⟩ hGw => ?_
    obtain ⟨v2, w2, hr2, hs2, hout2, F2, p1, p2, p3⟩ := key H I (fun b hb => hGw b (b1 b hb)) (fun b hb => hGw b (b2 b hb)) b3 hH hI
    rw [hr] at hr2
    simp only [Result.ok.injEq] at hr2
    obtain ⟨rfl, rfl⟩ := hr2
    refine ⟨F2, fun b hb => ?_, p2, own_list.2 p3, fun b hb hn => hout2 b hb (fun h => hn (b1 b h))⟩
    rcases p1 b hb with h | h | h
    · exact .inl (b1 b h)
    · exact .inl (b2 b h)
    · exact .inr h
theorem Mem.gap_ys (hm : Mem w0 hz w L) (k : Nat) (hk : L[k]? = some (gap b off len cap ys zs)) :
    ∃ news, (∀ c, Src w (GT.sz α) ys.length (.slice (some ⟨b, off, none⟩) ys.length c) news) ∧ Mem w0 hz w (els news ys :: L.set k (gap b off len cap [] zs)) := by
  obtain ⟨F, hF, hFw⟩ := hm.get k hk
  obtain ⟨C, T, fps, e1, e2, e3, e4, e5, e6, e7, e8, e9, e10⟩ := hF
  have hfit : off + ys.length * GT.sz α ≤ C.size := by
    have := Nat.mul_le_mul_right (GT.sz α) (show ys.length ≤ cap by omega)
    omega
  have hone : ∀ u ∈ seg C off (ys.length * GT.sz α), u.oneCell' = true := by
    intro u hu
    obtain ⟨j, hj, hju⟩ := List.mem_iff_getElem.1 hu
    have hsl := seg_len hfit
    have hpos : 0 < GT.sz α := by
      rcases Nat.eq_zero_or_pos (GT.sz α) with h | h
      · rw [hsl, h] at hj; omega
      · exact h
    have hi : j / GT.sz α < ys.length := (Nat.div_lt_iff_lt_mul hpos).2 (by omega)
    have h4 := e9 _ _ (List.getElem?_eq_getElem hi)
    rw [seg_seg (mul_lt_of hi)] at h4
    refine GT.one (GT.own_rep h4) u (List.mem_iff_getElem?.2 ⟨j % GT.sz α, ?_⟩)
    rw [List.getElem?_take_of_lt (Nat.mod_lt j hpos), List.getElem?_drop, show j / GT.sz α * GT.sz α + j % GT.sz α = j by rw [Nat.mul_comm]; exact Nat.div_add_mod j _, List.getElem?_eq_getElem hj, hju]
  refine ⟨seg C off (ys.length * GT.sz α), fun c => ⟨seg_len hfit, hone, .inr ⟨_, c, rfl, cells_of_seg e1⟩⟩, hm.split k hk fun F' hF' => ?_⟩
  obtain ⟨C', T', fps', a1, a2, a3, a4, a5, a6, a7, a8, a9, a10⟩ := hF'
  rw [e1] at a1
  simp only [Option.some.injEq, Obj.cells.injEq] at a1
  obtain ⟨rfl, rfl, _⟩ := a1
  refine ⟨fun c => F' c ∧ ¬ ∃ j, j < ys.length ∧ fps' j c, fun c => ∃ j, j < ys.length ∧ fps' j c, fun c hc => hc.1, fun c ⟨j, _, hc⟩ => (a7 j c hc).1, fun c hc => hc.2, ?_, ?_⟩
  · refine ⟨C, T, fun j c => ys.length ≤ j ∧ fps' j c, e1, ⟨a2, fun ⟨j, _, hc⟩ => (a7 j b hc).2 rfl⟩, by simp; omega, a4, a5, a6, ?_, ?_, fun j y hy => by simp at hy, fun j y hy => ?_⟩
    · rintro j c ⟨hj, hc⟩
      exact ⟨⟨(a7 j c hc).1, fun ⟨q, hq, hc'⟩ => a8 j q c (by omega) hc hc'⟩, (a7 j c hc).2⟩
    · rintro j q c hjq ⟨_, hc⟩ ⟨_, hc'⟩
      exact a8 j q c hjq hc hc'
    · exact GT.own_mono (fun c hc => ⟨by omega, hc⟩) (a10 j y hy)
  · refine ⟨seg_len hfit, fun j c => j < ys.length ∧ fps' j c, fun j c hc => ⟨j, hc⟩, fun i j c hij hi hj => a8 i j c hij hi.2 hj.2, fun j y hy => ?_⟩
    have hj := (List.getElem?_eq_some_iff.1 hy).1
    have h := a9 j y hy
    rw [seg_seg (mul_lt_of hj)] at h
    exact GT.own_mono (fun c hc => ⟨hj, hc⟩) h
end
end Go.Wk
namespace Go.Wk
open Go Go.RowKit
section
variable {α : Type} [GT α] {w0 w : World} {hz : Heap} {L : List Ch} {b off len cap i j : Nat} {xs ys zs : List α} {x : α} {ecs news : List Value}
theorem Mem.tl {c : Ch} (hm : Mem w0 hz w (c :: L)) : Mem w0 hz w L :=
  hm.pick ((List.range L.length).map (· + 1)) (by
    refine List.Pairwise.map _ (fun a b (h : a ≠ b) => by simpa using h) List.nodup_range) (by
    rw [List.map_map]
    apply List.ext_getElem?
    intro q
    by_cases hq : q < L.length
    · simp [hq]
    · simp [List.getElem?_eq_none (show L.length ≤ q by omega)]; omega)
theorem Mem.gap_at (hm : Mem w0 hz w L) (k : Nat) (hk : L[k]? = some (ow [.slice (some ⟨b, off, none⟩) len cap] xs)) (hx : xs[i]? = some x) (hj : j = i + 1) (hc : CellsAt (hp w) b (off + i * GT.sz α) ecs) (hel : ecs.length = GT.sz α) :
    Mem w0 hz w (ow ecs x :: L.set k (gap b off len cap (xs.take i) (xs.drop j))) :=
  hm.split k hk fun F' hF' => by
    rcases own_list.1 hF' with ⟨hv, _⟩ | ⟨b', off', len', cap', C, T, hv, hFb, hb, hlen, hcap, hmx, hs, fps, h1, h2, h3⟩
    · cases hv
    simp only [Value.slice.injEq, Option.some.injEq, Addr.mk.injEq] at hv
    obtain ⟨⟨rfl, rfl, _⟩, rfl, rfl⟩ := hv
    subst hj
    have hi := (List.getElem?_eq_some_iff.1 hx).1
    have hfit : off + i * GT.sz α + GT.sz α ≤ C.size := by
      have := mul_lt_of (s := GT.sz α) (show i < cap by omega); omega
    have hseg : seg C (off + i * GT.sz α) (GT.sz α) = ecs := by
      have := cells_seg hc hb (by rw [hel]; exact hfit)
      rwa [hel] at this
    refine ⟨fun c => F' c ∧ ¬ fps i c, fps i, fun c hc => hc.1, fun c hc => (h1 i c hc).1, fun c hc => hc.2, ?_, by rw [← hseg]; exact h3 i x hx⟩
    refine ⟨C, T, fun q c => q ≠ i ∧ fps q c, hb, ⟨hFb, fun hc => (h1 _ b hc).2 rfl⟩, by simp; omega, hcap, hmx, hs, ?_, ?_, fun q y hq => ?_, fun q y hq => ?_⟩
    · rintro q c ⟨hq, hc⟩
      exact ⟨⟨(h1 q c hc).1, fun hc' => h2 q _ c hq hc hc'⟩, (h1 q c hc).2⟩
    · rintro q r c hqr ⟨_, hc⟩ ⟨_, hc'⟩
      exact h2 q r c hqr hc hc'
    · have hlt := (List.getElem?_eq_some_iff.1 hq).1
      simp at hlt
      rw [List.getElem?_take, if_pos (by omega)] at hq
      exact GT.own_mono (fun c hc => ⟨by omega, hc⟩) (h3 q y hq)
    · have hlt := (List.getElem?_eq_some_iff.1 hq).1
      simp at hlt
      rw [List.getElem?_drop] at hq
      have := h3 (i + 1 + q) y hq
      rw [List.length_drop, show len - (xs.length - (i + 1)) + q = i + 1 + q by omega]
      exact GT.own_mono (fun c hc => ⟨by omega, hc⟩) this
theorem Mem.gap_max (hm : Mem w0 hz w L) (k : Nat) (hk : L[k]? = some (gap b off len cap ys zs)) : (ys.length + zs.length ≤ len ∧ len ≤ cap) ∧ len ≤ 140737488355328 := by
  refine ⟨hm.gap_len k hk, ?_⟩
  obtain ⟨F, ⟨C, T, fps, e1, e2, e3, e4, e5, _⟩, hFw⟩ := hm.get k hk
  exact e5.2
theorem Mem.gap_zsG (hm : Mem w0 hz w L) (k : Nat) (hk : L[k]? = some (gap b off len cap ys zs)) :
    ∃ news, (∀ c, Src w (GT.sz α) zs.length (.slice (some ⟨b, off + (len - zs.length) * GT.sz α, none⟩) zs.length c) news) ∧ Mem w0 hz w (els news zs :: L.set k (gap b off len cap ys [])) := by
  obtain ⟨F, hF, hFw⟩ := hm.get k hk
  obtain ⟨C, T, fps, e1, e2, e3, e4, e5, e6, e7, e8, e9, e10⟩ := hF
  have hsum : (len - zs.length) * GT.sz α + zs.length * GT.sz α = len * GT.sz α := by rw [← Nat.add_mul]; congr 1; omega
  have hcl : len * GT.sz α ≤ cap * GT.sz α := Nat.mul_le_mul_right _ e4
  have hfit : off + (len - zs.length) * GT.sz α + zs.length * GT.sz α ≤ C.size := by omega
  have hpos2 : ∀ j, off + (len - zs.length + j) * GT.sz α = off + (len - zs.length) * GT.sz α + j * GT.sz α := fun j => by rw [Nat.add_mul]; omega
  have hone : ∀ u ∈ seg C (off + (len - zs.length) * GT.sz α) (zs.length * GT.sz α), u.oneCell' = true := by
    intro u hu
    obtain ⟨j, hj, hju⟩ := List.mem_iff_getElem.1 hu
    have hsl := seg_len hfit
    have hpos : 0 < GT.sz α := by
      rcases Nat.eq_zero_or_pos (GT.sz α) with h | h
      · rw [hsl, h] at hj; omega
      · exact h
    have hi : j / GT.sz α < zs.length := (Nat.div_lt_iff_lt_mul hpos).2 (by omega)
    have h4 := e10 _ _ (List.getElem?_eq_getElem hi)
    rw [hpos2, seg_seg (mul_lt_of hi)] at h4
    refine GT.one (GT.own_rep h4) u (List.mem_iff_getElem?.2 ⟨j % GT.sz α, ?_⟩)
    rw [List.getElem?_take_of_lt (Nat.mod_lt j hpos), List.getElem?_drop, show j / GT.sz α * GT.sz α + j % GT.sz α = j by rw [Nat.mul_comm]; exact Nat.div_add_mod j _, List.getElem?_eq_getElem hj, hju]
  refine ⟨seg C (off + (len - zs.length) * GT.sz α) (zs.length * GT.sz α), fun c => ⟨seg_len hfit, hone, .inr ⟨_, c, rfl, cells_of_seg e1⟩⟩, hm.split k hk fun F' hF' => ?_⟩
  obtain ⟨C', T', fps', a1, a2, a3, a4, a5, a6, a7, a8, a9, a10⟩ := hF'
  rw [e1] at a1
  simp only [Option.some.injEq, Obj.cells.injEq] at a1
  obtain ⟨rfl, rfl, _⟩ := a1
  refine ⟨fun c => F' c ∧ ¬ ∃ j, len - zs.length ≤ j ∧ fps' j c, fun c => ∃ j, len - zs.length ≤ j ∧ fps' j c, fun c hc => hc.1, fun c ⟨j, _, hc⟩ => (a7 _ c hc).1, fun c hc => hc.2, ?_, ?_⟩
  · refine ⟨C, T, fun j c => j < len - zs.length ∧ fps' j c, e1, ⟨a2, fun ⟨j, _, hc⟩ => (a7 j b hc).2 rfl⟩, by simp; omega, a4, a5, a6, ?_, ?_, fun j y hy => ?_, fun j y hy => by simp at hy⟩
    · rintro j c ⟨hj, hc⟩
      exact ⟨⟨(a7 j c hc).1, fun ⟨q, hq, hc'⟩ => a8 j q c (by omega) hc hc'⟩, (a7 j c hc).2⟩
    · rintro j q c hjq ⟨_, hc⟩ ⟨_, hc'⟩
      exact a8 j q c hjq hc hc'
    · have hj := (List.getElem?_eq_some_iff.1 hy).1
      exact GT.own_mono (fun c hc => ⟨by omega, hc⟩) (a9 j y hy)
  · refine ⟨seg_len hfit, fun j c => j < zs.length ∧ fps' (len - zs.length + j) c, fun j c hc => ⟨_, by omega, hc.2⟩, fun i j c hij hi hj => a8 _ _ c (by omega) hi.2 hj.2, fun j y hy => ?_⟩
    have hj := (List.getElem?_eq_some_iff.1 hy).1
    have h := a10 j y hy
    rw [hpos2, seg_seg (mul_lt_of hj)] at h
    exact GT.own_mono (fun c hc => ⟨hj, hc⟩) h
theorem src_sub {n : Nat} (hS : ∀ c, Src w (GT.sz α) zs.length (.slice (some ⟨b, off + (len - zs.length) * GT.sz α, none⟩) zs.length c) news) (hn : n = len - zs.length) (h1 : zs.length ≤ len) (h2 : len ≤ cap) :
    Src w (GT.sz α) zs.length (subV (GT.sz α) (.slice (some ⟨b, off, none⟩) len cap) n len) news := by
  subst hn
  have e : len - (len - zs.length) = zs.length := by omega
  by_cases hc : cap = len - zs.length
  · have hz0 : zs.length = 0 := by omega
    obtain ⟨g1, g2, _⟩ := hS 0
    refine ⟨g1, g2, .inr ⟨⟨b, off, none⟩, cap - (len - zs.length), ?_, fun j u hj => ?_⟩⟩
    · simp [subV, hc, e]
    · rw [hz0] at g1
      have : news = [] := List.eq_nil_of_length_eq_zero (by simpa using g1)
      subst this
      simp at hj
  · simp only [subV, hc, if_false, Option.map_some, add_none, e]
    exact hS _
theorem Mem.gap_putE (hm : Mem w0 hz w L) (k j : Nat) (hkj : k ≠ j) (hk : L[k]? = some (gap b off len cap ys ([] : List α))) (hj : L[j]? = some (els news zs)) (hcs : CellsAt (hp w) b (off + ys.length * GT.sz α) news) (hroom : ys.length + zs.length ≤ len) :
    Mem w0 hz w ((L.set k (gap b off len cap (ys ++ zs) [])).set j ⟨fun _ _ => True, fun _ _ _ _ _ => trivial, fun _ _ _ _ _ => trivial⟩) :=
  hm.merge k j hkj hk hj fun F G hF hG hd => by
    obtain ⟨C, T, fps, e1, e2, e3, e4, e5, e6, e7, e8, e9, e10⟩ := hF
    obtain ⟨hnl, gps, g1, g2, g3⟩ := hG
    have hsum : ys.length * GT.sz α + zs.length * GT.sz α = (ys.length + zs.length) * GT.sz α := by rw [Nat.add_mul]
    have hcl : (ys.length + zs.length) * GT.sz α ≤ cap * GT.sz α := Nat.mul_le_mul_right _ (by omega)
    have hseg : seg C (off + ys.length * GT.sz α) (zs.length * GT.sz α) = news := by
      have := cells_seg hcs e1 (by rw [hnl]; omega)
      rwa [hnl] at this
    refine ⟨C, T, fun q c => (q < ys.length ∧ fps q c) ∨ (ys.length ≤ q ∧ gps (q - ys.length) c), e1, .inl e2, by simp; omega, e4, e5, e6, ?_, ?_, fun q y hq => ?_, fun q y hq => by simp at hq⟩
    · rintro q c (⟨_, hc⟩ | ⟨_, hc⟩)
      · exact ⟨.inl (e7 q c hc).1, (e7 q c hc).2⟩
      · exact ⟨.inr (g1 _ c hc), fun e => by subst e; exact hd c e2 (g1 _ c hc)⟩
    · rintro q r c hqr (⟨h1, hc⟩ | ⟨h1, hc⟩) (⟨h2, hc'⟩ | ⟨h2, hc'⟩)
      · exact e8 q r c hqr hc hc'
      · exact hd c (e7 q c hc).1 (g1 _ c hc')
      · exact hd c (e7 r c hc').1 (g1 _ c hc)
      · exact g2 _ _ c (by omega) hc hc'
    · by_cases e : q < ys.length
      · rw [List.getElem?_append_left e] at hq
        exact GT.own_mono (fun c hc => .inl ⟨e, hc⟩) (e9 q y hq)
      · rw [List.getElem?_append_right (by omega)] at hq
        have hlt := (List.getElem?_eq_some_iff.1 hq).1
        have h := g3 _ y hq
        rw [← hseg, ← seg_seg (mul_lt_of hlt), Nat.add_assoc, ← Nat.add_mul, show ys.length + (q - ys.length) = q by omega] at h
        exact GT.own_mono (fun c hc => .inr ⟨by omega, hc⟩) h
theorem e_delG {P : Program} {a : Act} {o : Oper} {n m : Nat} {l : Env} {z : Value} {X Y : Operand} {t e : TypeId} (k : Nat) (hT : ElemTy P t e (GT.sz α) z) (hf : Fr n l a) (hm : Mem w0 hz w L) (hk : L[k]? = some (gap b off len cap ys zs))
    (ho : o.op = .call { callee := .builtin .append, args := #[X, Y], argTypes := #[t, t] }) (hx : ev l X = some (.slice (some ⟨b, off, none⟩) ys.length cap)) (hy : ev l Y = some (subV (GT.sz α) (.slice (some ⟨b, off, none⟩) len cap) m len)) (hml : m = len - zs.length) :
    Ef P a w o (fun v' w' => v' = .slice (some ⟨b, off, none⟩) (ys ++ zs).length cap ∧ Mem w0 hz w' (L.set k (gap b off len cap (ys ++ zs) []))) := by
  have hkl := (List.getElem?_eq_some_iff.1 hk).1
  obtain ⟨hl1, hl2⟩ := hm.gap_len k hk
  obtain ⟨news, hS0, hm1⟩ := hm.gap_zsG k hk
  have hS := src_sub (cap := cap) hS0 hml (by omega) hl2
  generalize hsv : subV (GT.sz α) (.slice (some ⟨b, off, none⟩) len cap) m len = sv at hS hy
  have hnl := hS.1
  obtain ⟨w', hst, hm2, hc⟩ := gap_write (P := P) (vs := news) (o := ys.length) hm1 (k + 1) (by rw [List.getElem?_cons_succ, List.getElem?_set_self hkl]) hS.2.1 (Nat.le_refl _) (by
    rw [hnl, ← Nat.add_mul]
    exact Nat.mul_le_mul_right _ (by simp; omega))
  have hm3 := (hm2.gap_putE (k + 1) 0 (by omega) (by rw [List.getElem?_set_self (by simp; omega)]) (by simp) hc hl1)
  obtain ⟨i0, hi, hsz, hby, hz'⟩ := hT.info
  have e1 := hS.len (P := P) (w' := w)
  have e2 := hS.first (P := P) (w' := w) rfl
  have hroom : ys.length + zs.length ≤ cap := by omega
  refine ef_value (w' := w') (v := .slice (some ⟨b, off, none⟩) (ys ++ zs).length cap) ?_ ⟨rfl, ?_⟩
  · simp [execOp, ho, resolve, invoke, builtin, hf.eval hx, hf.eval hy, Builtin.append_, run_underlying hT.und, sizeOf, typeInfo, hi, hsz, e1, e2, hroom, add_none, hst]
  · have h4 := hm3
    simp only [List.set_cons_succ, List.set_cons_zero, List.set_set] at h4
    exact h4.tl
section
variable {P : Program} {l : Env} {o : Oper} {X Y Z Z1 : Operand} {t e : TypeId} {k k2 k3 : IntKind} {lo hi : Int} {n m : Nat}
theorem y_subHI (hT : SliceTy P t e (GT.sz α)) (ho : o.op = .slice t X none (some Y) none) (hx : ev l X = some (.slice (some ⟨b, off, none⟩) len cap)) (hh : ev l Y = some (.int k hi)) (h0 : 0 ≤ hi) (h1 : hi.toNat < len) (h2 : len ≤ cap) (hn : n = hi.toNat) :
    Yl P l w o (.slice (some ⟨b, off, none⟩) n cap) := by
  obtain ⟨q, rfl⟩ := Int.eq_ofNat_of_zero_le h0
  simp only [Int.toNat_natCast] at h1 hn
  subst hn
  exact y_subH hT ho hx hh (by omega) h2 (by omega)
theorem y_subLI (hT : SliceTy P t e (GT.sz α)) (ho : o.op = .slice t X (some Y) none none) (hx : ev l X = some (.slice (some ⟨b, off, none⟩) len cap)) (hl : ev l Y = some (.int k lo)) (h0 : 0 ≤ lo) (h1 : lo.toNat ≤ len) (h2 : len ≤ cap) (hn : n = lo.toNat) :
    Yl P l w o (subV (GT.sz α) (.slice (some ⟨b, off, none⟩) len cap) n len) := by
  obtain ⟨q, rfl⟩ := Int.eq_ofNat_of_zero_le h0
  simp only [Int.toNat_natCast] at h1 hn
  subst hn
  exact y_subL hT ho hx hl h1 h2
theorem y_subCI {v : Value} (hT : SliceTy P t e (GT.sz α)) (ho : o.op = .slice t X (some Y) (some Z) (some Z1)) (hx : ev l X = some (.slice (some ⟨b, off, none⟩) len cap)) (hl : ev l Y = some (.int k lo)) (hh : ev l Z = some (.int k2 hi)) (hq : ev l Z1 = some (.int k3 (len : Int))) (h0 : 0 ≤ lo) (h1 : lo ≤ hi) (h2 : hi ≤ (len : Int)) (h3 : len ≤ cap)
    (hv : v = .slice (if len = lo.toNat then some ⟨b, off, none⟩ else some (Addr.add ⟨b, off, none⟩ (lo.toNat * GT.sz α))) (hi.toNat - lo.toNat) (len - lo.toNat)) :
    Yl P l w o v := fun n a hf => by
  obtain ⟨q, rfl⟩ := Int.eq_ofNat_of_zero_le h0
  obtain ⟨r, rfl⟩ := Int.eq_ofNat_of_zero_le (show 0 ≤ hi by omega)
  simp only [Int.toNat_natCast] at hv
  have e0 : q ≤ r := by omega
  have e1 : r ≤ len := by omega
  have e2 : (len - q = 0) = (len = q) := by rw [eq_iff_iff]; omega
  subst hv
  by_cases hc : len = q
  · have h3' : q ≤ cap := by omega
    have e1' : r ≤ q := by omega
    simp [execOp, ho, hf.eval hx, hf.eval hl, hf.eval hh, hf.eval hq, Instr.sliceAt, run_underlying hT.und, Instr.slice, Instr.sliceBounds, Instr.sliceBound, asIntOf, e0, e1', e2, hc, h3', hT.size]
  · simp [execOp, ho, hf.eval hx, hf.eval hl, hf.eval hh, hf.eval hq, Instr.sliceAt, run_underlying hT.und, Instr.slice, Instr.sliceBounds, Instr.sliceBound, asIntOf, e0, e1, e2, hc, h3, hT.size]
theorem y_subX (hT : SliceTy P t e (GT.sz α)) (ho : o.op = .slice t X (some Y) (some Z) none) (hx : ev l X = some (.slice (some ⟨b, off, none⟩) m cap)) (hl : ev l Y = some (.int k (n : Int))) (hh : ev l Z = some (.int k2 (len : Int))) (h1 : n ≤ len) (h2 : len ≤ cap) :
    Yl P l w o (subV (GT.sz α) (.slice (some ⟨b, off, none⟩) len cap) n len) := fun q a hf => by
  simp [execOp, ho, hf.eval hx, hf.eval hl, hf.eval hh, Instr.sliceAt, run_underlying hT.und, Instr.slice, Instr.sliceBounds, Instr.sliceBound, asIntOf, h1, h2, hT.size, subV]
end
end
end Go.Wk
namespace Go.Wk
open Go Go.RowKit
def neM {β : Type} (m : MapS β) : Option Unit := if m.es.isEmpty = true then none else some ()
theorem Mem.ow_owm {β : Type} [MV β] {w0 w : World} {hz : Heap} {L : List Ch} {v : Value} {m : MapS β} {u : Unit} (hm : Mem w0 hz w L) (k : Nat) (hk : L[k]? = some (ow [v] m)) (h : neM m = some u) : Mem w0 hz w (L.set k (owm v m)) :=
  hm.imp k hk fun F h0 => by
    rcases own_map.1 h0 with ⟨_, e⟩ | h1
    · unfold neM at h
      rw [e] at h
      cases h
    · exact h1
end Go.Wk
