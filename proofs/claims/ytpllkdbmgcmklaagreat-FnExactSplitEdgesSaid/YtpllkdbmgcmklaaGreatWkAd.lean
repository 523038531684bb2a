/- A part of a proof: general laws of walks, no statement of the seat. -/
import Derived.Test.YtpllkdbmgcmklaaGreatWkY
import Derived.Maps.RangeRun
import Derived.Shelf.Sort.Plain
import Derived.Shelf.Slices.In.SortNone
import Derived.Shelf.Slices.CompactI
import Derived.Lib.RowBridge
import Derived.Scope
import Derived.WideKeyEntry
/- Sets and tables of integers: maps as lists in the order of their keys; map memory owned like slices. -/
namespace Go.Wk
open Go Go.RowKit

/-- A map from integers: its entries in the order of their keys. -/
structure MapS (β : Type) where
  es : List (Int × β)
  so : es.Pairwise (fun a b => a.1 < b.1)
  deriving DecidableEq
instance {β : Type} : Inhabited (MapS β) := ⟨⟨[], .nil⟩⟩

namespace MapS
variable {β : Type}
def get (m : MapS β) (k : Int) : Option β := lookM m.es k
def mk0 : MapS β := ⟨[], .nil⟩
def ins (m : MapS β) (k : Int) (v : β) : MapS β :=
  ⟨m.es.filter (fun p => decide (p.1 < k)) ++ (k, v) :: m.es.filter (fun p => decide (k < p.1)), by
    refine List.pairwise_append.2 ⟨m.so.filter _, List.pairwise_cons.2 ⟨fun p hp => by simpa using (List.mem_filter.1 hp).2, m.so.filter _⟩, fun a ha b hb => ?_⟩
    have h1 : a.1 < k := by simpa using (List.mem_filter.1 ha).2
    rcases List.mem_cons.1 hb with e | hb
    · subst e; exact h1
    · have h2 : k < b.1 := by simpa using (List.mem_filter.1 hb).2
      omega⟩
def del (m : MapS β) (k : Int) : MapS β := ⟨m.es.filter (fun p => decide (p.1 ≠ k)), m.so.filter _⟩
def keys (m : MapS β) : List Int := m.es.map (·.1)
def len (m : MapS β) : Int := (m.es.length : Int)
theorem nodup (m : MapS β) : (m.es.map (·.1)).Nodup := by
  refine (List.pairwise_map.2 (m.so.imp ?_))
  intro a b h
  show a.1 ≠ b.1
  omega
end MapS

/-! ### entries in any order -/
section
variable {β : Type}
theorem lookM_some {es : List (Int × β)} (hn : (es.map (·.1)).Nodup) {k : Int} {v : β} : lookM es k = some v ↔ (k, v) ∈ es := by
  unfold lookM
  constructor
  · intro h
    cases hq : findIx k es 0 with
    | none => rw [hq] at h; simp at h
    | some q =>
      obtain ⟨i, u⟩ := q
      rw [hq] at h
      simp at h
      subst h
      obtain ⟨_, h3⟩ := findIx_some hq
      exact List.mem_of_getElem? h3
  · intro h
    cases hq : findIx k es 0 with
    | none => exact absurd rfl (findIx_none.1 hq _ h)
    | some q =>
      obtain ⟨i, u⟩ := q
      obtain ⟨_, h3⟩ := findIx_some hq
      have h4 := List.mem_of_getElem? h3
      simp only [Option.map_some, Option.some.injEq]
      have key : ∀ (l : List (Int × β)), (l.map (·.1)).Nodup → (k, u) ∈ l → (k, v) ∈ l → u = v := by
        intro l
        induction l with
        | nil => intro _ h; simp at h
        | cons p l ih =>
          intro hn h1 h2
          rw [List.map_cons, List.nodup_cons] at hn
          rcases List.mem_cons.1 h1 with e1 | e1 <;> rcases List.mem_cons.1 h2 with e2 | e2
          · rw [← e1] at e2; simpa using e2.symm
          · exact absurd (List.mem_map.2 ⟨_, e2, rfl⟩) (by rw [← e1] at hn; exact hn.1)
          · exact absurd (List.mem_map.2 ⟨_, e1, rfl⟩) (by rw [← e2] at hn; exact hn.1)
          · exact ih hn.2 e1 e2
      exact key es hn h4 h
theorem lookM_perm {es es' : List (Int × β)} (hp : es'.Perm es) (hn : (es.map (·.1)).Nodup) (k : Int) : lookM es' k = lookM es k := by
  have hn' : (es'.map (·.1)).Nodup := (hp.map _).nodup_iff.2 hn
  cases h : lookM es k with
  | none =>
    cases h' : lookM es' k with
    | none => rfl
    | some v => rw [lookM_some hn'] at h'; rw [(lookM_some hn).2 (hp.mem_iff.1 h')] at h; cases h
  | some v => rw [lookM_some hn] at h; rw [lookM_some hn']; exact hp.mem_iff.2 h

theorem set_perm {k : Int} {v : β} : ∀ {es : List (Int × β)} {i : Nat} {u : β}, (es.map (·.1)).Nodup → es[i]? = some (k, u) → (es.set i (k, v)).Perm ((k, v) :: es.filter (fun p => decide (p.1 ≠ k)))
  | [], i, u, _, h => by simp at h
  | p :: es, 0, u, hn, h => by
    simp at h
    subst h
    rw [List.map_cons, List.nodup_cons] at hn
    have : es.filter (fun p => decide (p.1 ≠ k)) = es := List.filter_eq_self.2 fun q hq => by
      have : q.1 ≠ k := fun e => hn.1 (List.mem_map.2 ⟨q, hq, e⟩)
      simpa using this
    rw [List.filter_cons, if_neg (by simp), this]
    exact List.Perm.refl _
  | p :: es, i + 1, u, hn, h => by
    rw [List.map_cons, List.nodup_cons] at hn
    have h' : es[i]? = some (k, u) := by simpa using h
    have hpk : p.1 ≠ k := fun e => hn.1 (List.mem_map.2 ⟨_, List.mem_of_getElem? h', e.symm⟩)
    have ih := set_perm (v := v) hn.2 h'
    simp only [List.set_cons_succ, List.filter_cons, hpk, ne_eq, not_false_eq_true, decide_true, if_true]
    exact (ih.cons p).trans (List.Perm.swap _ _ _)
theorem insM_perm {k : Int} {v : β} {es : List (Int × β)} (hn : (es.map (·.1)).Nodup) : (insM es k v).Perm ((k, v) :: es.filter (fun p => decide (p.1 ≠ k))) := by
  unfold insM
  cases hq : findIx k es 0 with
  | none =>
    have h := findIx_none.1 hq
    have : es.filter (fun p => decide (p.1 ≠ k)) = es := List.filter_eq_self.2 fun q hq => by
      have : q.1 ≠ k := fun e => h q hq e.symm
      simpa using this
    simp only [this]
    exact List.perm_append_singleton _ _
  | some q =>
    obtain ⟨i, u⟩ := q
    obtain ⟨_, h3⟩ := findIx_some hq
    exact set_perm hn h3
theorem erase_perm {k : Int} : ∀ {es : List (Int × β)} {i : Nat} {u : β}, (es.map (·.1)).Nodup → es[i]? = some (k, u) → es.eraseIdx i = es.filter (fun p => decide (p.1 ≠ k))
  | [], i, u, _, h => by simp at h
  | p :: es, 0, u, hn, h => by
    simp at h
    subst h
    rw [List.map_cons, List.nodup_cons] at hn
    have : es.filter (fun p => decide (p.1 ≠ k)) = es := List.filter_eq_self.2 fun q hq => by
      have : q.1 ≠ k := fun e => hn.1 (List.mem_map.2 ⟨q, hq, e⟩)
      simpa using this
    rw [List.filter_cons, if_neg (by simp), this]
    rfl
  | p :: es, i + 1, u, hn, h => by
    rw [List.map_cons, List.nodup_cons] at hn
    have h' : es[i]? = some (k, u) := by simpa using h
    have hpk : p.1 ≠ k := fun e => hn.1 (List.mem_map.2 ⟨_, List.mem_of_getElem? h', e.symm⟩)
    simp only [List.eraseIdx_cons_succ, List.filter_cons, hpk, ne_eq, not_false_eq_true, decide_true, if_true]
    rw [erase_perm hn.2 h']

theorem erase_map {α γ : Type} (f : α → γ) : ∀ (l : List α) (i : Nat), (l.eraseIdx i).map f = (l.map f).eraseIdx i
  | [], i => by simp
  | x :: l, 0 => by simp
  | x :: l, i + 1 => by simp [erase_map f l i]

theorem MapS.ins_perm (m : MapS β) (k : Int) (v : β) : ((k, v) :: m.es.filter (fun p => decide (p.1 ≠ k))).Perm (m.ins k v).es := by
  refine List.Perm.trans ?_ List.perm_middle.symm
  refine List.Perm.cons _ ?_
  have h := List.filter_append_perm (fun p : Int × β => decide (p.1 < k)) (m.es.filter (fun p => decide (p.1 ≠ k)))
  refine h.symm.trans ?_
  rw [List.filter_filter, List.filter_filter]
  have e1 : m.es.filter (fun p => decide (p.1 < k) && decide (p.1 ≠ k)) = m.es.filter (fun p => decide (p.1 < k)) := List.filter_congr fun p _ => by
    by_cases h : p.1 < k <;> simp [h]; omega
  have e2 : m.es.filter (fun p => !decide (p.1 < k) && decide (p.1 ≠ k)) = m.es.filter (fun p => decide (k < p.1)) := List.filter_congr fun p _ => by
    rcases Int.lt_trichotomy p.1 k with h | h | h
    · have : ¬ k < p.1 := by omega
      simp [h, this]
    · simp [h]
    · have h1 : ¬ p.1 < k := by omega
      have h2 : p.1 ≠ k := by omega
      simp [h, h1, h2]
  rw [e1, e2]
end

class MV (β : Type) where
  venc : β → Value
  inj : ∀ a b, venc a = venc b → a = b
instance : MV Bool := ⟨.bool, fun a b h => by simpa using h⟩
instance : MV Int := ⟨.int .i64, fun a b h => by simpa using h⟩

/-- A map lies in a block. -/
def mapAt {β : Type} [MV β] (h : Heap) (r : Nat) (m : MapS β) : Prop :=
  ∃ (E : Array MapEntry) (clock : Nat) (es : List (Int × β)), h r = some (.map E clock) ∧ MapKept.Stamped E clock ∧ E.toList.map (fun e => (e.key, e.val)) = es.map (fun p : Int × β => (Value.int .i64 p.1, MV.venc p.2)) ∧ es.Perm m.es

instance {β : Type} [MV β] : GT (MapS β) where
  sz := 1
  rep h cs m := ∃ v, cs = [v] ∧ ((v = .map none ∧ m.es = []) ∨ ∃ r, v = .map (some r) ∧ mapAt h r m)
  own F h cs m := ∃ v, cs = [v] ∧ ((v = .map none ∧ m.es = []) ∨ ∃ r, v = .map (some r) ∧ F r ∧ mapAt h r m)
  len := by rintro h cs m ⟨v, rfl, _⟩; rfl
  mono := by
    rintro h h' cs m hh ⟨v, rfl, hr⟩
    refine ⟨v, rfl, ?_⟩
    rcases hr with hr | ⟨r, hv, E, c, es, h1, h2⟩
    · exact .inl hr
    · exact .inr ⟨r, hv, E, c, es, hh _ _ h1, h2⟩
  own_rep := by
    rintro F h cs m ⟨v, rfl, hr⟩
    refine ⟨v, rfl, ?_⟩
    rcases hr with hr | ⟨r, hv, _, h1⟩
    · exact .inl hr
    · exact .inr ⟨r, hv, h1⟩
  own_loc := by
    rintro F h h' cs m ⟨v, rfl, hr⟩ hh
    refine ⟨v, rfl, ?_⟩
    rcases hr with hr | ⟨r, hv, hF, E, c, es, h1, h2⟩
    · exact .inl hr
    · exact .inr ⟨r, hv, hF, E, c, es, (hh r hF).trans h1, h2⟩
  own_mono := by
    rintro F F' h cs m hF ⟨v, rfl, hr⟩
    refine ⟨v, rfl, ?_⟩
    rcases hr with hr | ⟨r, hv, h1, h2⟩
    · exact .inl hr
    · exact .inr ⟨r, hv, hF r h1, h2⟩
  one := by
    rintro h cs m ⟨v, rfl, hr⟩ u hu
    simp at hu
    subst hu
    rcases hr with ⟨rfl, _⟩ | ⟨r, rfl, _⟩ <;> rfl

section
variable {β : Type} [MV β] {P : Program} {a : Act} {w w0 : World} {hz : Heap} {L : List Ch} {o : Oper} {n : Nat} {l : Env} {x y z : Operand} {t kt vt : TypeId} {r : Nat} {m : MapS β} {v : Value}

theorem rep_map {h : Heap} : GT.rep h [v] m ↔ ((v = .map none ∧ m.es = []) ∨ ∃ r, v = .map (some r) ∧ mapAt h r m) := by
  constructor
  · rintro ⟨u, hu, hr⟩; simp at hu; subst hu; exact hr
  · intro hr; exact ⟨v, rfl, hr⟩
theorem own_map {F : Nat → Prop} {h : Heap} : GT.own F h [v] m ↔ ((v = .map none ∧ m.es = []) ∨ ∃ r, v = .map (some r) ∧ F r ∧ mapAt h r m) := by
  constructor
  · rintro ⟨u, hu, hr⟩; simp at hu; subst hu; exact hr
  · intro hr; exact ⟨v, rfl, hr⟩

theorem mapS_at {F : Nat → Prop} {h : Heap} (ho : GT.own F h [.map (some r)] m) : F r ∧ mapAt h r m := by
  rcases own_map.1 ho with ⟨e, _⟩ | ⟨r', e, h1, h2⟩
  · cases e
  · cases e; exact ⟨h1, h2⟩

theorem keys_nodup {E : Array MapEntry} {es : List (Int × β)} (hE : E.toList.map (fun e => (e.key, e.val)) = es.map (fun p => (Value.int .i64 p.1, MV.venc p.2))) (hp : es.Perm m.es) : (es.map (·.1)).Nodup := (hp.map _).nodup_iff.2 m.nodup

theorem e_mkS (hm : Mem w0 hz w L) (ho : o.op = .makeMap t none) :
    Ef P a w o (fun v w' => ∃ r, v = .map (some r) ∧ Mem w0 hz w' (ow [.map (some r)] (MapS.mk0 : MapS β) :: L)) :=
  ef_value (w' := w.alloc (.map #[] 0)) (v := .map (some w.heap.size)) (by simp [execOp, ho, Instr.makeMap])
    ⟨_, rfl, hm.more ⟨rfl, rfl, rfl, by simp⟩ (fun b hb => Below.heap_alloc w _ b hb) ⟨fun b => b = w.heap.size, fun b hb => by subst hb; simp, own_map.2 (.inr ⟨_, rfl, rfl, #[], 0, [], heap_alloc_new w _, MapKept.stamped_empty 0, by simp, .nil⟩)⟩⟩

theorem y_lookS {key : Int} {zv : Value} (hK : P.underlying kt = some (.int .i64)) (ht : P.underlying t = some (.map kt vt)) (hz0 : ∀ w, (zeroValue vt).run P w = .ok zv w) (hr : GT.rep (hp w) [v] m) (ho : o.op = .lookup t x y false)
    (hx : ev l x = some v) (hy : ev l y = some (.int .i64 key)) : Yl P l w o ((m.get key).elim zv MV.venc) := fun n a hf => by
  rcases rep_map.1 hr with ⟨rfl, he⟩ | ⟨r, rfl, E, clock, es, h1, h2, h3, h4⟩
  · have hc := (key_int hK).check 9999 true key w
    have hf2 := run_findKey (venc := MV.venc (β := β)) (key_int hK) (E := []) (es := []) rfl key w
    simp only [execOp, ho, hf.eval hx, hf.eval hy, Instr.lookup]
    simp [run_underlying ht, hc, hf2, hz0, MapS.get, he, lookM, findIx]
  · have hf2 := run_findKey (key_int hK) h3 key w
    have hc := (key_int hK).check 9999 E.isEmpty key w
    simp only [execOp, ho, hf.eval hx, hf.eval hy, Instr.lookup]
    simp [run_underlying ht, MapKept.run_getObj_map h1, hc, hf2]
    unfold MapS.get
    rw [← lookM_perm h4 m.nodup]
    unfold lookM
    cases findIx key es 0 with
    | none => simp [hz0]
    | some q => simp

theorem run_insS {key : Int} {u : β} {E : Array MapEntry} {clock : Nat} {es : List (Int × β)} (hK : P.underlying kt = some (.int .i64)) (ht : P.underlying t = some (.map kt vt)) (hb : w.heap[r]? = some (.map E clock)) (hs : MapKept.Stamped E clock)
    (hE : E.toList.map (fun e => (e.key, e.val)) = es.map (fun p => (Value.int .i64 p.1, MV.venc p.2))) :
    ∃ E' clock', (Instr.mapUpdate t (.map (some r)) (.int .i64 key) (MV.venc u)).run P w = .ok () { w with heap := w.heap.setIfInBounds r (.map E' clock') } ∧ MapKept.Stamped E' clock' ∧ E'.toList.map (fun e => (e.key, e.val)) = (insM es key u).map (fun p => (Value.int .i64 p.1, MV.venc p.2)) := by
  have hf2 := run_findKey (key_int hK) hE key w
  have hc := (key_int hK).check 9999 false key w
  unfold insM
  cases hq : findIx key es 0 with
  | none =>
    rw [hq] at hf2
    refine ⟨E.push { key := .int .i64 key, val := MV.venc u, born := clock }, clock + 1, ?_, ?_, ?_⟩
    · simp [Instr.mapUpdate, run_underlying ht, MapKept.run_getObj_map hb, hc, hf2, MapKept.run_setObj_map _ hb]
    · refine MapKept.stamped_push hs fun e he h => ?_
      have h1 : (e.key, e.val) ∈ es.map (fun p => (Value.int .i64 p.1, MV.venc p.2)) := by rw [← hE]; exact List.mem_map.2 ⟨e, he, rfl⟩
      obtain ⟨p, hp, h2⟩ := List.mem_map.1 h1
      simp only [Prod.mk.injEq] at h2
      rw [h] at h2
      have : p.1 = key := by simpa using h2.1
      exact findIx_none.1 hq p hp this.symm
    · simp [hE]
  | some q =>
    obtain ⟨i, v0⟩ := q
    rw [hq] at hf2
    obtain ⟨_, h3⟩ := findIx_some hq
    rw [Nat.sub_zero] at h3
    have hlen : E.toList.length = es.length := by have := congrArg List.length hE; simpa using this
    have hi := (List.getElem?_eq_some_iff.1 h3).1
    have hkey : (E[i]?).map (·.key) = some (.int .i64 key) := by
      have := congrArg (fun l => l[i]?) hE
      simp only [List.getElem?_map, h3, Option.map_some] at this
      cases he : E[i]? with
      | none => rw [← Array.getElem?_toList] at he; rw [he] at this; simp at this
      | some e => rw [← Array.getElem?_toList] at he; rw [he] at this; simp at this; simp [this.1]
    refine ⟨E.modify i fun e => { e with key := .int .i64 key, val := MV.venc u }, clock, ?_, ?_, ?_⟩
    · simp [Instr.mapUpdate, run_underlying ht, MapKept.run_getObj_map hb, hc, hf2, hkey, Instr.keyThatStays, (key_int hK).bits, MapKept.run_setObj_map _ hb]
    · refine MapKept.stamped_modify hs i _ (fun _ _ => rfl) fun e _ he => ?_
      rw [he] at hkey
      simpa using hkey.symm
    · apply List.ext_getElem?
      intro j
      have hj := congrArg (fun l => l[j]?) hE
      simp only [List.getElem?_map] at hj
      simp only [List.getElem?_map, Array.getElem?_toList, Array.getElem?_modify, List.getElem?_set]
      by_cases e : i = j
      · subst e
        simp only [if_true, hi]
        have : i < E.size := by simpa using (by rw [← hlen] at hi; exact hi : i < E.toList.length)
        simp [this]
      · simp only [e, if_false]
        rw [← hj, Array.getElem?_toList]

theorem e_insS {key : Int} {u : β} {b : Bool} (k : Nat) (hK : P.underlying kt = some (.int .i64)) (ht : P.underlying t = some (.map kt vt)) (hf : Fr n l a) (hm : Mem w0 hz w L) (hk : L[k]? = some (ow [.map (some r)] m)) (ho : o.op = if b then .insert t x y z else .mapUpdate t x y z)
    (hx : ev l x = some (.map (some r))) (hy : ev l y = some (.int .i64 key)) (hv : ev l z = some (MV.venc u)) :
    Ef P a w o (fun _ w' => Mem w0 hz w' (L.set k (ow [.map (some r)] (m.ins key u)))) := by
  obtain ⟨F0, hF0, _⟩ := hm.get k hk
  obtain ⟨_, E, clock, es, h1, h2, h3, h4⟩ := mapS_at hF0
  obtain ⟨E', clock', h5, h6, h7⟩ := run_insS (u := u) hK ht h1 h2 h3 (key := key)
  have hlt := (Array.getElem?_eq_some_iff.1 h1).1
  refine ef_skip (w' := { w with heap := w.heap.setIfInBounds r (.map E' clock') }) ?_ ?_
  · cases b <;> simp [execOp, ho, hf.eval hx, hf.eval hy, hf.eval hv, h5]
  · refine hm.upd k hk ⟨rfl, rfl, rfl, by simp⟩ fun F hF hFw => ⟨F, fun _ h => .inl h, fun c hc => by simpa using hFw c hc, own_map.2 (.inr ⟨r, rfl, (mapS_at hF).1, E', clock', insM es key u, ?_, h6, h7, ?_⟩), fun c _ hne => ?_⟩
    · simp [hp, hlt]
    · refine (insM_perm (keys_nodup h3 h4)).trans (List.Perm.trans ?_ (m.ins_perm key u))
      exact (h4.filter _).cons _
    · have : r ≠ c := fun e => hne (by subst e; exact (mapS_at hF).1)
      simp [Array.getElem?_setIfInBounds, this]

theorem e_delS {key : Int} (k : Nat) (hK : P.underlying kt = some (.int .i64)) (ht : P.underlying t = some (.map kt vt)) (hf : Fr n l a) (hm : Mem w0 hz w L) (hk : L[k]? = some (ow [.map (some r)] m)) {ts : Array TypeId} (hts : ts[0]? = some t)
    (ho : o.op = .call { callee := .builtin .delete, args := #[x, y], argTypes := ts }) (hx : ev l x = some (.map (some r))) (hy : ev l y = some (.int .i64 key)) :
    Ef P a w o (fun _ w' => Mem w0 hz w' (L.set k (ow [.map (some r)] (m.del key)))) := by
  obtain ⟨F0, hF0, _⟩ := hm.get k hk
  obtain ⟨_, E, clock, es, h1, h2, h3, h4⟩ := mapS_at hF0
  have hlt := (Array.getElem?_eq_some_iff.1 h1).1
  have hf2 := run_findKey (key_int hK) h3 key w
  have hc := (key_int hK).check 9999 E.isEmpty key w
  have hn := keys_nodup h3 h4
  have fin : ∀ (E' : Array MapEntry) (es' : List (Int × β)), MapKept.Stamped E' clock → E'.toList.map (fun e => (e.key, e.val)) = es'.map (fun p => (Value.int .i64 p.1, MV.venc p.2)) → es' = es.filter (fun p => decide (p.1 ≠ key)) →
      Mem w0 hz { w with heap := w.heap.setIfInBounds r (.map E' clock) } (L.set k (ow [.map (some r)] (m.del key))) := fun E' es' h6 h7 h8 => by
    refine hm.upd k hk ⟨rfl, rfl, rfl, by simp⟩ fun F hF hFw => ⟨F, fun _ h => .inl h, fun c hc => by simpa using hFw c hc, own_map.2 (.inr ⟨r, rfl, (mapS_at hF).1, E', clock, es', ?_, h6, h7, ?_⟩), fun c _ hne => ?_⟩
    · simp [hp, hlt]
    · rw [h8]; exact h4.filter _
    · have : r ≠ c := fun e => hne (by subst e; exact (mapS_at hF).1)
      simp [Array.getElem?_setIfInBounds, this]
  cases hq : findIx key es 0 with
  | none =>
    rw [hq] at hf2
    refine ef_value (v := .tuple #[]) (w' := { w with heap := w.heap.setIfInBounds r (.map E clock) }) ?_ (fin E es h2 h3 ?_)
    · simp [execOp, ho, resolve, invoke, builtin, hf.eval hx, hf.eval hy, Builtin.delete_, hts, run_underlying ht, MapKept.run_getObj_map h1, hc, hf2, MapKept.run_setObj_map _ h1]
    · exact (List.filter_eq_self.2 fun q hq' => by
        have : q.1 ≠ key := fun e => findIx_none.1 hq q hq' e.symm
        simpa using this).symm
  | some q =>
    obtain ⟨i, v0⟩ := q
    rw [hq] at hf2
    obtain ⟨_, h5⟩ := findIx_some hq
    rw [Nat.sub_zero] at h5
    have hlen : E.toList.length = es.length := by have := congrArg List.length h3; simpa using this
    have hi := (List.getElem?_eq_some_iff.1 h5).1
    refine ef_value (v := .tuple #[]) (w' := { w with heap := w.heap.setIfInBounds r (.map (E.eraseIdxIfInBounds i) clock) }) ?_ (fin _ (es.eraseIdx i) (MapKept.stamped_erase h2 i) ?_ (erase_perm hn h5))
    · simp [execOp, ho, resolve, invoke, builtin, hf.eval hx, hf.eval hy, Builtin.delete_, hts, run_underlying ht, MapKept.run_getObj_map h1, hc, hf2, MapKept.run_setObj_map _ h1]
    · have : i < E.size := by simpa using (by rw [← hlen] at hi; exact hi : i < E.toList.length)
      rw [Array.eraseIdxIfInBounds, dif_pos this]
      simp only [Array.toList_eraseIdx, erase_map, h3]

/-- A map of the call's own that is not nil. -/
def owm (v : Value) (m : MapS β) : Ch where
  pr F h := ∃ r, v = .map (some r) ∧ F r ∧ mapAt h r m
  loc := fun F h h' ⟨r, hv, hF, E, c, es, h1, h2⟩ hh => ⟨r, hv, hF, E, c, es, (hh r hF).trans h1, h2⟩
  mono := fun F F' h ⟨r, hv, h1, h2⟩ hF => ⟨r, hv, hF r h1, h2⟩
theorem own_owm {F : Nat → Prop} {h : Heap} (ho : (owm v m).pr F h) : GT.own F h [v] m := own_map.2 (.inr ho)
theorem owm_own {F : Nat → Prop} {h : Heap} (ho : GT.own F h [.map (some r)] m) : (owm (.map (some r)) m).pr F h := ⟨r, rfl, mapS_at ho⟩
theorem Mem.owm_ow (hm : Mem w0 hz w L) (k : Nat) (hk : L[k]? = some (owm v m)) : Mem w0 hz w (L.set k (ow [v] m)) := hm.imp k hk fun _ h => own_owm h
theorem owm_form (hm : Mem w0 hz w L) (k : Nat) (hk : L[k]? = some (owm v m)) : ∃ r, v = .map (some r) := by
  obtain ⟨F, ⟨r, h, _⟩, _⟩ := hm.get k hk
  exact ⟨r, h⟩
theorem set_set {α : Type} (l : List α) (k : Nat) (x y : α) : (l.set k x).set k y = l.set k y := by simp

theorem e_mkM (hm : Mem w0 hz w L) (ho : o.op = .makeMap t none) : Ef P a w o (fun v w' => Mem w0 hz w' (owm v (MapS.mk0 : MapS β) :: L)) := fun K Q hk =>
  e_mkS (β := β) hm ho K Q fun v w' ⟨r, hv, hm'⟩ => hk v w' (by subst hv; exact hm'.imp 0 rfl fun _ h => owm_own h)

theorem e_insM {key : Int} {u : β} {b : Bool} (k : Nat) (hK : P.underlying kt = some (.int .i64)) (ht : P.underlying t = some (.map kt vt)) (hf : Fr n l a) (hm : Mem w0 hz w L) (hk : L[k]? = some (owm v m)) (ho : o.op = if b then .insert t x y z else .mapUpdate t x y z)
    (hx : ev l x = some v) (hy : ev l y = some (.int .i64 key)) (hv : ev l z = some (MV.venc u)) : Ef P a w o (fun _ w' => Mem w0 hz w' (L.set k (owm v (m.ins key u)))) := by
  obtain ⟨r, rfl⟩ := owm_form hm k hk
  have hlt := (List.getElem?_eq_some_iff.1 hk).1
  have hk' : (L.set k (ow [.map (some r)] m))[k]? = some (ow [.map (some r)] m) := List.getElem?_set_self hlt
  intro K Q hkk
  refine e_insS (u := u) k hK ht hf (hm.owm_ow k hk) hk' ho hx hy hv K Q fun v' w' h => hkk v' w' ?_
  rw [set_set] at h
  have := h.imp (c' := owm (.map (some r)) (m.ins key u)) k (List.getElem?_set_self hlt) fun _ h => owm_own h
  rwa [set_set] at this

theorem e_delM {key : Int} (k : Nat) (hK : P.underlying kt = some (.int .i64)) (ht : P.underlying t = some (.map kt vt)) (hf : Fr n l a) (hm : Mem w0 hz w L) (hk : L[k]? = some (owm v m)) {ts : Array TypeId} (hts : ts[0]? = some t)
    (ho : o.op = .call { callee := .builtin .delete, args := #[x, y], argTypes := ts }) (hx : ev l x = some v) (hy : ev l y = some (.int .i64 key)) : Ef P a w o (fun _ w' => Mem w0 hz w' (L.set k (owm v (m.del key)))) := by
  obtain ⟨r, rfl⟩ := owm_form hm k hk
  have hlt := (List.getElem?_eq_some_iff.1 hk).1
  have hk' : (L.set k (ow [.map (some r)] m))[k]? = some (ow [.map (some r)] m) := List.getElem?_set_self hlt
  intro K Q hkk
  refine e_delS k hK ht hf (hm.owm_ow k hk) hk' hts ho hx hy K Q fun v' w' h => hkk v' w' ?_
  rw [set_set] at h
  have := h.imp (c' := owm (.map (some r)) (m.del key)) k (List.getElem?_set_self hlt) fun _ h => owm_own h
  rwa [set_set] at this
end
end Go.Wk
/- Ranges over maps: a body whose rounds may be told in any order. -/
namespace Go.Wk
open Go Go.RowKit

/-- A block that holds an object. -/
def oc (b : Nat) (o : Obj) : Ch where
  pr F h := F b ∧ h b = some o
  loc _ _ _ hp hh := ⟨hp.1, (hh b hp.1).trans hp.2⟩
  mono _ _ _ hp hF := ⟨hF b hp.1, hp.2⟩

/-! ### rounds in any order -/
section
variable {α S : Type}
def rangeM (body : α → S → Option S) : List α → S → Option S
  | [], s => some s
  | p :: es, s => Option.bind (body p s) (rangeM body es)
def Comm (body : α → S → Option S) : Prop := ∀ p q s, Option.bind (body p s) (body q) = Option.bind (body q s) (body p)
end

section
variable {β S : Type} [MV β]
/-- An entry as data. -/
noncomputable def dec (e : MapEntry) (z : Int × β) : Int × β := by
  classical exact if h : ∃ p : Int × β, (e.key, e.val) = (Value.int .i64 p.1, MV.venc p.2) then h.choose else z
end

/-! ### the steps of a range over a map that is read alone -/
section
variable {β S : Type} [MV β] {P : Program} {ops : Array Oper} {a : Act} {w w0 : World} {hz : Heap} {L : List Ch} {o : Oper} {n d : Nat} {l : Env} {x : Operand} {t kt vt ty : TypeId} {v : Value} {m : MapS β} {b : Nat} {seen : Array Nat}

/-- An iterator over a map of the memory hz. -/
def itc (hz : Heap) (v : Value) (b : Nat) (seen : Array Nat) : Ch where
  pr F h := F b ∧ ((v = .map none ∧ h b = some (.mapIter none 0 seen 0)) ∨ ∃ r E clock, v = .map (some r) ∧ hz r = some (.map E clock) ∧ h b = some (.mapIter (some r) clock seen clock))
  loc F h h' hp hh := ⟨hp.1, by rw [hh b hp.1]; exact hp.2⟩
  mono F F' h hp hF := ⟨hF b hp.1, hp.2⟩

/-- Something is left, and the body can be told of it. -/
def More (hz : Heap) (v : Value) (seen : Array Nat) (body : Int × β → S → Option S) (s : S) : Prop :=
  ∃ r E clock, v = .map (some r) ∧ hz r = some (.map E clock) ∧ MapKept.Stamped E clock ∧ (leftOf E seen).size ≠ 0 ∧ ∀ e ∈ (leftOf E seen).toList, ∃ p s', (e.key, e.val) = (Value.int .i64 p.1, MV.venc p.2) ∧ body p s = some s'
def NoMore (hz : Heap) (v : Value) (seen : Array Nat) : Prop :=
  v = .map none ∨ ∃ r E clock, v = .map (some r) ∧ hz r = some (.map E clock) ∧ MapKept.Stamped E clock ∧ (leftOf E seen).size = 0
/-- The entry that has come out. -/
def Got (hz : Heap) (v : Value) (seen : Array Nat) (bn : Nat) (p : Int × β) : Prop :=
  ∃ r E clock e, v = .map (some r) ∧ hz r = some (.map E clock) ∧ MapKept.Stamped E clock ∧ e ∈ (leftOf E seen).toList ∧ bn = e.born ∧ (e.key, e.val) = (Value.int .i64 p.1, MV.venc p.2)
/-- A round told. -/
def Rnd (hz : Heap) (v : Value) (seen : Array Nat) (body : Int × β → S → Option S) (s : S) (J : Array Nat → S → Act → World → Prop) (a : Act) (w : World) : Prop :=
  ∃ bn p s', Got hz v seen bn p ∧ body p s = some s' ∧ J (seen.push bn) s' a w

variable {ρ : Type} {c : Code} {Q : Exit → Act → World → Prop} {r : ρ} {s0 : S}
end
end Go.Wk
/- The library's sort of integers, out of the shelf's contract. -/
namespace Go.Wk
open Go Go.RowKit Go.Shelf

def sortI (xs : List Int) : List Int := xs.mergeSort fun x y => decide (x ≤ y)
theorem sortI_len (xs : List Int) : (sortI xs).length = xs.length := List.length_mergeSort xs

section
variable {P : Program} {ρ : Ren} {w0 : World} {hz : Heap} {v : Value} {xs : List Int}

theorem getB {xs : List Int} {j : Nat} (h : j < xs.length) : xs.toArray[j]! = xs[j] := by
  rw [getElem!_pos _ _ (by simpa using h)]; simp

/-- A row of an own list of integers is written anew. -/
theorem row_new {w : World} {L : List Ch} {b off cap n : Nat} {os : Array Obj} {ys zs : List Int} {pre : Nat} (hm : Mem w0 hz w L) (k : Nat) (hk : L[k]? = some (ow [.slice (some ⟨b, off, none⟩) xs.length cap] xs)) (hz1 : zs.length = xs.length) (hy : ys <+: zs) :
    Mem w0 hz (Sort.grow (Sort.putRow (Value.int .i64) (Sort.ahead w n) b off zs.toArray) os) (L.set k (ow [.slice (some ⟨b, off, none⟩) ys.length cap] ys)) := by
  obtain ⟨F, hF, hFw⟩ := hm.get k hk
  have hF' : sliceOwn F (hp w) (.slice (some ⟨b, off, none⟩) xs.length cap) xs := own_list.1 hF
  rcases hF' with ⟨e, _⟩ | ⟨b', off', len', cap', C, T, e, hFb, hb, hl, hc, hmx, hsz, fps, g1, g2, g3⟩
  · cases e
  cases e
  have hyl := hy.length_le
  have hsz' : off + cap ≤ C.size := by simpa [show GT.sz Int = 1 from rfl] using hsz
  have hbw : w.heap[b]? = some (.cells C T (0, 0)) := hb
  have hlt := (Array.getElem?_eq_some_iff.1 hbw).1
  have hnew : (Sort.grow (Sort.putRow (Value.int .i64) (Sort.ahead w n) b off zs.toArray) os).heap[b]? = some (.cells (Sort.putCells (Value.int .i64) off zs.toArray C) T (0, 0)) := by
    rw [Sort.heap_grow_old _ _ (by simpa [Sort.ahead] using hlt)]
    simp [Sort.putRow, Sort.mapBlock, Sort.ahead, Array.getElem?_modify, hbw, Sort.onCells]
  have hCs : (Sort.putCells (Value.int .i64) off zs.toArray C).size = C.size := by simp [Sort.putCells]
  have hF2b : ∀ F2, (ow [.slice (some ⟨b, off, none⟩) xs.length cap] xs).pr F2 (hp w) → F2 b := fun F2 hF2 => by
    have hF2' : sliceOwn F2 (hp w) (.slice (some ⟨b, off, none⟩) xs.length cap) xs := own_list.1 hF2
    rcases hF2' with ⟨e, _⟩ | ⟨b2, off2, len2, cap2, C2, T2, e, hFb2, _⟩
    · cases e
    · cases e; exact hFb2
  refine hm.upd k hk ⟨rfl, rfl, rfl, by simp [Sort.ahead]⟩ fun F2 hF2 hFw2 => ⟨fun c => c = b, fun c hc => by subst hc; exact .inl (hF2b F2 hF2), fun c hc => by subst hc; simp [Sort.ahead]; omega, own_list.2 (.inr ⟨b, off, ys.length, cap, Sort.putCells (Value.int .i64) off zs.toArray C, T, rfl, rfl, hnew, rfl, by omega, ⟨hmx.1, by omega⟩, by rw [hCs]; exact hsz, fun _ _ => False, fun _ _ h => h.elim, fun _ _ _ _ h => h.elim, fun i x hx => ?_⟩), fun c hc hne => ?_⟩
  · have hi : i < ys.length := (List.getElem?_eq_some_iff.1 hx).1
    have hx2 : zs[i]? = some x := by
      obtain ⟨t, rfl⟩ := hy
      rw [List.getElem?_append_left hi]; exact hx
    have hi2 : i < zs.length := by omega
    have hx' : zs[i] = x := (List.getElem?_eq_some_iff.1 hx2).2
    refine Flat.own_iff.2 ?_
    show seg _ (off + i * 1) 1 = [.int .i64 x]
    have hc1 : (Sort.putCells (Value.int .i64) off zs.toArray C)[off + i]? = some (.int .i64 x) := by
      simp only [Sort.putCells, Array.getElem?_mapIdx]
      have : off + i < C.size := by omega
      rw [Array.getElem?_eq_getElem this, Option.map_some, if_pos ⟨by omega, by simp; omega⟩, show off + i - off = i by omega, getB hi2, hx']
    have hls : (seg (Sort.putCells (Value.int .i64) off zs.toArray C) (off + i * 1) 1).length = 1 := seg_len (by rw [hCs]; omega)
    apply List.ext_getElem?
    intro j
    cases j with
    | zero =>
      have h5 : hp (Sort.grow (Sort.putRow (Value.int .i64) (Sort.ahead w n) b off zs.toArray) os) b = some (.cells (Sort.putCells (Value.int .i64) off zs.toArray C) T (0, 0)) := hnew
      obtain ⟨C', T', fz', e1, e2⟩ := cellsAt_seg (o := off + i * 1) (n := 1) h5
      have e3 := e2 0 _ (List.getElem?_eq_getElem (by omega))
      rw [h5] at e1
      cases e1
      rw [List.getElem?_eq_getElem (by omega)]
      rw [show off + i * 1 + 0 = off + i by omega, hc1] at e3
      simpa using e3.symm
    | succ j => rw [List.getElem?_eq_none (by omega), List.getElem?_eq_none (by simp)]
  · have hcb : b ≠ c := fun e => hne (by subst e; exact hF2b F2 hF2)
    rw [Sort.heap_grow_old _ _ (by simpa [Sort.ahead] using hc)]
    simp [Sort.putRow, Sort.mapBlock, Sort.ahead, Array.getElem?_modify, hcb]

theorem row_holds {w : World} {L : List Ch} {b off cap : Nat} (hm : Mem w0 hz w L) (k : Nat) (hk : L[k]? = some (ow [.slice (some ⟨b, off, none⟩) xs.length cap] xs)) : Sort.Holds (Value.int .i64) w b off xs.toArray ∧ b < w.heap.size ∧ xs.length ≤ cap ∧ xs.length ≤ 140737488355328 := by
  obtain ⟨F, hF, hFw⟩ := hm.get k hk
  have hF' : sliceOwn F (hp w) (.slice (some ⟨b, off, none⟩) xs.length cap) xs := own_list.1 hF
  rcases hF' with ⟨e, _⟩ | ⟨b', off', len', cap', C, T, e, hFb, hb, hl, hc, hmx, hsz, fps, g1, g2, g3⟩
  · cases e
  cases e
  have hbw : w.heap[b]? = some (.cells C T (0, 0)) := hb
  refine ⟨fun j hj => ?_, (Array.getElem?_eq_some_iff.1 hbw).1, hc, hmx.2⟩
  have hj' : j < xs.length := by simpa using hj
  have h1 := g3 j xs[j] (List.getElem?_eq_getElem hj')
  have h2 : seg C (off + j * 1) 1 = [.int .i64 xs[j]] := Flat.own_iff.1 h1
  have h3 : (seg C (off + j * 1) 1)[0]? = some (.int .i64 xs[j]) := by rw [h2]; rfl
  obtain ⟨C', T', fz', e1, e2⟩ := cellsAt_seg (o := off + j * 1) (n := 1) hb
  rw [hb] at e1
  cases e1
  have := e2 0 _ h3
  rw [getB hj']
  have h4 : C[off + j]? = some (.int .i64 xs[j]) := by simpa using this
  exact ⟨by simp [World.cell?, hbw, h4], by simp [World.frozen?, hbw]⟩

theorem own_form {w : World} {L : List Ch} (hm : Mem w0 hz w L) (k : Nat) (hk : L[k]? = some (ow [v] xs)) : (v = .slice none 0 0 ∧ xs = []) ∨ ∃ b off cap, v = .slice (some ⟨b, off, none⟩) xs.length cap := by
  obtain ⟨F, hF, hFw⟩ := hm.get k hk
  have hF' : sliceOwn F (hp w) v xs := own_list.1 hF
  rcases hF' with h | ⟨b, off, len, cap, C, T, rfl, hFb, hb, hl, _⟩
  · exact .inl h
  · exact .inr ⟨b, off, cap, by rw [hl]⟩
theorem set_sameL {α : Type} {l : List α} {k : Nat} {x : α} (h : l[k]? = some x) : l.set k x = l := by
  obtain ⟨h1, h2⟩ := List.getElem?_eq_some_iff.1 h
  rw [← h2]; exact List.set_getElem_self h1

theorem sort_con {w : World} {L : List Ch} (Ly : Go.Proofs.Lays.n189 P ρ) (hm : Mem w0 hz w L) (k : Nat) (hk : L[k]? = some (ow [v] xs)) : Con P (ρ.f 189) [v] w fun v' w' => v' = .tuple #[] ∧ Mem w0 hz w' (L.set k (ow [v] (sortI xs))) := by
  rcases own_form hm k hk with ⟨rfl, rfl⟩ | ⟨b, off, cap, rfl⟩
  · refine Calls.mono (Go.Proofs.Any.slices_Sort_int_none Ly none 0 w) fun e w' h => ?_
    obtain ⟨rfl, rfl⟩ := h
    exact ⟨rfl, by rw [show sortI [] = [] by simp [sortI], set_sameL hk]; exact hm⟩
  · obtain ⟨h1, h2, _, h4⟩ := row_holds hm k hk
    refine Calls.mono (Go.Proofs.Any.slices_Sort_int Ly b off cap xs w h1 h2 (by omega)) fun e w' h => ?_
    obtain ⟨rfl, n, os, rfl⟩ := h
    refine ⟨rfl, ?_⟩
    have := row_new (n := n) (os := os) (ys := sortI xs) (zs := sortI xs) (pre := 0) hm k hk (sortI_len xs) (List.prefix_refl _)
    rw [sortI_len] at this
    exact this

theorem compact_con {w : World} {L : List Ch} (Ly : Go.Proofs.Lays2.n20 P ρ) (hm : Mem w0 hz w L) (k : Nat) (hk : L[k]? = some (ow [v] xs)) : Con P (ρ.f 20) [v] w fun v' w' => Mem w0 hz w' (L.set k (ow [v'] (Lib.compact xs))) := by
  rcases own_form hm k hk with ⟨rfl, rfl⟩ | ⟨b, off, cap, rfl⟩
  · refine Calls.mono (Go.Proofs.Any.slices_Compact_int_empty Ly none 0 w) fun e w' h => ?_
    obtain ⟨rfl, rfl⟩ := h
    show Mem w0 hz w' (L.set k (ow [.slice none 0 0] (Lib.compact [])))
    rw [show Lib.compact ([] : List Int) = [] from rfl, set_sameL hk]; exact hm
  · obtain ⟨h1, h2, h3, h4⟩ := row_holds hm k hk
    have hle : (Lib.compact xs).length ≤ xs.length := Lib.compact_length_le xs
    refine Calls.mono (Go.Proofs.Any.slices_Compact_int Ly b off cap xs w h1 (by omega) h3) fun e w' h => ?_
    obtain ⟨rfl, n, rfl⟩ := h
    have := row_new (n := n) (os := #[]) (ys := Lib.compact xs) (zs := Lib.compact xs ++ List.replicate (xs.length - (Lib.compact xs).length) 0) (pre := 0) hm k hk (by simp; omega) (List.prefix_append _ _)
    rw [Sort.grow_empty] at this
    exact this
end
end Go.Wk
/- A range over a map whose keys are put behind a list, where what follows does not look at their order. -/
namespace Go.Wk
open Go Go.RowKit

section
variable {β ρ : Type} [MV β] {P : Program} {w0 : World} {hz : Heap} {n : Nat} {l : Env} {w : World} {v : Value} {m : MapS β} {c : Code} {Q : Exit → Act → World → Prop} {r : ρ}
end
section
variable {β : Type} [MV β] {w0 : World} {hz : Heap} {w : World} {L : List Ch} {v : Value} {m : MapS β}
theorem owm_cells (hm : Mem w0 hz w L) (k : Nat) (hk : L[k]? = some (owm v m)) : v.cells = [v].toArray := by
  obtain ⟨r, rfl⟩ := owm_form hm k hk
  rfl
end
section
variable {P : Program} {l : Env} {w : World} {o : Oper} {x y : Operand} {t kt vt : TypeId} {v : Value} {key : Int}
theorem y_lookI {m : MapS Int} (hK : P.underlying kt = some (.int .i64)) (ht : P.underlying t = some (.map kt vt)) (hz0 : ∀ w, (zeroValue vt).run P w = .ok (.int .i64 0) w) (hr : GT.rep (hp w) [v] m) (ho : o.op = .lookup t x y false)
    (hx : ev l x = some v) (hy : ev l y = some (.int .i64 key)) : Yl P l w o (.int .i64 ((m.get key).getD 0)) := by
  have h := y_lookS (zv := .int .i64 0) hK ht hz0 hr ho hx hy
  cases e : m.get key <;> rw [e] at h <;> exact h
end
end Go.Wk
/- Memory handed on, chunks forgotten. -/
namespace Go.Wk
open Go Go.RowKit
end Go.Wk
/- Slice expressions with a capacity that ends where the part ends. -/
namespace Go.Wk
open Go Go.RowKit

def subC (s : Nat) (v : Value) (lo hi : Nat) : Value := match v with
  | .slice p _ _ => .slice (if hi = lo then p else p.map (·.add (lo * s))) (hi - lo) (hi - lo)
  | v => v

section
variable {α : Type} [GT α] {h : Heap} {v : Value} {xs : List α} {lo hi : Nat} {F : Nat → Prop}
end

section
variable {α : Type} [GT α] {P : Program} {l : Env} {h : Heap} {o : Oper} {x yl yh ym : Operand} {t e : TypeId} {v : Value} {xs : List α} {lo hi : Int} {kl kh km : IntKind}
end
end Go.Wk
/- Ranges over maps whose rounds may be told in any order for the map's own entries. -/
namespace Go.Wk
open Go Go.RowKit

section
variable {β S : Type}
open Classical in
/-- A body on the map's own entries alone. -/
noncomputable def onM (es : List (Int × β)) (body : Int × β → S → Option S) : Int × β → S → Option S := fun p => if p ∈ es then body p else fun _ => none
end
section
variable {β S ρ : Type} [MV β] {P : Program} {w0 : World} {hz : Heap} {n : Nat} {l : Env} {w : World} {v : Value} {m : MapS β} {c : Code} {Q : Exit → Act → World → Prop} {r : ρ}
end

/-- No number twice. -/
def guardN (l : List Int) : Option _root_.Unit := if l.Nodup then some () else none
theorem get_mem {β : Type} {m : MapS β} {k : Int} {x : β} (h : m.get k = some x) : (k, x) ∈ m.es := (lookM_some m.nodup).1 h
theorem rep_oneM {β : Type} [MV β] {h : Heap} {v : Value} {m : MapS β} (hr : GT.rep h [v] m) : v.oneCell' = true := GT.one hr _ (List.mem_singleton.2 rfl)
end Go.Wk
/- Scopes that are gone through straight, labels. -/
namespace Go.Wk
open Go Go.RowKit

abbrev InSc (Q : Exit → Act → World → Prop) (e : Exit) : Act → World → Prop := match e with
  | .goto _ => fun _ _ => False
  | e => Q e
section
variable {ρ : Type} {m : Option ρ} {r : ρ} {n : Nat} {l : Env} {w : World} {P : Program} {c : Code} {Q : Exit → Act → World → Prop}
end
end Go.Wk
/- Lists of maps whose model tells which are nil; entries of maps that lie in them. -/
namespace Go.Wk
open Go Go.RowKit

/-- A map that may be nil: the model tells. -/
def MapO (β : Type) : Type := Option (MapS β)
def MapO.toS {β : Type} (x : MapO β) : MapS β := match x with | some m => m | none => MapS.mk0
def MapO.of {β : Type} (m : MapS β) : MapO β := some m
def MapO.nil {β : Type} : MapO β := none
def MapO.get {β : Type} (x : MapO β) : Option (MapS β) := x
instance {β : Type} : Inhabited (MapO β) := ⟨none⟩

instance {β : Type} [MV β] : GT (MapO β) where
  sz := 1
  rep h cs x := ∃ v, cs = [v] ∧ ((v = .map none ∧ x = none) ∨ ∃ r m, v = .map (some r) ∧ x = some m ∧ mapAt h r m)
  own F h cs x := ∃ v, cs = [v] ∧ ((v = .map none ∧ x = none) ∨ ∃ r m, v = .map (some r) ∧ x = some m ∧ F r ∧ mapAt h r m)
  len := by rintro h cs m ⟨v, rfl, _⟩; rfl
  mono := by
    rintro h h' cs m hh ⟨v, rfl, hr⟩
    refine ⟨v, rfl, ?_⟩
    rcases hr with hr | ⟨r, m, hv, hx, E, c, es, h1, h2⟩
    · exact .inl hr
    · exact .inr ⟨r, m, hv, hx, E, c, es, hh _ _ h1, h2⟩
  own_rep := by
    rintro F h cs m ⟨v, rfl, hr⟩
    refine ⟨v, rfl, ?_⟩
    rcases hr with hr | ⟨r, m, hv, hx, _, h1⟩
    · exact .inl hr
    · exact .inr ⟨r, m, hv, hx, h1⟩
  own_loc := by
    rintro F h h' cs m ⟨v, rfl, hr⟩ hh
    refine ⟨v, rfl, ?_⟩
    rcases hr with hr | ⟨r, m, hv, hx, hF, E, c, es, h1, h2⟩
    · exact .inl hr
    · exact .inr ⟨r, m, hv, hx, hF, E, c, es, (hh r hF).trans h1, h2⟩
  own_mono := by
    rintro F F' h cs m hF ⟨v, rfl, hr⟩
    refine ⟨v, rfl, ?_⟩
    rcases hr with hr | ⟨r, m, hv, hx, h1, h2⟩
    · exact .inl hr
    · exact .inr ⟨r, m, hv, hx, hF r h1, h2⟩
  one := by
    rintro h cs m ⟨v, rfl, hr⟩ u hu
    simp at hu
    subst hu
    rcases hr with ⟨rfl, _⟩ | ⟨r, m, rfl, _⟩ <;> rfl

section
variable {β : Type} [MV β] {P : Program} {a : Act} {w w0 : World} {hz : Heap} {L : List Ch} {o : Oper} {n : Nat} {l : Env} {x y z : Operand} {t kt vt : TypeId} {r : Nat} {m : MapS β} {v : Value}

/-- An entry of a key, by its stamp. -/
def Ent (h : Heap) (v : Value) (key st : Int) : Prop :=
  ∃ (r : Nat) (E : Array MapEntry) (clock j : Nat) (e : MapEntry), v = .map (some r) ∧ h r = some (.map E clock) ∧ E.toList[j]? = some e ∧ (e.born : Int) = st ∧ e.key = .int .i64 key

end

/-! ### rounds that may come in any order -/
section
variable {S α : Type} {f g f2 : S → Option S}
def CommF (f g : S → Option S) : Prop := ∀ s, Option.bind (f s) g = Option.bind (g s) f
end

/-- A key put into a map of a list. -/
def put1 (a k : Int) (xs : List (MapO Bool)) : Option (List (MapO Bool)) := Option.bind (getI xs a) fun x => Option.bind (MapO.get x) fun m => some (xs.set a.toNat (MapO.of (m.ins k true)))
end Go.Wk
/- Elements of lists of maps: not nil where there is something in them. -/
namespace Go.Wk
open Go Go.RowKit
/-- There is something in a map. -/
def neM {β : Type} (m : MapS β) : Option Unit := if m.es.isEmpty = true then none else some ()
theorem Mem.ow_owm {β : Type} [MV β] {w0 w : World} {hz : Heap} {L : List Ch} {v : Value} {m : MapS β} {u : Unit} (hm : Mem w0 hz w L) (k : Nat) (hk : L[k]? = some (ow [v] m)) (h : neM m = some u) : Mem w0 hz w (L.set k (owm v m)) :=
  hm.imp k hk fun F h0 => by
    rcases own_map.1 h0 with ⟨_, e⟩ | h1
    · unfold neM at h
      rw [e] at h
      cases h
    · exact h1
end Go.Wk
