/- A part of a proof: general laws of walks, no statement of the seat. -/
import Derived.Test.YtpllkdbmgcmklaaGreatWkY
import Derived.Maps.RangeRun
import Derived.ChangeKeysEq
/- Sets and tables of integers: maps as lists in the order of their keys; map memory owned like slices. -/
namespace Go.Wk
open Go Go.RowKit

/-- A map from integers: its entries in the order of their keys. -/
structure MapS (β : Type) where
  es : List (Int × β)
  so : es.Pairwise (fun a b => a.1 < b.1)
  deriving DecidableEq
instance {β : Type} : Inhabited (MapS β) := ⟨⟨[], .nil⟩⟩

namespace MapS
variable {β : Type}
def get (m : MapS β) (k : Int) : Option β := lookM m.es k
def mk0 : MapS β := ⟨[], .nil⟩
def ins (m : MapS β) (k : Int) (v : β) : MapS β :=
  ⟨m.es.filter (fun p => decide (p.1 < k)) ++ (k, v) :: m.es.filter (fun p => decide (k < p.1)), by
    refine List.pairwise_append.2 ⟨m.so.filter _, List.pairwise_cons.2 ⟨fun p hp => by simpa using (List.mem_filter.1 hp).2, m.so.filter _⟩, fun a ha b hb => ?_⟩
    have h1 : a.1 < k := by simpa using (List.mem_filter.1 ha).2
    rcases List.mem_cons.1 hb with e | hb
    · subst e; exact h1
    · have h2 : k < b.1 := by simpa using (List.mem_filter.1 hb).2
      omega⟩
def del (m : MapS β) (k : Int) : MapS β := ⟨m.es.filter (fun p => decide (p.1 ≠ k)), m.so.filter _⟩
def keys (m : MapS β) : List Int := m.es.map (·.1)
def len (m : MapS β) : Int := (m.es.length : Int)
theorem nodup (m : MapS β) : (m.es.map (·.1)).Nodup := by
  refine (List.pairwise_map.2 (m.so.imp ?_))
  intro a b h
  show a.1 ≠ b.1
  omega
end MapS

/-! ### entries in any order -/
section
variable {β : Type}
end

class MV (β : Type) where
  venc : β → Value
  inj : ∀ a b, venc a = venc b → a = b
instance : MV Bool := ⟨.bool, fun a b h => by simpa using h⟩
instance : MV Int := ⟨.int .i64, fun a b h => by simpa using h⟩

/-- A map lies in a block. -/
def mapAt {β : Type} [MV β] (h : Heap) (r : Nat) (m : MapS β) : Prop :=
  ∃ (E : Array MapEntry) (clock : Nat) (es : List (Int × β)), h r = some (.map E clock) ∧ MapKept.Stamped E clock ∧ E.toList.map (fun e => (e.key, e.val)) = es.map (fun p : Int × β => (Value.int .i64 p.1, MV.venc p.2)) ∧ es.Perm m.es

instance {β : Type} [MV β] : GT (MapS β) where
  sz := 1
  rep h cs m := ∃ v, cs = [v] ∧ ((v = .map none ∧ m.es = []) ∨ ∃ r, v = .map (some r) ∧ mapAt h r m)
  own F h cs m := ∃ v, cs = [v] ∧ ((v = .map none ∧ m.es = []) ∨ ∃ r, v = .map (some r) ∧ F r ∧ mapAt h r m)
  len := by rintro h cs m ⟨v, rfl, _⟩; rfl
  mono := by
    rintro h h' cs m hh ⟨v, rfl, hr⟩
    refine ⟨v, rfl, ?_⟩
    rcases hr with hr | ⟨r, hv, E, c, es, h1, h2⟩
    · exact .inl hr
    · exact .inr ⟨r, hv, E, c, es, hh _ _ h1, h2⟩
  own_rep := by
    rintro F h cs m ⟨v, rfl, hr⟩
    refine ⟨v, rfl, ?_⟩
    rcases hr with hr | ⟨r, hv, _, h1⟩
    · exact .inl hr
    · exact .inr ⟨r, hv, h1⟩
  own_loc := by
    rintro F h h' cs m ⟨v, rfl, hr⟩ hh
    refine ⟨v, rfl, ?_⟩
    rcases hr with hr | ⟨r, hv, hF, E, c, es, h1, h2⟩
    · exact .inl hr
    · exact .inr ⟨r, hv, hF, E, c, es, (hh r hF).trans h1, h2⟩
  own_mono := by
    rintro F F' h cs m hF ⟨v, rfl, hr⟩
    refine ⟨v, rfl, ?_⟩
    rcases hr with hr | ⟨r, hv, h1, h2⟩
    · exact .inl hr
    · exact .inr ⟨r, hv, hF r h1, h2⟩
  one := by
    rintro h cs m ⟨v, rfl, hr⟩ u hu
    simp at hu
    subst hu
    rcases hr with ⟨rfl, _⟩ | ⟨r, rfl, _⟩ <;> rfl

section
variable {β : Type} [MV β] {P : Program} {a : Act} {w w0 : World} {hz : Heap} {L : List Ch} {o : Oper} {n : Nat} {l : Env} {x y z : Operand} {t kt vt : TypeId} {r : Nat} {m : MapS β} {v : Value}

/-- A map of the call's own that is not nil. -/
def owm (v : Value) (m : MapS β) : Ch where
  pr F h := ∃ r, v = .map (some r) ∧ F r ∧ mapAt h r m
  loc := fun F h h' ⟨r, hv, hF, E, c, es, h1, h2⟩ hh => ⟨r, hv, hF, E, c, es, (hh r hF).trans h1, h2⟩
  mono := fun F F' h ⟨r, hv, h1, h2⟩ hF => ⟨r, hv, hF r h1, h2⟩
theorem set_set {α : Type} (l : List α) (k : Nat) (x y : α) : (l.set k x).set k y = l.set k y := by simp

end
end Go.Wk
/- Maps from pairs of integers: tables whose entries stand in the order in which they came. -/
namespace Go.Wk
open Go Go.RowKit

/-- A map from pairs: its entries in the order in which they came. -/
structure MapP (β : Type) where
  es : List ((Int × Int) × β)
  deriving DecidableEq
instance {β : Type} : Inhabited (MapP β) := ⟨⟨[]⟩⟩
namespace MapP
variable {β : Type}
def get (m : MapP β) (k : Int × Int) : Option β := lookM m.es k
def mk0 : MapP β := ⟨[]⟩
def ins (m : MapP β) (k : Int × Int) (v : β) : MapP β := ⟨insM m.es k v⟩
end MapP

def pairE (k : Int × Int) : Value := .agg #[.int .i64 k.1, .int .i64 k.2]
/-- Keys of this type are pairs of integers. -/
structure PairK (P : Program) (kt : TypeId) : Prop where
  h : ∃ it i, P.underlying kt = some (.array 2 it) ∧ P.underlying it = some (.int .i64) ∧ P.info? it = some i ∧ P.cellsOf it = 1

section
variable {P : Program} {kt : TypeId}
theorem run_part1 {it : TypeId} (h : P.underlying it = some (.int .i64)) {xs : Array Value} {off : Nat} {v : Value} (hx : xs[off]? = some v) (w : World) : (part it xs off).run P w = .ok v w := by
  simp [part, isAgg, run_underlying h, hx]
theorem run_eqPair (hK : PairK P kt) (a b : Int × Int) (w : World) : (Op.equal kt (pairE a) (pairE b)).run P w = .ok (decide (a = b)) w := by
  obtain ⟨it, i, h1, h2, h3, h4⟩ := hK.h
  show (Op.equalIn (9999 + 1) kt (.agg #[.int .i64 a.1, .int .i64 a.2]) (.agg #[.int .i64 b.1, .int .i64 b.2])).run P w = _
  rw [Go.run_equalIn_array w 9999 _ _ h1 h3, h4]
  simp only [List.range, List.range.loop, Op.eqItems, Sem.run_bind, Nat.zero_mul, Nat.one_mul]
  rw [run_part1 h2 (v := .int .i64 a.1) rfl]
  simp only [Result.andThen_ok]
  rw [run_part1 h2 (v := .int .i64 b.1) rfl]
  simp only [Result.andThen_ok]
  rw [show (9999 : Nat) = 9998 + 1 from rfl, run_equalIn_int w 9998 it .i64 .i64 a.1 b.1 h2]
  simp only [Result.andThen_ok]
  have e : decide (a = b) = (a.1 == b.1 && a.2 == b.2) := by
    obtain ⟨x, y⟩ := a
    obtain ⟨z, u⟩ := b
    rw [Bool.eq_iff_iff]
    simp
  rw [e]
  cases hc : a.1 == b.1 with
  | false => simp
  | true =>
    simp only [Bool.not_true, Bool.false_eq_true, if_false, Sem.run_bind]
    rw [run_part1 h2 (v := .int .i64 a.2) rfl]
    simp only [Result.andThen_ok]
    rw [run_part1 h2 (v := .int .i64 b.2) rfl]
    simp only [Result.andThen_ok]
    rw [run_equalIn_int w 9998 it .i64 .i64 a.2 b.2 h2]
    simp only [Result.andThen_ok, Bool.true_and]
    cases a.2 == b.2 <;> simp

variable {β : Type} [MV β]
theorem run_findAskP (hK : PairK P kt) (key : Int × Int) (w : World) : ∀ {E : List MapEntry} {es : List ((Int × Int) × β)} (i : Nat), E.map (fun e => (e.key, e.val)) = es.map (fun p => (pairE p.1, MV.venc p.2)) →
    (Instr.findAsking kt (pairE key) E i).run P w = .ok ((findIx key es i).map fun q => (q.1, MV.venc q.2)) w
  | [], [], i, _ => by simp [Instr.findAsking, findIx]
  | [], _ :: _, _, h => by simp at h
  | _ :: _, [], _, h => by simp at h
  | e :: E, p :: es, i, h => by
    simp only [List.map_cons, List.cons.injEq, Prod.mk.injEq] at h
    obtain ⟨⟨h1, h2⟩, h3⟩ := h
    unfold Instr.findAsking findIx
    rw [h1]
    simp only [Sem.run_bind]
    rw [run_eqPair hK]
    simp only [Result.andThen_ok]
    by_cases he : key = p.1
    · simp [he, h2]
    · simp only [he, decide_false, if_false, Bool.false_eq_true]
      exact run_findAskP hK key w (i + 1) h3
theorem run_findKeyP (hK : PairK P kt) {E : List MapEntry} {es : List ((Int × Int) × β)} (hE : E.map (fun e => (e.key, e.val)) = es.map (fun p => (pairE p.1, MV.venc p.2))) (key : Int × Int) (w : World) :
    (Instr.findKey kt (pairE key) E).run P w = .ok ((findIx key es 0).map fun q => (q.1, MV.venc q.2)) w := by
  obtain ⟨it, i, h1, h2, h3, h4⟩ := hK.h
  have hask := run_findAskP hK key w 0 hE
  cases E with
  | nil =>
    cases es with
    | nil => simp [Instr.findKey, run_underlying h1, Instr.findNow, findIx]
    | cons p es => simp at hE
  | cons e E =>
    have hn : Instr.findNow (.array 2 it) (pairE key) (e :: E) 0 = none := by
      unfold Instr.findNow
      have : ∀ v, Instr.sameNow (.array 2 it) (pairE key) v = none := fun v => rfl
      simp [this]
    simp only [Instr.findKey, Sem.run_bind, run_underlying h1, Result.andThen_ok, hn]
    exact hask
omit [MV β] in
theorem run_checkP (hK : PairK P kt) (e : Bool) (key : Int × Int) (w : World) : (Instr.checkKey e 10000 kt (pairE key)).run P w = .ok () w := by
  obtain ⟨it, i, h1, h2, h3, h4⟩ := hK.h
  rw [show (10000 : Nat) = 9998 + 1 + 1 from rfl]
  unfold Instr.checkKey
  simp only [Sem.run_bind, run_underlying h1, Result.andThen_ok, pairE]
  simp only [Std.Legacy.Range.forIn_eq_forIn_range', Std.Legacy.Range.size, Nat.sub_zero, Nat.add_one_sub_one, Nat.div_one]
  have hp : ∀ (off : Nat) (v : Value), (#[Value.int .i64 key.1, .int .i64 key.2] : Array Value)[off]? = some v → (part it #[Value.int .i64 key.1, .int .i64 key.2] off).run P w = .ok v w := fun off v hv => run_part1 h2 hv w
  have hc : ∀ x : Int, (Instr.checkKey e (9998 + 1) it (.int .i64 x)).run P w = .ok () w := fun x => by unfold Instr.checkKey; simp [run_underlying h2]
  have hs : (sizeOf it).run P w = .ok 1 w := by rw [Go.run_sizeOf w h3, h4]
  simp [List.range', hs, hp 0 _ rfl, hp 1 _ rfl, hc]
theorem bitsP (k : Int × Int) : Instr.sameBits 10000 (pairE k) (pairE k) = true := by simp [Instr.sameBits, pairE]
end

/-- A map lies in a block. -/
def mapAtP {β : Type} [MV β] (h : Heap) (r : Nat) (m : MapP β) : Prop :=
  ∃ (E : Array MapEntry) (clock : Nat), h r = some (.map E clock) ∧ E.toList.map (fun e => (e.key, e.val)) = m.es.map (fun p : (Int × Int) × β => (pairE p.1, MV.venc p.2))

instance {β : Type} [MV β] : GT (MapP β) where
  sz := 1
  rep h cs m := ∃ v, cs = [v] ∧ ((v = .map none ∧ m.es = []) ∨ ∃ r, v = .map (some r) ∧ mapAtP h r m)
  own F h cs m := ∃ v, cs = [v] ∧ ((v = .map none ∧ m.es = []) ∨ ∃ r, v = .map (some r) ∧ F r ∧ mapAtP h r m)
  len := by rintro h cs m ⟨v, rfl, _⟩; rfl
  mono := by
    rintro h h' cs m hh ⟨v, rfl, hr⟩
    refine ⟨v, rfl, ?_⟩
    rcases hr with hr | ⟨r, hv, E, c, h1, h2⟩
    · exact .inl hr
    · exact .inr ⟨r, hv, E, c, hh _ _ h1, h2⟩
  own_rep := by
    rintro F h cs m ⟨v, rfl, hr⟩
    refine ⟨v, rfl, ?_⟩
    rcases hr with hr | ⟨r, hv, _, h1⟩
    · exact .inl hr
    · exact .inr ⟨r, hv, h1⟩
  own_loc := by
    rintro F h h' cs m ⟨v, rfl, hr⟩ hh
    refine ⟨v, rfl, ?_⟩
    rcases hr with hr | ⟨r, hv, hF, E, c, h1, h2⟩
    · exact .inl hr
    · exact .inr ⟨r, hv, hF, E, c, (hh r hF).trans h1, h2⟩
  own_mono := by
    rintro F F' h cs m hF ⟨v, rfl, hr⟩
    refine ⟨v, rfl, ?_⟩
    rcases hr with hr | ⟨r, hv, h1, h2⟩
    · exact .inl hr
    · exact .inr ⟨r, hv, hF r h1, h2⟩
  one := by
    rintro h cs m ⟨v, rfl, hr⟩ u hu
    simp at hu
    subst hu
    rcases hr with ⟨rfl, _⟩ | ⟨r, rfl, _⟩ <;> rfl

section
variable {β : Type} [MV β] {P : Program} {a : Act} {w w0 : World} {hz : Heap} {L : List Ch} {o : Oper} {n : Nat} {l : Env} {x y z : Operand} {t kt vt : TypeId} {r : Nat} {m : MapP β} {v : Value}

theorem rep_mapP {h : Heap} : GT.rep h [v] m ↔ ((v = .map none ∧ m.es = []) ∨ ∃ r, v = .map (some r) ∧ mapAtP h r m) := by
  constructor
  · rintro ⟨u, hu, hr⟩; simp at hu; subst hu; exact hr
  · intro hr; exact ⟨v, rfl, hr⟩
theorem own_mapP {F : Nat → Prop} {h : Heap} : GT.own F h [v] m ↔ ((v = .map none ∧ m.es = []) ∨ ∃ r, v = .map (some r) ∧ F r ∧ mapAtP h r m) := by
  constructor
  · rintro ⟨u, hu, hr⟩; simp at hu; subst hu; exact hr
  · intro hr; exact ⟨v, rfl, hr⟩

theorem y_lookP {key : Int × Int} {zv : Value} (hK : PairK P kt) (ht : P.underlying t = some (.map kt vt)) (hz0 : ∀ w, (zeroValue vt).run P w = .ok zv w) (hr : GT.rep (hp w) [v] m) (ho : o.op = .lookup t x y false)
    (hx : ev l x = some v) (hy : ev l y = some (pairE key)) : Yl P l w o ((m.get key).elim zv MV.venc) := fun n a hf => by
  rcases rep_mapP.1 hr with ⟨rfl, he⟩ | ⟨r, rfl, E, clock, h1, h3⟩
  · have hc := run_checkP hK true key w
    have hf2 := run_findKeyP (β := β) hK (E := []) (es := []) rfl key w
    simp only [execOp, ho, hf.eval hx, hf.eval hy, Instr.lookup]
    simp [run_underlying ht, hc, hf2, hz0, MapP.get, he, lookM, findIx]
  · have hf2 := run_findKeyP hK h3 key w
    have hc := run_checkP hK E.isEmpty key w
    simp only [execOp, ho, hf.eval hx, hf.eval hy, Instr.lookup]
    simp [run_underlying ht, MapKept.run_getObj_map h1, hc, hf2]
    unfold MapP.get lookM
    cases findIx key m.es 0 with
    | none => simp [hz0]
    | some q => simp
theorem y_lookPB {key : Int × Int} {m : MapP Bool} (hK : PairK P kt) (ht : P.underlying t = some (.map kt vt)) (hz0 : ∀ w, (zeroValue vt).run P w = .ok (.bool false) w) (hr : GT.rep (hp w) [v] m) (ho : o.op = .lookup t x y false)
    (hx : ev l x = some v) (hy : ev l y = some (pairE key)) : Yl P l w o (.bool ((m.get key).getD false)) := by
  have h := y_lookP hK ht hz0 hr ho hx hy
  rwa [show (m.get key).elim (.bool false) MV.venc = Value.bool ((m.get key).getD false) by cases m.get key <;> rfl] at h

theorem run_insP {key : Int × Int} {u : β} {E : Array MapEntry} {clock : Nat} {es : List ((Int × Int) × β)} (hK : PairK P kt) (ht : P.underlying t = some (.map kt vt)) (hb : w.heap[r]? = some (.map E clock))
    (hE : E.toList.map (fun e => (e.key, e.val)) = es.map (fun p => (pairE p.1, MV.venc p.2))) :
    ∃ E' clock', (Instr.mapUpdate t (.map (some r)) (pairE key) (MV.venc u)).run P w = .ok () { w with heap := w.heap.setIfInBounds r (.map E' clock') } ∧ E'.toList.map (fun e => (e.key, e.val)) = (insM es key u).map (fun p => (pairE p.1, MV.venc p.2)) := by
  have hf2 := run_findKeyP hK hE key w
  have hc := run_checkP hK false key w
  unfold insM
  cases hq : findIx key es 0 with
  | none =>
    rw [hq] at hf2
    refine ⟨E.push { key := pairE key, val := MV.venc u, born := clock }, clock + 1, ?_, ?_⟩
    · simp [Instr.mapUpdate, run_underlying ht, MapKept.run_getObj_map hb, hc, hf2, MapKept.run_setObj_map _ hb]
    · simp [hE]
  | some q =>
    obtain ⟨i, v0⟩ := q
    rw [hq] at hf2
    obtain ⟨_, h3⟩ := findIx_some hq
    rw [Nat.sub_zero] at h3
    have hlen : E.toList.length = es.length := by have := congrArg List.length hE; simpa using this
    have hi := (List.getElem?_eq_some_iff.1 h3).1
    have hkey : (E[i]?).map (·.key) = some (pairE key) := by
      have := congrArg (fun l => l[i]?) hE
      simp only [List.getElem?_map, h3, Option.map_some] at this
      cases he : E[i]? with
      | none => rw [← Array.getElem?_toList] at he; rw [he] at this; simp at this
      | some e => rw [← Array.getElem?_toList] at he; rw [he] at this; simp at this; simp [this.1]
    refine ⟨E.modify i fun e => { e with key := pairE key, val := MV.venc u }, clock, ?_, ?_⟩
    · simp [Instr.mapUpdate, run_underlying ht, MapKept.run_getObj_map hb, hc, hf2, hkey, Instr.keyThatStays, bitsP, MapKept.run_setObj_map _ hb]
    · apply List.ext_getElem?
      intro j
      have hj := congrArg (fun l => l[j]?) hE
      simp only [List.getElem?_map] at hj
      simp only [List.getElem?_map, Array.getElem?_toList, Array.getElem?_modify, List.getElem?_set]
      by_cases e : i = j
      · subst e
        simp only [if_true, hi]
        have : i < E.size := by simpa using (by rw [← hlen] at hi; exact hi : i < E.toList.length)
        simp [this]
      · simp only [e, if_false]
        rw [← hj, Array.getElem?_toList]

/-- A map of the call's own that is not nil. -/
def owp (v : Value) (m : MapP β) : Ch where
  pr F h := ∃ r, v = .map (some r) ∧ F r ∧ mapAtP h r m
  loc := fun F h h' ⟨r, hv, hF, E, c, h1, h2⟩ hh => ⟨r, hv, hF, E, c, (hh r hF).trans h1, h2⟩
  mono := fun F F' h ⟨r, hv, h1, h2⟩ hF => ⟨r, hv, hF r h1, h2⟩
theorem own_owp {F : Nat → Prop} {h : Heap} (ho : (owp v m).pr F h) : GT.own F h [v] m := own_mapP.2 (.inr ho)
theorem Mem.owp_rep (hm : Mem w0 hz w L) (k : Nat) (hk : L[k]? = some (owp v m)) : GT.rep (hp w) [v] m := by
  obtain ⟨F, hF, _⟩ := hm.get k hk
  exact GT.own_rep (own_owp hF)
theorem owp_form (hm : Mem w0 hz w L) (k : Nat) (hk : L[k]? = some (owp v m)) : ∃ r, v = .map (some r) := by
  obtain ⟨F, ⟨r, h, _⟩, _⟩ := hm.get k hk
  exact ⟨r, h⟩
theorem e_mkP (hm : Mem w0 hz w L) (ho : o.op = .makeMap t none) : Ef P a w o (fun v w' => Mem w0 hz w' (owp v (MapP.mk0 : MapP β) :: L)) :=
  ef_value (w' := w.alloc (.map #[] 0)) (v := .map (some w.heap.size)) (by simp [execOp, ho, Instr.makeMap])
    (hm.more ⟨rfl, rfl, rfl, by simp⟩ (fun b hb => Below.heap_alloc w _ b hb) ⟨fun b => b = w.heap.size, fun b hb => by subst hb; simp, ⟨_, rfl, rfl, #[], 0, heap_alloc_new w _, by simp [MapP.mk0]⟩⟩)

theorem e_insP {key : Int × Int} {u : β} {b : Bool} (k : Nat) (hK : PairK P kt) (ht : P.underlying t = some (.map kt vt)) (hf : Fr n l a) (hm : Mem w0 hz w L) (hk : L[k]? = some (owp v m)) (ho : o.op = if b then .insert t x y z else .mapUpdate t x y z)
    (hx : ev l x = some v) (hy : ev l y = some (pairE key)) (hv : ev l z = some (MV.venc u)) : Ef P a w o (fun _ w' => Mem w0 hz w' (L.set k (owp v (m.ins key u)))) := by
  obtain ⟨r, rfl⟩ := owp_form hm k hk
  obtain ⟨F0, ⟨r', hr', hF0, E, clock, h1, h3⟩, _⟩ := hm.get k hk
  cases hr'
  obtain ⟨E', clock', h5, h7⟩ := run_insP (u := u) hK ht h1 h3 (key := key)
  have hlt := (Array.getElem?_eq_some_iff.1 h1).1
  refine ef_skip (w' := { w with heap := w.heap.setIfInBounds r (.map E' clock') }) ?_ ?_
  · cases b <;> simp [execOp, ho, hf.eval hx, hf.eval hy, hf.eval hv, h5]
  · refine hm.upd k hk ⟨rfl, rfl, rfl, by simp⟩ fun F hF hFw => ?_
    obtain ⟨r'', hr'', hF1, _⟩ := hF
    cases hr''
    refine ⟨F, fun _ h => .inl h, fun c hc => by simpa using hFw c hc, ⟨r, rfl, hF1, E', clock', ?_, h7⟩, fun c _ hne => ?_⟩
    · simp [hp, hlt]
    · have : r ≠ c := fun e => hne (by subst e; exact hF1)
      simp [Array.getElem?_setIfInBounds, this]
end
end Go.Wk
