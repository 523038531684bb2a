/- A part of a proof: general laws of walks, no statement of the seat. -/
import Derived.Test.YtkopacpickeojaaGreatDoorWkY
import Derived.Maps.RangeRun
import Derived.Shelf.Sort.Plain
import Derived.Shelf.Slices.In.SortNone
import Derived.Shelf.Slices.CompactI
import Derived.Lib.RowBridge
import Derived.Test.YtkopacpickeojaaGreatDoorWkA
import Derived.Shelf.Strings.FuncGrows
import Derived.Shelf.Strconv.Atoi
import Derived.Shelf.Strconv.Itoa3
import Derived.Shelf.Strings.Search3
import Derived.Shelf.Strings.OnBuilder
import Derived.Laws.StructEq
import Derived.Test.YtkopacpickeojaaGreatDoorWkS
import Derived.OpenShut
import Derived.Deep.DeepHandedRow
import Derived.Lib.LaidTab
import Derived.OpenVars
import Derived.WideKeyElems2
namespace Go.Wk
open Go Go.RowKit
structure ni (β : Type) where
 es : List (Int × β)
 so : es.Pairwise (fun a b => a.1 < b.1)
 deriving DecidableEq
instance {β : Type} : Inhabited (ni β) := ⟨⟨[], .nil⟩⟩
namespace ni
variable {β : Type}
def get (m : ni β) (k : Int) : Option β := rT m.es k
def mk0 : ni β := ⟨[], .nil⟩
def ins (m : ni β) (k : Int) (v : β) : ni β :=
 ⟨m.es.filter (fun p => decide (p.1 < k)) ++ (k, v) :: m.es.filter (fun p => decide (k < p.1)), by
  refine List.pairwise_append.2 ⟨m.so.filter _, List.pairwise_cons.2 ⟨fun p hp => by simpa using (List.mem_filter.1 hp).2, m.so.filter _⟩, fun a ha b hb => ?_⟩
  have h1 : a.1 < k := by simpa using (List.mem_filter.1 ha).2
  rcases List.mem_cons.1 hb with e | hb
  ·subst e; exact h1
  ·have h2 : k < b.1 := by simpa using (List.mem_filter.1 hb).2
   omega⟩
def del (m : ni β) (k : Int) : ni β := ⟨m.es.filter (fun p => decide (p.1 ≠ k)), m.so.filter _⟩
def keys (m : ni β) : List Int := m.es.map (·.1)
def len (m : ni β) : Int := (m.es.length : Int)
theorem nodup (m : ni β) : (m.es.map (·.1)).Nodup := by
 refine (List.pairwise_map.2 (m.so.imp ?_))
 intro a b h
 show a.1 ≠ b.1
 omega
end ni
section
variable {β : Type}
theorem s7 {es : List (Int × β)} (hn : (es.map (·.1)).Nodup) {k : Int} {v : β} : rT es k = some v ↔ (k, v) ∈ es := by
 unfold rT
 constructor
 ·intro h
  cases hq : pW k es 0 with
  | none => rw [hq] at h; simp at h
  | some q =>
   obtain ⟨i, u⟩ := q
   rw [hq] at h
   simp at h
   subst h
   obtain ⟨_, h3⟩ := sF hq
   exact List.mem_of_getElem? h3
 ·intro h
  cases hq : pW k es 0 with
  | none => exact absurd rfl (vf.1 hq _ h)
  | some q =>
   obtain ⟨i, u⟩ := q
   obtain ⟨_, h3⟩ := sF hq
   have h4 := List.mem_of_getElem? h3
   simp only [Option.map_some, osI]
   have key : ∀ (l : List (Int × β)), (l.map (·.1)).Nodup → (k, u) ∈ l → (k, v) ∈ l → u = v := by
    intro l
    induction l with
    | nil => intro _ h; simp at h
    | cons p l ih =>
     intro hn h1 h2
     rw [List.map_cons, List.nodup_cons] at hn
     rcases List.mem_cons.1 h1 with e1 | e1 <;> rcases List.mem_cons.1 h2 with e2 | e2
     ·rw [← e1] at e2; simpa using e2.symm
     ·exact absurd (List.mem_map.2 ⟨_, e2, rfl⟩) (by rw [← e1] at hn; exact hn.1)
     ·exact absurd (List.mem_map.2 ⟨_, e1, rfl⟩) (by rw [← e2] at hn; exact hn.1)
     ·exact ih hn.2 e1 e2
   exact key es hn h4 h
theorem aq6 {es es' : List (Int × β)} (hp : es'.Perm es) (hn : (es.map (·.1)).Nodup) (k : Int) : rT es' k = rT es k := by
 have hn' : (es'.map (·.1)).Nodup := (hp.map _).nodup_iff.2 hn
 cases h : rT es k with
 | none =>
  cases h' : rT es' k with
  | none => rfl
  | some v => rw [s7 hn'] at h'; rw [(s7 hn).2 (hp.mem_iff.1 h')] at h; cases h
 | some v => rw [s7 hn] at h; rw [s7 hn']; exact hp.mem_iff.2 h
end
class MV (β : Type) where
 venc : β → Value
 inj : ∀ a b, venc a = venc b → a = b
instance : MV Bool := ⟨.bool, fun a b h => by simpa using h⟩
instance : MV Int := ⟨.int .i64, fun a b h => by simpa using h⟩
def au7 {β : Type} [MV β] (h : kX) (r : Nat) (m : ni β) : Prop :=
 ∃ (E : Array MapEntry) (clock : Nat) (es : List (Int × β)), h r = some (.map E clock) ∧ MapKept.Stamped E clock ∧ E.toList.map (fun e => (e.key, e.val)) = es.map (fun p : Int × β => (Value.int .i64 p.1, MV.venc p.2)) ∧ es.Perm m.es
instance {β : Type} [MV β] : GT (ni β) where
 sz := 1
 rep h cs m := ∃ v, cs = [v] ∧ ((v = .map none ∧ m.es = []) ∨ ∃ r, v = .map (some r) ∧ au7 h r m)
 own F h cs m := ∃ v, cs = [v] ∧ ((v = .map none ∧ m.es = []) ∨ ∃ r, v = .map (some r) ∧ F r ∧ au7 h r m)
 len := by rintro h cs m ⟨v, rfl, _⟩; rfl
 mono := by
  rintro h h' cs m hh ⟨v, rfl, hr⟩
  refine ⟨v, rfl, ?_⟩
  rcases hr with hr | ⟨r, hv, E, c, es, h1, h2⟩
  ·exact .inl hr
  ·exact .inr ⟨r, hv, E, c, es, hh _ _ h1, h2⟩
 own_rep := by
  rintro F h cs m ⟨v, rfl, hr⟩
  refine ⟨v, rfl, ?_⟩
  rcases hr with hr | ⟨r, hv, _, h1⟩
  ·exact .inl hr
  ·exact .inr ⟨r, hv, h1⟩
 own_loc := by
  rintro F h h' cs m ⟨v, rfl, hr⟩ hh
  refine ⟨v, rfl, ?_⟩
  rcases hr with hr | ⟨r, hv, hF, E, c, es, h1, h2⟩
  ·exact .inl hr
  ·exact .inr ⟨r, hv, hF, E, c, es, (hh r hF).trans h1, h2⟩
 own_mono := by
  rintro F F' h cs m hF ⟨v, rfl, hr⟩
  refine ⟨v, rfl, ?_⟩
  rcases hr with hr | ⟨r, hv, h1, h2⟩
  ·exact .inl hr
  ·exact .inr ⟨r, hv, hF r h1, h2⟩
 one := by
  rintro h cs m ⟨v, rfl, hr⟩ u hu
  simp at hu
  subst hu
  rcases hr with ⟨rfl, _⟩ | ⟨r, rfl, _⟩ <;> rfl
section
variable {β : Type} [MV β] {P : Program} {a : Act} {w w0 : World} {hz : kX} {L : List Ch} {o : Oper} {n : Nat} {l : Env} {x y z : Operand} {t kt vt : TypeId} {r : Nat} {m : ni β} {v : Value}
theorem ah2 {h : kX} : GT.rep h [v] m ↔ ((v = .map none ∧ m.es = []) ∨ ∃ r, v = .map (some r) ∧ au7 h r m) := by
 constructor
 ·rintro ⟨u, hu, hr⟩; simp at hu; subst hu; exact hr
 ·intro hr; exact ⟨v, rfl, hr⟩
theorem br3 {key : Int} {zv : Value} (hK : P.underlying kt = some (.int .i64)) (ht : P.underlying t = some (.map kt vt)) (hz0 : ∀ w, (zeroValue vt).run P w = .ok zv w) (hr : GT.rep (hp w) [v] m) (ho : o.op = .lookup t x y false)
  (hx : ev l x = some v) (hy : ev l y = some (.int .i64 key)) : Yl P l w o ((m.get key).elim zv MV.venc) := fun n a hf => by
 rcases ah2.1 hr with ⟨rfl, he⟩ | ⟨r, rfl, E, clock, es, h1, h2, h3, h4⟩
 ·have hc := (zJ hK).check 9999 true key w
  have hf2 := vc (venc := MV.venc (β := β)) (zJ hK) (E := []) (es := []) rfl key w
  simp only [execOp, ho, hf.eval hx, hf.eval hy, Instr.lookup]
  simp [run_underlying ht, hc, hf2, hz0, ni.get, he, rT, pW]
 ·have hf2 := vc (zJ hK) h3 key w
  have hc := (zJ hK).check 9999 E.isEmpty key w
  simp only [execOp, ho, hf.eval hx, hf.eval hy, Instr.lookup]
  simp [run_underlying ht, MapKept.run_getObj_map h1, hc, hf2]
  unfold ni.get
  rw [← aq6 h4 m.nodup]
  unfold rT
  cases pW key es 0 with
  | none => simp [hz0]
  | some q => simp
def owm (v : Value) (m : ni β) : Ch where
 pr F h := ∃ r, v = .map (some r) ∧ F r ∧ au7 h r m
 loc := fun F h h' ⟨r, hv, hF, E, c, es, h1, h2⟩ hh => ⟨r, hv, hF, E, c, es, (hh r hF).trans h1, h2⟩
 mono := fun F F' h ⟨r, hv, h1, h2⟩ hF => ⟨r, hv, hF r h1, h2⟩
end
end Go.Wk
namespace Go.Wk
open Go Go.RowKit
def oc (b : Nat) (o : Obj) : Ch where
 pr F h := F b ∧ h b = some o
 loc _ _ _ hp hh := ⟨hp.1, (hh b hp.1).trans hp.2⟩
 mono _ _ _ hp hF := ⟨hF b hp.1, hp.2⟩
section
variable {α S : Type}
def pZ (body : α → S → Option S) : List α → S → Option S
 | [], s => some s
 | p :: es, s => Option.bind (body p s) (pZ body es)
def ch2 (body : α → S → Option S) : Prop := ∀ p q s, Option.bind (body p s) (body q) = Option.bind (body q s) (body p)
theorem tH {body : α → S → Option S} : ∀ (es fs : List α) (s : S), pZ body (es ++ fs) s = Option.bind (pZ body es s) (pZ body fs)
 | [], fs, s => rfl
 | p :: es, fs, s => by
  simp only [List.cons_append, pZ]
  cases body p s with
  | none => rfl
  | some t => exact tH es fs t
end
theorem aw8 (E : Array MapEntry) (seen : Array Nat) (b : Nat) : (leftOf E (seen.push b)).toList = ((leftOf E seen).toList).filter (fun x => x.born != b) := by
 unfold leftOf
 simp only [Array.toList_filter, List.filter_filter]
 apply List.filter_congr
 intro x _
 rw [Bool.eq_iff_iff]
 simp
 exact And.comm
theorem xe {e : MapEntry} : ∀ {l : List MapEntry}, (l.map (·.born)).Nodup → e ∈ l → l.Perm (e :: l.filter (fun x => x.born != e.born))
 | [], _, h => by simp at h
 | x :: l, hn, h => by
  rw [List.map_cons, List.nodup_cons] at hn
  rcases List.mem_cons.1 h with rfl | h
  ·have : l.filter (fun x => x.born != e.born) = l := List.filter_eq_self.2 fun y hy => by
    have : y.born ≠ e.born := fun h' => hn.1 (List.mem_map.2 ⟨y, hy, h'⟩)
    simpa using this
   simp [this]
  ·have hne : x.born ≠ e.born := fun h' => hn.1 (List.mem_map.2 ⟨e, h, h'.symm⟩)
   rw [List.filter_cons, if_pos (by simpa using hne)]
   exact ((xe hn.2 h).cons x).trans (List.Perm.swap _ _ _)
section
variable {β S : Type} [MV β]
noncomputable def dec (e : MapEntry) (z : Int × β) : Int × β := by
 classical exact if h : ∃ p : Int × β, (e.key, e.val) = (Value.int .i64 p.1, MV.venc p.2) then h.choose else z
theorem an5 {e : MapEntry} {z p : Int × β} (h : (e.key, e.val) = (Value.int .i64 p.1, MV.venc p.2)) : dec e z = p := by
 have hex : ∃ p : Int × β, (e.key, e.val) = (Value.int .i64 p.1, MV.venc p.2) := ⟨p, h⟩
 unfold dec
 rw [dif_pos hex]
 have h2 := h.symm.trans hex.choose_spec
 generalize hex.choose = q at h2 ⊢
 simp only [Prod.mk.injEq, Value.int.injEq, true_and] at h2
 exact Prod.ext h2.1.symm (MV.inj _ _ h2.2.symm)
end
section
variable {β S : Type} [MV β] {P : Program} {ops : Array Oper} {a : Act} {w w0 : World} {hz : kX} {L : List Ch} {o : Oper} {n d : Nat} {l : Env} {x : Operand} {t kt vt ty : TypeId} {v : Value} {m : ni β} {b : Nat} {seen : Array Nat}
def itc (hz : kX) (v : Value) (b : Nat) (seen : Array Nat) : Ch where
 pr F h := F b ∧ ((v = .map none ∧ h b = some (.mapIter none 0 seen 0)) ∨ ∃ r E clock, v = .map (some r) ∧ hz r = some (.map E clock) ∧ h b = some (.mapIter (some r) clock seen clock))
 loc F h h' hp hh := ⟨hp.1, by rw [hh b hp.1]; exact hp.2⟩
 mono F F' h hp hF := ⟨hF b hp.1, hp.2⟩
theorem bh2 (hf : Fr n l a) (hm : Mem w0 hz w L) (ht : P.underlying t = some (.map kt vt)) (hr : GT.rep hz [v] m) (ho : o.op = .range t x) (hx : ev l x = some v) :
  Ef P a w o (fun v' w' => ∃ b, v' = .pointer (some ⟨b, 0, none⟩) ∧ Mem w0 hz w' (itc hz v b #[] :: L)) := by
 rcases ah2.1 hr with ⟨rfl, he⟩ | ⟨r, rfl, E, clock, es, h1, h2, h3, h4⟩
 ·refine pw (w' := w.alloc (.mapIter none 0 #[] 0)) (v := .pointer (some ⟨w.heap.size, 0, none⟩)) ?_ ⟨_, rfl, hm.more ⟨rfl, rfl, rfl, by simp⟩ (fun b hb => Below.heap_alloc w _ b hb) ⟨fun b => b = w.heap.size, fun b hb => by subst hb; simp, rfl, .inl ⟨rfl, heap_alloc_new w _⟩⟩⟩
  simp [execOp, ho, hf.eval hx, Instr.range, run_underlying ht]
 ·refine pw (w' := w.alloc (.mapIter (some r) clock #[] clock)) (v := .pointer (some ⟨w.heap.size, 0, none⟩)) ?_ ⟨_, rfl, hm.more ⟨rfl, rfl, rfl, by simp⟩ (fun b hb => Below.heap_alloc w _ b hb) ⟨fun b => b = w.heap.size, fun b hb => by subst hb; simp, rfl, .inr ⟨r, E, clock, rfl, h1, heap_alloc_new w _⟩⟩⟩
  have hb : w.heap[r]? = some (.map E clock) := hm.lez _ _ h1
  simp [execOp, ho, hf.eval hx, Instr.range, run_underlying ht, MapKept.run_getObj_map hb]
def cd0 (hz : kX) (v : Value) (seen : Array Nat) (body : Int × β → S → Option S) (s : S) : Prop :=
 ∃ r E clock, v = .map (some r) ∧ hz r = some (.map E clock) ∧ MapKept.Stamped E clock ∧ (leftOf E seen).size ≠ 0 ∧ ∀ e ∈ (leftOf E seen).toList, ∃ p s', (e.key, e.val) = (Value.int .i64 p.1, MV.venc p.2) ∧ body p s = some s'
def be9 (hz : kX) (v : Value) (seen : Array Nat) : Prop :=
 v = .map none ∨ ∃ r E clock, v = .map (some r) ∧ hz r = some (.map E clock) ∧ MapKept.Stamped E clock ∧ (leftOf E seen).size = 0
def Got (hz : kX) (v : Value) (seen : Array Nat) (bn : Nat) (p : Int × β) : Prop :=
 ∃ r E clock e, v = .map (some r) ∧ hz r = some (.map E clock) ∧ MapKept.Stamped E clock ∧ e ∈ (leftOf E seen).toList ∧ bn = e.born ∧ (e.key, e.val) = (Value.int .i64 p.1, MV.venc p.2)
def Rnd (hz : kX) (v : Value) (seen : Array Nat) (body : Int × β → S → Option S) (s : S) (J : Array Nat → S → Act → World → Prop) (a : Act) (w : World) : Prop :=
 ∃ bn p s', Got hz v seen bn p ∧ body p s = some s' ∧ J (seen.push bn) s' a w
theorem ap0 (hm : Mem w0 hz w L) (q : Nat) (hq : L[q]? = some (itc hz v b seen)) : (v = .map none ∧ w.heap[b]? = some (.mapIter none 0 seen 0)) ∨ ∃ r E clock, v = .map (some r) ∧ hz r = some (.map E clock) ∧ w.heap[r]? = some (.map E clock) ∧ w.heap[b]? = some (.mapIter (some r) clock seen clock) := by
 obtain ⟨F, hF, _⟩ := hm.get q hq
 rcases hF.2 with h | ⟨r, E, clock, h1, h2, h3⟩
 ·exact .inl h
 ·exact .inr ⟨r, E, clock, h1, h2, hm.lez _ _ h2, h3⟩
theorem bp5 {body : Int × β → S → Option S} {s : S} (q : Nat) (hf : Fr n l a) (hm : Mem w0 hz w L) (hq : L[q]? = some (itc hz v b seen)) (hmo : cd0 hz v seen body s) (ho : o.op = .next x false) (hx : ev l x = some (.pointer (some ⟨b, 0, none⟩))) :
  Ef P a w o (fun v' w' => ∃ bn p s', v' = .tuple #[.bool true, .int .i64 p.1, MV.venc p.2] ∧ body p s = some s' ∧ Got hz v seen bn p ∧ Mem w0 hz w' (L.set q (itc hz v b (seen.push bn)))) := by
 obtain ⟨r, E, clock, rfl, h1, h2, h3, h4⟩ := hmo
 rcases ap0 hm q hq with ⟨e, _⟩ | ⟨r', E', clock', e, g1, g2, g3⟩
 ·cases e
 cases e
 rw [h1] at g1
 cases g1
 rcases run_next_at (P := P) w o.type b r clock clock seen E clock g3 g2 h2.1 (Nat.le_refl _) with ⟨h0, _⟩ | ⟨e, he, w1, hw1, hrun⟩
 ·exact absurd h0 h3
 obtain ⟨p, s', hp, hb⟩ := h4 e he
 have hpk : e.key = .int .i64 p.1 := congrArg Prod.fst hp
 have hpv : e.val = MV.venc p.2 := congrArg Prod.snd hp
 refine pw (v := .tuple #[.bool true, e.key, e.val]) (w' := ChangeMaps.setBlock w1 b (.mapIter (some r) clock (seen.push e.born) clock)) (by simp [execOp, ho, hf.eval hx, hrun]) ⟨e.born, p, s', by rw [hpk, hpv], hb, ⟨r, E, clock, e, rfl, h1, h2, he, rfl, hp⟩, ?_⟩
 have hlt := (Array.getElem?_eq_some_iff.1 g3).1
 have hheap : w1.heap = w.heap := by rcases hw1 with rfl | rfl <;> rfl
 have hsame : rW w (ChangeMaps.setBlock w1 b (.mapIter (some r) clock (seen.push e.born) clock)) :=
  ⟨by rcases hw1 with h | h <;> rw [h] <;> rfl, by rcases hw1 with h | h <;> rw [h] <;> rfl, by rcases hw1 with h | h <;> rw [h] <;> rfl, by simp [ChangeMaps.setBlock, hheap]⟩
 refine hm.upd q hq hsame fun F hF hFw => ⟨F, fun _ h => .inl h, fun c hc => by have := hFw c hc; simpa [ChangeMaps.setBlock, hheap] using this, ⟨hF.1, .inr ⟨r, E, clock, rfl, h1, ?_⟩⟩, fun c _ hne => ?_⟩
 ·simp [hp, ChangeMaps.setBlock, hheap, hlt, Go.Wk.hp]
 ·have : b ≠ c := fun e => hne (by subst e; exact hF.1)
  simp [ChangeMaps.setBlock, hheap, Array.getElem?_setIfInBounds, this]
theorem bq4 (q : Nat) (hm : Mem w0 hz w L) (hq : L[q]? = some (itc hz v b seen)) (hno : be9 hz v seen) (ho : o.op = .next x false) (hx : ev l x = some (.pointer (some ⟨b, 0, none⟩))) : Yl P l w o (.tuple #[.bool false]) := fun n a hf => by
 rcases ap0 hm q hq with ⟨e, g1⟩ | ⟨r', E', clock', e, g1, g2, g3⟩
 ·have : (Instr.next (.pointer (some ⟨b, 0, none⟩)) false o.type).run P w = .ok (.tuple #[.bool false]) w := by
   simp [Instr.next, getObj, Sem.run_bind, Sem.run, g1, Result.andThen]
  simp [execOp, ho, hf.eval hx, this]
 ·subst e
  rcases hno with e | ⟨r, E, clock, e, h1, h2, h3⟩
  ·cases e
  cases e
  rw [h1] at g1
  cases g1
  rcases run_next_at (P := P) w o.type b _ _ _ seen _ _ g3 g2 h2.1 (Nat.le_refl _) with ⟨_, hrun⟩ | ⟨e, he, _⟩
  ·simp [execOp, ho, hf.eval hx, hrun]
  ·have := Array.eq_empty_of_size_eq_zero h3
   rw [this] at he
   simp at he
theorem bh8 {bn : Nat} {p : Int × β} (q : Nat) (hm : Mem w0 hz w L) (hq : L[q]? = some (itc hz v b (seen.push bn))) (hg : Got hz v seen bn p) (ho : o.op = .entry x) (hx : ev l x = some (.pointer (some ⟨b, 0, none⟩))) : Yl P l w o (.tuple #[.int .i64 p.1, MV.venc p.2]) := fun n a hf => by
 obtain ⟨r, E, clock, e, rfl, h1, h2, h3, rfl, h4⟩ := hg
 rcases ap0 hm q hq with ⟨e, _⟩ | ⟨r', E', clock', e', g1, g2, g3⟩
 ·cases e
 cases e'
 rw [h1] at g1
 cases g1
 have hpk : e.key = .int .i64 p.1 := congrArg Prod.fst h4
 have hpv : e.val = MV.venc p.2 := congrArg Prod.snd h4
 have := run_entry_at (P := P) w b r clock seen E clock e g3 g2 (mem_left h3).1 h2.2.1
 simp [execOp, ho, hf.eval hx, this, hpk, hpv]
variable {ρ : Type} {c : Code} {Q : Exit → Act → World → Prop} {r : ρ} {s0 : S}
theorem gSw {σ τ : Type} {m' : Option σ} {s' : σ} {mm : Option τ} {rr : τ} {φ : Act → World → Prop} (h : m' = some s') (k : G m' s' n l φ w) : G mm rr n l φ w := fun _ a hf => k h a hf
theorem gZr {body : Int × β → S → Option S} {s s2 s' : S} {bn : Nat} {p : Int × β} {J : Array Nat → S → Act → World → Prop} (hg : Got hz v seen bn p) (hb : body p s = some s') (k : ∀ a, Fr n l a → J (seen.push bn) s2 a w) : G (some s2) s' n l (Rnd hz v seen body s J) w := fun e a hf => by
 cases e
 exact ⟨bn, p, s2, hg, hb, k a hf⟩
theorem wq {q e : Nat} {fs : Array Field} {f : Field} {cs : Array Value} {u : Value} (ht : P.underlying t = some (.struct fs)) (hq : fs[q]? = some f) (he : f.type = e) (ha : ∀ w, (isAgg e).run P w = .ok false w) (ho : o.op = .field t x q) (hx : ev l x = some (.agg cs)) (hv : cs[f.offset]? = some u) : Yl P l w o u := fun n a hf => by
 subst he
 simp [execOp, ho, hf.eval hx, Instr.field, run_underlying ht, hq, asAgg, part, ha, hv]
end
end Go.Wk
namespace Go.Wk
open Go Go.RowKit Go.Shelf
def cg1 (xs : List Int) : List Int := xs.mergeSort fun x y => decide (x ≤ y)
section
variable {P : Program} {ρ : Ren} {w0 : World} {hz : kX} {v : Value} {xs : List Int}
end
end Go.Wk
namespace Go.Wk
open Go Go.RowKit
section
variable {β ρ : Type} [MV β] {P : Program} {w0 : World} {hz : kX} {n : Nat} {l : Env} {w : World} {v : Value} {m : ni β} {c : Code} {Q : Exit → Act → World → Prop} {r : ρ}
end
section
variable {β : Type} [MV β] {w0 : World} {hz : kX} {w : World} {L : List Ch} {v : Value} {m : ni β}
end
section
variable {P : Program} {l : Env} {w : World} {o : Oper} {x y : Operand} {t kt vt : TypeId} {v : Value} {key : Int}
end
end Go.Wk
namespace Go.Wk
open Go Go.RowKit
end Go.Wk
namespace Go.Wk
open Go Go.RowKit
abbrev GT.bot (α : Type) (s : Nat) : GT α where
 sz := s
 rep _ _ _ := False
 own _ _ _ _ := False
 len := fun h => h.elim
 mono := fun _ h => h
 own_rep := fun h => h
 own_loc := fun h _ => h
 own_mono := fun _ h => h
 one := fun h => h.elim
structure GT.le {α : Type} (i j : GT α) : Prop where
 sz : i.sz = j.sz
 rep : ∀ {h cs x}, i.rep h cs x → j.rep h cs x
 own : ∀ {F h cs x}, i.own F h cs x → j.own F h cs x
structure Ctn {α β : Type} (g : GT α → GT β) : Prop where
 mono : ∀ {i j : GT α}, i.le j → (g i).le (g j)
 rep : ∀ (u : Nat → GT α) (l : GT α), (∀ n, (u n).le (u (n + 1))) → (∀ n, (u n).le l) → (∀ h cs x, l.rep h cs x → ∃ n, (u n).rep h cs x) → (∀ F h cs x, l.own F h cs x → ∃ n, (u n).own F h cs x) →
  ∀ {h cs x}, (g l).rep h cs x → ∃ n, (g (u n)).rep h cs x
 own : ∀ (u : Nat → GT α) (l : GT α), (∀ n, (u n).le (u (n + 1))) → (∀ n, (u n).le l) → (∀ h cs x, l.rep h cs x → ∃ n, (u n).rep h cs x) → (∀ F h cs x, l.own F h cs x → ∃ n, (u n).own F h cs x) →
  ∀ {F h cs x}, (g l).own F h cs x → ∃ n, (g (u n)).own F h cs x
theorem GT.le.refl {α : Type} (i : GT α) : i.le i := ⟨rfl, fun h => h, fun h => h⟩
theorem GT.le.trans {α : Type} {i j k : GT α} (h : i.le j) (h' : j.le k) : i.le k := ⟨h.sz.trans h'.sz, fun x => h'.rep (h.rep x), fun x => h'.own (h.own x)⟩
theorem wx {α : Type} {u : Nat → GT α} (h : ∀ n, (u n).le (u (n + 1))) {n m : Nat} (hnm : n ≤ m) : (u n).le (u m) := by
 induction m with
 | zero => rw [Nat.le_zero.1 hnm]; exact GT.le.refl _
 | succ m ih =>
  rcases Nat.lt_or_eq_of_le hnm with h1 | rfl
  ·exact (ih (by omega)).trans (h m)
  ·exact GT.le.refl _
theorem sQ {α β : Type} (b : GT β) : Ctn (α := α) fun _ => b := ⟨fun _ => GT.le.refl _, fun _ _ _ _ _ _ => fun h => ⟨0, h⟩, fun _ _ _ _ _ _ => fun h => ⟨0, h⟩⟩
theorem aq3 {α : Type} : Ctn (α := α) fun i => i := ⟨fun h => h, fun _ _ _ _ h _ => fun x => h _ _ _ x, fun _ _ _ _ _ h => fun x => h _ _ _ _ x⟩
theorem zU {p : Nat → Nat → Prop} (hm : ∀ i n m, n ≤ m → p i n → p i m) : ∀ (k : Nat), (∀ i, i < k → ∃ n, p i n) → ∃ n, ∀ i, i < k → p i n
 | 0, _ => ⟨0, fun i h => by omega⟩
 | k + 1, h => by
  obtain ⟨n, hn⟩ := zU hm k fun i hi => h i (by omega)
  obtain ⟨m, hk⟩ := h k (by omega)
  refine ⟨max n m, fun i hi => ?_⟩
  rcases Nat.lt_or_eq_of_le (Nat.le_of_lt_succ hi) with h1 | rfl
  ·exact hm i n _ (Nat.le_max_left _ _) (hn i h1)
  ·exact hm i m _ (Nat.le_max_right _ _) hk
theorem bq5 {α : Type} {i j : GT α} (h : i.le j) : (@instGTList α i).le (@instGTList α j) := by
 refine ⟨rfl, ?_, ?_⟩
 ·rintro hh cs x ⟨v, hv, hr⟩
  refine ⟨v, hv, ?_⟩
  rcases hr with hr | ⟨b, off, len, cap, h1, h2, h3, h4, h5⟩
  ·exact .inl hr
  ·refine .inr ⟨b, off, len, cap, h1, h2, h3, h4, fun k y hy => ?_⟩
   obtain ⟨cs, c1, c2⟩ := h5 k y hy
   exact ⟨cs, h.sz ▸ c1, h.rep c2⟩
 ·rintro F hh cs x ⟨v, hv, hr⟩
  refine ⟨v, hv, ?_⟩
  rcases hr with hr | ⟨b, off, len, cap, C, T, h1, h2, h3, h4, h5, h6, h7, fps, h8, h9, h10⟩
  ·exact .inl hr
  ·exact .inr ⟨b, off, len, cap, C, T, h1, h2, h3, h4, h5, h6, h.sz ▸ h7, fps, h8, h9, fun k y hy => h.sz ▸ h.own (h10 k y hy)⟩
theorem zw {α β : Type} {g : GT α → GT β} (hg : Ctn g) : Ctn (fun i => @instGTList β (g i)) := by
 refine ⟨fun h => bq5 (hg.mono h), fun u l hu hl hr ho => ?_, fun u l hu hl hr ho => ?_⟩
 ·have hc : ∀ {n m : Nat}, n ≤ m → (g (u n)).le (g (u m)) := fun h => hg.mono (wx hu h)
  rintro h cs x ⟨v, hv, hx⟩
  rcases hx with hx | ⟨b, off, len, cap, h1, h2, h3, h4, h5⟩
  ·exact ⟨0, v, hv, .inl hx⟩
  ·obtain ⟨n, hn⟩ := zU (p := fun k n => ∀ y, x[k]? = some y → ∃ cs, lq h b (off + k * (g l).sz) cs ∧ (g (u n)).rep h cs y)
    (fun k n m hnm hp y hy => let ⟨cs, c1, c2⟩ := hp y hy; ⟨cs, c1, (hc hnm).rep c2⟩) x.length (fun k hk => by
     obtain ⟨cs, c1, c2⟩ := h5 k _ (List.getElem?_eq_getElem hk)
     obtain ⟨n, hn⟩ := hg.rep u l hu hl hr ho c2
     exact ⟨n, fun y hy => by rw [List.getElem?_eq_getElem hk] at hy; cases hy; exact ⟨cs, c1, hn⟩⟩)
   refine ⟨n, v, hv, .inr ⟨b, off, len, cap, h1, h2, h3, h4, fun k y hy => ?_⟩⟩
   obtain ⟨cs, c1, c2⟩ := hn k (lgE.1 hy).1 y hy
   exact ⟨cs, (hg.mono (hl n)).sz ▸ c1, c2⟩
 ·have hc : ∀ {n m : Nat}, n ≤ m → (g (u n)).le (g (u m)) := fun h => hg.mono (wx hu h)
  rintro F h cs x ⟨v, hv, hx⟩
  rcases hx with hx | ⟨b, off, len, cap, C, T, h1, h2, h3, h4, h5, h6, h7, fps, h8, h9, h10⟩
  ·exact ⟨0, v, hv, .inl hx⟩
  ·obtain ⟨n, hn⟩ := zU (p := fun k n => ∀ y, x[k]? = some y → (g (u n)).own (fps k) h (seg C (off + k * (g l).sz) (g l).sz) y)
    (fun k n m hnm hp y hy => (hc hnm).own (hp y hy)) x.length (fun k hk => by
     obtain ⟨n, hn⟩ := hg.own u l hu hl hr ho (h10 k _ (List.getElem?_eq_getElem hk))
     exact ⟨n, fun y hy => by rw [List.getElem?_eq_getElem hk] at hy; cases hy; exact hn⟩)
   have hs := (hg.mono (hl n)).sz
   refine ⟨n, v, hv, .inr ⟨b, off, len, cap, C, T, h1, h2, h3, h4, h5, h6, hs ▸ h7, fps, h8, h9, fun k y hy => ?_⟩⟩
   have := hn k (lgE.1 hy).1 y hy
   show (g (u n)).own (fps k) h (seg C (off + k * (g (u n)).sz) (g (u n)).sz) y
   rw [hs]; exact this
theorem s6 {α β γ : Type} {g : GT α → GT β} {k : GT α → GT γ} (hg : Ctn g) (hk : Ctn k) : Ctn (fun i => @instGTProd β γ (g i) (k i)) := by
 refine ⟨fun h => ⟨?_, ?_, ?_⟩, fun u l hu hl hr ho => ?_, fun u l hu hl hr ho => ?_⟩
 ·show (g _).sz + (k _).sz = _
  rw [(hg.mono h).sz, (hk.mono h).sz]; rfl
 ·rintro hh cs p ⟨c, d, rfl, h1, h2⟩
  exact ⟨c, d, rfl, (hg.mono h).rep h1, (hk.mono h).rep h2⟩
 ·rintro F hh cs p ⟨c, d, rfl, G, H, a1, a2, a3, h1, h2⟩
  exact ⟨c, d, rfl, G, H, a1, a2, a3, (hg.mono h).own h1, (hk.mono h).own h2⟩
 ·rintro h cs p ⟨c, d, rfl, h1, h2⟩
  obtain ⟨n, hn⟩ := hg.rep u l hu hl hr ho h1
  obtain ⟨m, hm⟩ := hk.rep u l hu hl hr ho h2
  exact ⟨max n m, c, d, rfl, (hg.mono (wx hu (Nat.le_max_left n m))).rep hn, (hk.mono (wx hu (Nat.le_max_right n m))).rep hm⟩
 ·rintro F h cs p ⟨c, d, rfl, G, H, a1, a2, a3, h1, h2⟩
  obtain ⟨n, hn⟩ := hg.own u l hu hl hr ho h1
  obtain ⟨m, hm⟩ := hk.own u l hu hl hr ho h2
  exact ⟨max n m, c, d, rfl, G, H, a1, a2, a3, (hg.mono (wx hu (Nat.le_max_left n m))).own hn, (hk.mono (wx hu (Nat.le_max_right n m))).own hm⟩
section
variable {α β : Type} (s : Nat) (f : α → β) (g : GT α → GT β) (hs : ∀ i : GT α, (g i).sz = s)
abbrev GT.it (hs : ∀ i : GT α, (g i).sz = s) : Nat → GT α
  | 0 => GT.bot α s
  | n + 1 =>
    { sz := s
      rep := fun h cs x => (g (GT.it hs n)).rep h cs (f x)
      own := fun F h cs x => (g (GT.it hs n)).own F h cs (f x)
      len := fun h => ((g (GT.it hs n)).len h).trans (hs _)
      mono := fun hh h => (g (GT.it hs n)).mono hh h
      own_rep := fun h => (g (GT.it hs n)).own_rep h
      own_loc := fun h hh => (g (GT.it hs n)).own_loc h hh
      own_mono := fun hF h => (g (GT.it hs n)).own_mono hF h
      one := fun h => (g (GT.it hs n)).one h }
abbrev GT.lim : GT α where
 sz := s
 rep h cs x := ∃ n, (GT.it s f g hs n).rep h cs x
 own F h cs x := ∃ n, (GT.it s f g hs n).own F h cs x
 len := by
  rintro h cs x ⟨n, hn⟩
  cases n with
  | zero => exact hn.elim
  | succ n => exact ((g (GT.it s f g hs n)).len hn).trans (hs _)
 mono := by rintro h h' cs x hh ⟨n, hn⟩; exact ⟨n, (GT.it s f g hs n).mono hh hn⟩
 own_rep := by rintro F h cs x ⟨n, hn⟩; exact ⟨n, (GT.it s f g hs n).own_rep hn⟩
 own_loc := by rintro F h h' cs x ⟨n, hn⟩ hh; exact ⟨n, (GT.it s f g hs n).own_loc hn hh⟩
 own_mono := by rintro F F' h cs x hF ⟨n, hn⟩; exact ⟨n, (GT.it s f g hs n).own_mono hF hn⟩
 one := by rintro h cs x ⟨n, hn⟩; exact (GT.it s f g hs n).one hn
variable {s f g hs} (hc : Ctn g)
include hc
theorem au6 : ∀ n, (GT.it s f g hs n).le (GT.it s f g hs (n + 1))
 | 0 => ⟨rfl, fun h => h.elim, fun h => h.elim⟩
 | n + 1 => ⟨rfl, fun h => (hc.mono (au6 n)).rep h, fun h => (hc.mono (au6 n)).own h⟩
omit hc in
theorem ca7 : ∀ n, (GT.it s f g hs n).sz = s
 | 0 => rfl
 | _ + 1 => rfl
omit hc in
theorem ae3 (n : Nat) : (GT.it s f g hs n).le (GT.lim s f g hs) := ⟨ca7 n, fun h => ⟨n, h⟩, fun h => ⟨n, h⟩⟩
theorem as8 {h : kX} {cs : List Value} {x : α} : (GT.lim s f g hs).rep h cs x ↔ (g (GT.lim s f g hs)).rep h cs (f x) := by
 constructor
 ·rintro ⟨n, hn⟩
  cases n with
  | zero => exact hn.elim
  | succ n => exact (hc.mono (ae3 n)).rep hn
 ·intro hr
  obtain ⟨n, hn⟩ := hc.rep (GT.it s f g hs) (GT.lim s f g hs) (au6 hc) ae3 (fun _ _ _ h => h) (fun _ _ _ _ h => h) hr
  exact ⟨n + 1, hn⟩
theorem av4 {F : Nat → Prop} {h : kX} {cs : List Value} {x : α} : (GT.lim s f g hs).own F h cs x ↔ (g (GT.lim s f g hs)).own F h cs (f x) := by
 constructor
 ·rintro ⟨n, hn⟩
  cases n with
  | zero => exact hn.elim
  | succ n => exact (hc.mono (ae3 n)).own hn
 ·intro hr
  obtain ⟨n, hn⟩ := hc.own (GT.it s f g hs) (GT.lim s f g hs) (au6 hc) ae3 (fun _ _ _ h => h) (fun _ _ _ _ h => h) hr
  exact ⟨n + 1, hn⟩
end
end Go.Wk
namespace Go.Wk
open Go Go.RowKit
section
variable {β : Type} [MV β] {P : Program} {w : World} {o : Oper} {l : Env} {x y : Operand} {t kt vt : TypeId} {m : ni β} {v v2 : Value} {z : β}
theorem yx {key : Int} {zv : Value} (hK : P.underlying kt = some (.int .i64)) (ht : P.underlying t = some (.map kt vt)) (hz0 : ∀ w, (zeroValue vt).run P w = .ok zv w) (hr : GT.rep (hp w) [v] m) (ho : o.op = .lookup t x y false)
  (hx : ev l x = some v) (hy : ev l y = some (.int .i64 key)) (hz : zv = MV.venc z) (hv : MV.venc ((m.get key).getD z) = v2) : Yl P l w o v2 := by
 have h := br3 hK ht hz0 hr ho hx hy
 have e : (m.get key).elim zv MV.venc = v2 := by
  rw [← hv, hz]
  cases m.get key <;> rfl
 rwa [e] at h
theorem tZ {α : Type} [GT α] {h : kX} {g : Nat} {x : α} (hr : GT.rep h [.slice (some ⟨g, 0, none⟩) 1 1] [x]) (h1 : GT.sz α = 1) : ∃ v, lq h g 0 [v] ∧ GT.rep h [v] x := by
 rcases nF.1 hr with ⟨e | ⟨p, cap, e⟩, e2⟩ | ⟨b', off, len, cap, e, hl, _, _, h3⟩
 ·cases e
 ·cases e2
 ·cases e
  obtain ⟨cs, h4, h5⟩ := h3 0 x rfl
  have hlen := GT.len h5
  rw [h1] at hlen
  match cs, hlen with
  | [v], _ => exact ⟨v, by simpa using h4, h5⟩
end
noncomputable def qk {α S : Type} (body : α → S → Option S) (es : List α) (s : S) : Option S := by
 classical exact if ∀ fs, fs.Perm es → pZ body fs s = pZ body es s then pZ body es s else none
theorem am6 {α S : Type} {body : α → S → Option S} {es : List α} {s r : S} (h : qk body es s = some r) : pZ body es s = some r ∧ ∀ fs, fs.Perm es → pZ body fs s = some r := by
 unfold qk at h
 split at h
 ·rename_i h1; exact ⟨h, fun fs hf => (h1 fs hf).trans h⟩
 ·cases h
theorem aw2 {α S : Type} {body : α → S → Option S} {es : List α} {s r : S} (h : ∀ fs, fs.Perm es → pZ body fs s = some r) : qk body es s = some r := by
 unfold qk
 rw [if_pos fun fs hf => (h fs hf).trans (h es (List.Perm.refl _)).symm]
 exact h es (List.Perm.refl _)
section
variable {β S : Type} [MV β]
theorem ay7 {P : Program} {c : Code} {Q : Exit → Act → World → Prop} {a : Act} {w : World} (body : Int × β → S → Option S) {m : ni β} {E : Array MapEntry} {clock : Nat} {es : List (Int × β)}
  (hst : MapKept.Stamped E clock) (hE : E.toList.map (fun e => (e.key, e.val)) = es.map (fun p => (Value.int .i64 p.1, MV.venc p.2))) (hes : es.Perm m.es) (J : Array Nat → S → Act → World → Prop) {s0 r : S}
  (hperm : ∀ fs, fs.Perm m.es → pZ body fs s0 = some r) (h0 : J #[] s0 a w)
  (hr : ∀ seen s a w, J seen s a w → (leftOf E seen).size ≠ 0 → (∀ e ∈ (leftOf E seen).toList, ∃ p s', (e.key, e.val) = (Value.int .i64 p.1, MV.venc p.2) ∧ body p s = some s') →
   c.wk P (Exit.then (fun a' w' => ∃ e ∈ (leftOf E seen).toList, ∃ p s', (e.key, e.val) = (Value.int .i64 p.1, MV.venc p.2) ∧ body p s = some s' ∧ J (seen.push e.born) s' a' w') Q) a w)
  (he : ∀ seen a w, J seen r a w → (leftOf E seen).size = 0 → c.wk P (Exit.then (fun _ _ => False) Q) a w) : (Code.loop c).wk P Q a w := by
 have hmem : ∀ e ∈ E.toList, ∃ p : Int × β, (e.key, e.val) = (Value.int .i64 p.1, MV.venc p.2) := fun e h => by
  have h1 : (e.key, e.val) ∈ es.map (fun p => (Value.int .i64 p.1, MV.venc p.2)) := by rw [← hE]; exact List.mem_map.2 ⟨e, h, rfl⟩
  obtain ⟨p, _, h2⟩ := List.mem_map.1 h1
  exact ⟨p, h2.symm⟩
 rcases Nat.eq_zero_or_pos E.size with hz | hz
 ·have hE0 : E = #[] := Array.eq_empty_of_size_eq_zero hz
  subst hE0
  have : es = [] := by simpa using hE.symm
  subst this
  have hm0 : m.es = [] := List.nil_perm.1 hes
  have hx := hperm _ (List.Perm.refl _)
  rw [hm0] at hx
  simp only [pZ, osI] at hx
  subst hx
  refine zB (S := Unit) (X := Empty) (fun _ _ => some (.inl ())) (fun _ _ a w => J #[] s0 a w) 0 0 (s0 := ()) (r := .inl ()) rfl h0 (fun _ _ _ _ _ h1 h2 => by omega) (fun _ _ a w hJ _ _ _ => he #[] a w hJ (by simp [leftOf]))
 ·obtain ⟨e0, hl0⟩ : ∃ e, e ∈ E.toList := ⟨E[0], by simp⟩
  obtain ⟨z, _⟩ := hmem e0 hl0
  have hes' : E.toList.map (fun e => dec e z) = es := by
   have h1 : ∀ (l : List MapEntry) (fs : List (Int × β)), l.map (fun e => (e.key, e.val)) = fs.map (fun p => (Value.int .i64 p.1, MV.venc p.2)) → l.map (fun e => dec e z) = fs := by
    intro l
    induction l with
    | nil => intro fs h; simpa using h.symm
    | cons e l ih =>
     intro fs h
     cases fs with
     | nil => simp at h
     | cons p fs =>
      rw [List.map_cons, List.map_cons, List.cons.injEq] at h
      rw [List.map_cons, an5 h.1, ih fs h.2]
   exact h1 _ _ hE
  have hfor : ∀ k (i : Int), forN (S := Unit) (X := Empty) (fun _ _ => some (.inl ())) k i () = some (.inl ()) := by
   intro k
   induction k with
   | zero => intro i; rfl
   | succ k ih => intro i; simp only [forN]; exact ih _
  have hleft : ∀ (seen : Array Nat) e, e ∈ (leftOf E seen).toList → e ∈ E.toList := fun seen e h => (mem_left h).1
  have hnd : ∀ seen : Array Nat, ((leftOf E seen).toList.map (·.born)).Nodup := fun seen => by
   unfold leftOf
   rw [Array.toList_filter]
   exact (List.filter_sublist.map _).nodup hst.2.1
  refine zB (S := Unit) (X := Empty) (fun _ _ => some (.inl ())) (fun i _ a w => ∃ seen s, J seen s a w ∧ ∃ dn : List (Int × β), (dn.length : Int) = i ∧ pZ body dn s0 = some s ∧ (dn ++ (leftOf E seen).toList.map (fun e => dec e z)).Perm m.es) 0 (E.size : Int) (s0 := ()) (r := .inl ()) (hfor _ _) ?_ ?_ ?_
  ·refine ⟨#[], s0, h0, [], rfl, rfl, ?_⟩
   have : (leftOf E #[]).toList = E.toList := by unfold leftOf; rw [Array.toList_filter]; exact List.filter_eq_self.2 fun x _ => by simp
   rw [List.nil_append, this, hes']
   exact hes
  ·rintro i _ a w ⟨seen, s, hJ, dn, h1, h2, h3⟩ hi0 hi1 q hq _
   cases hq
   have hlen := h3.length_eq
   rw [← hes.length_eq, ← hes'] at hlen
   simp at hlen
   have hne : (leftOf E seen).size ≠ 0 := by omega
   have hall : ∀ e ∈ (leftOf E seen).toList, ∃ p s', (e.key, e.val) = (Value.int .i64 p.1, MV.venc p.2) ∧ body p s = some s' := fun e hle => by
    obtain ⟨p, hp⟩ := hmem e (hleft _ _ hle)
    have hp1 := xe (hnd seen) hle
    have hp2 : (dn ++ (p :: ((leftOf E seen).toList.filter (fun x => x.born != e.born)).map (fun e => dec e z))).Perm m.es := by
     refine List.Perm.trans (List.Perm.append_left _ ?_) h3
     have := (hp1.map (fun e => dec e z)).symm
     rw [List.map_cons, an5 hp] at this
     exact this
    have hx2 : pZ body (dn ++ (p :: ((leftOf E seen).toList.filter (fun x => x.born != e.born)).map (fun e => dec e z))) s0 = some r := hperm _ hp2
    rw [tH, h2, obS] at hx2
    simp only [pZ] at hx2
    cases hb : body p s with
    | none => rw [hb] at hx2; cases hx2
    | some s' => exact ⟨p, s', hp, hb⟩
   refine Code.wk_mono (fun ex a' w' h => ?_) (hr seen s a w hJ hne hall)
   cases ex with
   | normal =>
    obtain ⟨e, hle, p, s', hp, hb, hJ'⟩ := h
    refine ⟨(), rfl, seen.push e.born, s', hJ', dn ++ [p], by simp; omega, by rw [tH, h2, obS]; simp [pZ, hb], ?_⟩
    rw [aw8, List.append_assoc]
    refine List.Perm.trans (List.Perm.append_left _ ?_) h3
    have := ((xe (hnd seen) hle).map (fun e => dec e z)).symm
    rw [List.map_cons, an5 hp] at this
    exact this
   | _ => exact h
  ·rintro i _ a w ⟨seen, s, hJ, dn, h1, h2, h3⟩ hi0 hi1 _
   have hlen := h3.length_eq
   rw [← hes.length_eq, ← hes'] at hlen
   simp at hlen
   have hne : (leftOf E seen).size = 0 := by omega
   have hl : (leftOf E seen).toList = [] := by simpa using Array.eq_empty_of_size_eq_zero hne
   rw [hl, List.map_nil, List.append_nil] at h3
   have : s = r := by
    rw [hperm _ h3] at h2
    exact (Option.some.inj h2).symm
   subst this
   exact he seen a w hJ hne
end
section
variable {β S : Type} [MV β] {P : Program} {ops : Array Oper} {a : Act} {w w0 : World} {hz : kX} {L : List Ch} {o : Oper} {n d : Nat} {l : Env} {x : Operand} {t kt vt ty : TypeId} {v : Value} {m : ni β} {b : Nat} {seen : Array Nat}
variable {ρ : Type} {c : Code} {Q : Exit → Act → World → Prop} {r : ρ} {s0 : S}
theorem ca0 {kk : S → Option ρ} {body : Int × β → S → Option S} (hrep : GT.rep hz [v] m) (J : Array Nat → S → Act → World → Prop) (h0 : ∀ a, Fr n l a → J #[] s0 a w)
  (hr : ∀ seen s a w, J seen s a w → cd0 hz v seen body s → c.wk P (xB (Rnd hz v seen body s J) Q) a w)
  (he : ∀ seen s a w, J seen s a w → be9 hz v seen → kk s = some r → c.wk P (xB (fun _ _ => False) Q) a w) : G (Option.bind (qk body m.es s0) kk) r n l ((Code.loop c).wk P Q) w := fun hq a hf => by
 obtain ⟨s1, hx0, hk⟩ := bnd hq
 obtain ⟨hx, hperm⟩ := am6 hx0
 rcases ah2.1 hrep with ⟨rfl, hnil⟩ | ⟨rr, rfl, E, clock, es, h1, h2, h3, h4⟩
 ·rw [hnil] at hx
  simp only [pZ, osI] at hx
  subst hx
  refine zB (S := Unit) (X := Empty) (fun _ _ => some (.inl ())) (fun _ _ a w => J #[] s0 a w) 0 0 (s0 := ()) (r := .inl ()) rfl (h0 a hf) (fun _ _ _ _ _ h1 h2 => by omega) (fun _ _ a w hJ _ _ _ => Code.wk_mono sy (he #[] s0 a w hJ (.inl rfl) hk))
 ·refine ay7 body h2 h3 h4 J hperm (h0 a hf) (fun seen s a w hJ hne hall => ?_) (fun seen a w hJ hz0 => Code.wk_mono sy (he seen s1 a w hJ (.inr ⟨rr, E, clock, rfl, h1, h2, hz0⟩) hk))
  refine Code.wk_mono (fun e a' w' h => ?_) (hr seen s a w hJ ⟨rr, E, clock, rfl, h1, h2, hne, hall⟩)
  cases e with
  | normal =>
   obtain ⟨bn, p, s', ⟨r2, E2, c2, e2, q1, q2, q3, q4, rfl, q6⟩, hb, hJ'⟩ := h
   cases q1
   rw [h1] at q2
   cases q2
   exact ⟨e2, q4, p, s', q6, hb, hJ'⟩
  | _ => exact h
end
end Go.Wk
namespace Go.Wk
open Go Go.RowKit Go.Shelf
def wI (s c : Str) : Option Bool := match c.b with
 | [x] => some (decide (0 ≤ Lib.indexByte s.b x))
 | _ => none
def au2 (s : Str) : Option (Int × Unit) := if s.b.length ≤ 18 then (Lib.atoi s.b).map fun n => (n, ()) else none
def ac4 (n : Int) : Option Str :=
 if h : (Lib.itoa n).length ≤ 140737488355328 then (if -9223372036854775808 ≤ n ∧ n ≤ 9223372036854775807 then some ⟨Lib.itoa n, h⟩ else none) else none
def at0 (xs : List Str) (sep : Str) : Option Str :=
 if h : (Lib.join (xs.map (·.b)) sep.b).length ≤ 140737488355328 then (if xs.length ≤ 140737488355328 then some ⟨Lib.join (xs.map (·.b)) sep.b, h⟩ else none) else none
noncomputable def wm (s : Str) (f : Int → Option Bool) : Option Int := by
 classical exact if ∀ x : Nat, x ≤ 1114111 → (f x).isSome then some (Lib.idxFunc (fun x => (f (x : Int)).getD false) true ⟨s.b.toArray⟩) else none
section
variable {P : Program} {ρ : Ren}
theorem ag1 (Ly : Go.Proofs.Lays.n144 P ρ) (w0 : World) (s c : Str) : mE P (ρ.f 144) [.string ⟨s.b.toArray⟩, .string ⟨c.b.toArray⟩] w0 (wI s c) fun r v w' => v = .bool r ∧ Below w0.heap.size w0 w' := fun r hr => by
 unfold wI at hr
 split at hr
 ·rename_i x hx
  rw [hx]
  cases hr
  refine Calls.mono (Go.Proofs.Any.strings_Contains_one Ly ⟨s.b.toArray⟩ x w0) fun e w' h => ?_
  obtain ⟨rfl, rfl⟩ := h
  exact ⟨rfl, Below.refl _ _⟩
 ·cases hr
theorem bd8 (Ly : Go.Proofs.Lays.n172 P ρ) (w0 : World) (s : Str) : mE P (ρ.f 172) [.string ⟨s.b.toArray⟩] w0 (au2 s) fun r v w' => v = .tuple #[.int .i64 r.1, .nilIface] ∧ Below w0.heap.size w0 w' := fun r hr => by
 unfold au2 at hr
 split at hr
 ·rename_i hl
  obtain ⟨n, hn, rfl⟩ := Option.map_eq_some_iff.1 hr
  refine Calls.mono (Go.Proofs.Any.strconv_Atoi Ly ⟨s.b.toArray⟩ n (by show s.b.toArray.size ≤ 18; simpa using hl) (by simpa using hn) w0) fun e w' h => ?_
  obtain ⟨rfl, t, rfl⟩ := h
  exact ⟨rfl, ⟨rfl, rfl, rfl, by simp [Lib.bytesWorld, World.freeze], fun j hj => Lib.bytesWorld_at_old _ _ _ _ hj⟩⟩
 ·cases hr
theorem bc4 (Ly : Go.Proofs.Lays.n156 P ρ) (X : Go.Proofs.Builder.Extra P ρ) (w0 : World) (xs : List Str) (v1 : Value) (h1 : GT.rep (hp w0) [v1] xs) (sep : Str) : mE P (ρ.f 156) [v1, .string ⟨sep.b.toArray⟩] w0 (at0 xs sep) fun r v w' => v = .string ⟨r.b.toArray⟩ ∧ Below w0.heap.size w0 w' := fun r hr => by
 unfold at0 at hr
 split at hr
 ·rename_i hlen
  split at hr
  ·rename_i hN
   cases hr
   rcases nF.1 h1 with ⟨hv, rfl⟩ | ⟨b, off, len, cap, rfl, hl, hc, hm, h3⟩
   ·have key : ∀ (a : Option Addr) (c : Nat), v1 = .slice a 0 c → Con P (ρ.f 156) [v1, .string ⟨sep.b.toArray⟩] w0 fun v w' => v = .string ⟨(Lib.join [] sep.b).toArray⟩ ∧ Below w0.heap.size w0 w' := fun a c e => by
     subst e
     refine Calls.mono (Go.Proofs.Any.strings_Join_none Ly X a c ⟨sep.b.toArray⟩ w0) fun e w' h => ?_
     obtain ⟨rfl, rfl⟩ := h
     exact ⟨rfl, Below.refl _ _⟩
    rcases hv with rfl | ⟨p, cap, rfl⟩
    ·exact key none 0 rfl
    ·exact key (some p) cap rfl
   ·subst hl
    have hcell : ∀ (j : Nat) x, (xs.map fun s => (⟨s.b.toArray⟩ : ByteArray))[j]? = some x → w0.cell? ⟨b, off + j, none⟩ = some (.string x) := fun j x hj => by
     rw [List.getElem?_map] at hj
     obtain ⟨s, hs, rfl⟩ := Option.map_eq_some_iff.1 hj
     obtain ⟨cs, h4, h5⟩ := h3 j s hs
     have h6 : cs = [.string ⟨s.b.toArray⟩] := Flat.rep_iff.1 h5
     subst h6
     have := h4.cell (j := 0) rfl
     simpa [show GT.sz Str = 1 from rfl] using this
    have e1 : ((xs.map fun s => (⟨s.b.toArray⟩ : ByteArray)).map (·.data.toList)) = xs.map (·.b) := by rw [List.map_map]; exact List.map_congr_left fun s _ => by simp
    by_cases h0 : xs = []
    ·subst h0
     refine Calls.mono (Go.Proofs.Any.strings_Join_none Ly X (some ⟨b, off, none⟩) cap ⟨sep.b.toArray⟩ w0) fun e w' h => ?_
     obtain ⟨rfl, rfl⟩ := h
     exact ⟨rfl, Below.refl _ _⟩
    ·obtain ⟨x, hx⟩ : ∃ x, xs[0]? = some x := by
      cases xs with
      | nil => exact absurd rfl h0
      | cons x xs => exact ⟨x, rfl⟩
     obtain ⟨cs, ⟨C, T, fz, h4, _⟩, _⟩ := h3 0 x hx
     have := Go.Proofs.Any.strings_Join Ly X b off cap (xs.map fun s => (⟨s.b.toArray⟩ : ByteArray)) ⟨sep.b.toArray⟩ w0 hcell (bd2 h4) (by simpa using hN) (by simpa using hc) (by rw [e1]; simpa using hlen)
     rw [List.length_map] at this
     refine Calls.mono this fun e w' h => ?_
     obtain ⟨rfl, h⟩ := h
     refine ⟨?_, h⟩
     simp only [e1]
  ·cases hr
 ·cases hr
theorem ai1 (Ly : Go.Proofs.LaysGw.n15 P ρ) (w0 : World) (s : Str) (f : Int → Option Bool) (fv : Value) (hfn : ∀ (w : World) (y0 : Int) (r : Bool), Below w0.heap.size w0 w → f y0 = some r → yR P fv [.int .i32 y0] w (fun v w' => v = .bool r ∧ Below w.heap.size w w')) :
  mE P (ρ.f 15) [.string ⟨s.b.toArray⟩, fv] w0 (wm s f) fun r v w' => v = .int .i64 r ∧ Below w0.heap.size w0 w' := fun r hr => by
 unfold wm at hr
 split at hr
 ·rename_i hf
  cases hr
  obtain ⟨r0, hr0⟩ := Option.isSome_iff_exists.1 (hf 0 (by omega))
  obtain ⟨k, cs, rfl, eg, _⟩ := hfn w0 _ r0 (Below.refl _ _) hr0
  refine Calls.mono (Go.Proofs.Any.strings_IndexFunc_grows Ly k cs.toArray eg (fun x => (f (x : Int)).getD false) ⟨s.b.toArray⟩ w0 fun W x hx hb => ?_) fun e w' h => ?_
  ·obtain ⟨q, hq⟩ := Option.isSome_iff_exists.1 (hf x hx)
   obtain ⟨k2, cs2, e2, _, h⟩ := hfn W x q hb hq
   simp only [Value.func.injEq, Fn.func.injEq, true_and] at e2
   obtain ⟨rfl, e3⟩ := e2
   have e4 : cs = cs2 := by simpa using e3
   subst e4
   have h' : Calls P k (#[Go.Proofs.encR x] ++ cs.toArray) W (Rt fun v w' => v = .bool q ∧ Below W.heap.size W w') := by
    have : ([Value.int .i32 (x : Int)] ++ cs).toArray = #[Go.Proofs.encR x] ++ cs.toArray := by simp [Go.Proofs.encR]
    rw [← this]; exact h
   refine Calls.mono h' fun e w' h => ?_
   cases e with
   | returned v =>
    obtain ⟨rfl, h⟩ := h
    exact ⟨by simp [hq], h⟩
   | _ => exact h.elim
  ·obtain ⟨rfl, h⟩ := h
   exact ⟨rfl, h⟩
 ·cases hr
end
structure bq8 where
 cs : List Value
instance : GT bq8 where
 sz := 1
 rep h vs x := ∃ g T fz, vs = [.pointer (some ⟨g, 0, none⟩)] ∧ h g = some (.cells x.cs.toArray T fz)
 own F h vs x := ∃ g T fz, vs = [.pointer (some ⟨g, 0, none⟩)] ∧ F g ∧ h g = some (.cells x.cs.toArray T fz)
 len := by rintro h cs x ⟨g, T, fz, rfl, _⟩; rfl
 mono := by rintro h h' cs x hh ⟨g, T, fz, e, h1⟩; exact ⟨g, T, fz, e, hh _ _ h1⟩
 own_rep := by rintro F h cs x ⟨g, T, fz, e, _, h1⟩; exact ⟨g, T, fz, e, h1⟩
 own_loc := by rintro F h h' cs x ⟨g, T, fz, e, h0, h1⟩ hh; exact ⟨g, T, fz, e, h0, (hh _ h0).trans h1⟩
 own_mono := by rintro F F' h cs x hF ⟨g, T, fz, e, h0, h1⟩; exact ⟨g, T, fz, e, hF _ h0, h1⟩
 one := by rintro h cs x ⟨g, T, fz, rfl, _⟩ u hu; simp at hu; subst hu; rfl
def ao2 : bq8 := ⟨[.int .u64 1, .int .u64 10, .int .u64 100, .int .u64 1000, .int .u64 10000, .int .u64 100000, .int .u64 1000000, .int .u64 10000000, .int .u64 100000000, .int .u64 1000000000, .int .u64 10000000000, .int .u64 100000000000, .int .u64 1000000000000, .int .u64 10000000000000, .int .u64 100000000000000, .int .u64 1000000000000000, .int .u64 10000000000000000, .int .u64 100000000000000000, .int .u64 1000000000000000000, .int .u64 10000000000000000000]⟩
theorem bg3 {P : Program} {ρ : Ren} (Ly : Go.Proofs.LaysM.n171 P ρ) {g : Nat} (hg : P.globalNamed "internal/strconv.uint64pow10" = some g) (w0 : World) (n : Int) (hG : GT.rep (hp w0) [.pointer (some ⟨g, 0, none⟩)] ao2) : mE P (ρ.f 171) [.int .i64 n] w0 (ac4 n) fun r v w' => v = .string ⟨r.b.toArray⟩ ∧ Below w0.heap.size w0 w' := fun r hr => by
 unfold ac4 at hr
 split at hr
 ·split at hr
  ·rename_i h1 h2
   cases hr
   obtain ⟨g', T, fz, e, h3⟩ := hG
   simp only [List.cons.injEq, Value.pointer.injEq, osI, Addr.mk.injEq, and_true] at e
   subst e
   have ht : Lib.TabIs P w0 "internal/strconv.uint64pow10" .u64 Lib.pow10Tab := by
    have h4 : w0.heap[g]? = some (.cells ao2.cs.toArray T fz) := h3
    unfold Lib.TabIs World.var?
    rw [hg, obS, h4]
    rfl
   refine Calls.mono (Go.Proofs.Any.strconv_Itoa Ly n h2.1 h2.2 w0 ht) fun e w' h => ?_
   obtain ⟨rfl, k, os, rfl⟩ := h
   exact ⟨rfl, Go.Proofs.below_grown w0 k os⟩
  ·cases hr
 ·cases hr
end Go.Wk
namespace Go.Wk
open Go Go.RowKit
section
variable {P : Program} {w : World} {o : Oper} {l : Env} {x y : Operand} {t t' : TypeId} {f0 f1 : Field} {i j : Int} {p q : Str}
theorem bh9 (ht : P.underlying t = some (.struct #[f0, f1])) (hp : P.stoodInHeld t = false) (hn : (f0.name != "_" && f1.name != "_") = true) (h0 : f0.offset = 0) (h1 : f1.offset = 1)
  (a0 : ∀ w, (isAgg f0.type).run P w = .ok false w) (a1 : ∀ w, (isAgg f1.type).run P w = .ok false w) (u0 : P.underlying f0.type = some (.int .i64)) (u1 : P.underlying f1.type = some .string) :
  (Op.equalIn 10000 t (.agg #[.int .i64 i, .string ⟨p.b.toArray⟩]) (.agg #[.int .i64 j, .string ⟨q.b.toArray⟩])).run P w = .ok (decide (i = j) && decide (p = q)) w := by
 rw [Bool.and_eq_true, bne_iff_ne, bne_iff_ne] at hn
 have hf : P.fieldsOf t = #[f0, f1] := by unfold Program.fieldsOf; rw [ht]
 rw [show (10000 : Nat) = 9999 + 1 from rfl, run_equalIn_struct w 9999 t _ _ (by rw [hf]; exact ht) hp, hf]
 have e1 : (p.b == q.b) = decide (p = q) := by
  by_cases h : p = q
  ·simp [h]
  ·have : p.b ≠ q.b := fun h' => h (Str.ext' h')
   simp [h, this]
 have e2 : (i == j) = decide (i = j) := by by_cases h : i = j <;> simp [h]
 have ri : ∀ a b, (Op.equalIn 9999 f0.type (.int .i64 a) (.int .i64 b)).run P w = .ok (a == b) w := fun a b => run_equalIn_int w 9998 f0.type .i64 .i64 a b u0
 have rs : ∀ a b, (Op.equalIn 9999 f1.type (.string a) (.string b)).run P w = .ok (a.toList == b.toList) w := fun a b => run_equalIn_string w 9998 f1.type a b u1
 simp [Op.eqFields, hn.1, hn.2, h0, h1, part, a0, a1, ri, rs]
 by_cases h : i = j
 ·by_cases h' : p = q
  ·simp [h, h', a1, rs]
  ·have h2 : p.b ≠ q.b := fun e => h' (Str.ext' e)
   simp [h, h', a1, rs, tk, h2]
 ·simp [h]
theorem af0 (ht : P.underlying t = some (.struct #[f0, f1])) (hp : P.stoodInHeld t = false) (hg : P.eqGuardType P.depth t = false) (hn : (f0.name != "_" && f1.name != "_") = true) (h0 : f0.offset = 0) (h1 : f1.offset = 1)
  (a0 : ∀ w, (isAgg f0.type).run P w = .ok false w) (a1 : ∀ w, (isAgg f1.type).run P w = .ok false w) (u0 : P.underlying f0.type = some (.int .i64)) (u1 : P.underlying f1.type = some .string)
  (ho : o.op = .binOp .eql t x y t') (hx : ev l x = some (.agg #[.int .i64 i, .string ⟨p.b.toArray⟩])) (hy : ev l y = some (.agg #[.int .i64 j, .string ⟨q.b.toArray⟩])) : Yl P l w o (.bool (decide (i = j) && decide (p = q))) := fun n a hf => by
 simp only [execOp, ho, hf.eval hx, hf.eval hy]
 simp [run_eqGuard_agg w .eql t x y _ _ hg, run_eql_struct, bh9 ht hp hn h0 h1 a0 a1 u0 u1]
end
section
variable {α β γ : Type} [GT α] [GT β] [GT γ] {h : kX}
end
end Go.Wk
namespace Go.Wk
open Go Go.ChangeShapes Go.WideShapes Go.Deep Go.RowKit
def Opx (P : Program) (α : Type) [GT α] (D : (H : Type) → α → DataW H) (t : TypeId) : Prop :=
 ∀ (H : Type) (enc : TypeId × Value → H) (w : World) (base : Nat) (spare : Nat → Bool) (held : Bool) (fuel : Nat) (cs : List Value) (d : DataW H) (ps : List MemPlace),
  DataW.trod enc P w base spare held fuel t cs = some (d, ps) → (∀ n ∈ d.weights P t, n ≤ reachBytes) → ∃ m : α, GT.rep (hp w) cs m ∧ d = D H m
section
variable {P : Program} {t e : TypeId}
theorem bp7 (ht : P.underlying t = some (.int .i64)) : Opx P Int (fun _ n => .lit (.int .i64 n)) t := by
 intro H enc w base spare held fuel cs d ps h _
 cases fuel with
 | zero => simp [DataW.trod] at h
 | succ fuel =>
  unfold DataW.trod at h
  rw [ht] at h
  match cs, h with
  | [.int k n], h =>
   simp only at h
   split at h
   ·rename_i hk
    obtain ⟨rfl, hw⟩ := hk
    simp only [osI, Prod.mk.injEq] at h
    exact ⟨n, rfl, h.1.symm⟩
   ·cases h
theorem bo1 (ht : P.underlying t = some .string) : Opx P Str (fun _ s => .lit (.string s.b)) t := by
 intro H enc w base spare held fuel cs d ps h hw
 cases fuel with
 | zero => simp [DataW.trod] at h
 | succ fuel =>
  unfold DataW.trod at h
  rw [ht] at h
  match cs, h with
  | [.string s], h =>
   simp only at h
   split at h
   ·simp only [osI, Prod.mk.injEq] at h
    obtain ⟨rfl, rfl⟩ := h
    have hl : s.data.toList.length ≤ 140737488351232 := hw s.data.toList.length (by simp [DataW.weights])
    refine ⟨⟨s.data.toList, by omega⟩, ?_, rfl⟩
    show [Value.string s] = [.string ⟨s.data.toList.toArray⟩]
    simp
   ·cases h
section
variable {α β : Type} [GT α] [GT β] {D : (H : Type) → α → DataW H} {E : (H : Type) → β → DataW H} {Es : (H : Type) → β → List (DataW H)}
def bp9 (P : Program) (fs : List Field) (α : Type) [GT α] (Ds : (H : Type) → α → List (DataW H)) (off : Nat) : Prop :=
 ∀ (H : Type) (enc : TypeId × Value → H) (w : World) (base : Nat) (spare : Nat → Bool) (held : Bool) (n : Nat) (cs : List Value) (xs : List (DataW H × List MemPlace)),
  xs.length = fs.length → (∀ (j : Nat) (f : Field), fs[j]? = some f → DataW.trod enc P w base spare held n f.type ((cs.drop f.offset).take (P.cellsOf f.type)) = xs[j]?) →
  (∀ n ∈ DataW.weightsEach P (fs.map (·.type)) (xs.map (·.1)), n ≤ reachBytes) → cs.length = off + GT.sz α → ∃ m : α, GT.rep (hp w) (cs.drop off) m ∧ xs.map (·.1) = Ds H m
theorem ay0 {f : Field} {off : Nat} (hf : f.offset = off) (hc : P.cellsOf f.type = GT.sz α) (h : Opx P α D f.type) : bp9 P [f] α (fun H m => [D H m]) off := by
 intro H enc w base spare held n cs xs hlen hj hw hl
 subst hf
 match xs, hlen with
 | [x], _ =>
  have h0 := hj 0 f rfl
  rw [List.take_of_length_le (by rw [List.length_drop]; omega)] at h0
  obtain ⟨m, h1, h2⟩ := h H enc w base spare held n _ x.1 x.2 h0 (fun n hn => hw n (by simp [DataW.weightsEach, hn]))
  exact ⟨m, h1, by simp [h2]⟩
theorem ay8 {f : Field} {fs : List Field} {off : Nat} (hf : f.offset = off) (hc : P.cellsOf f.type = GT.sz α) (h : Opx P α D f.type) (h2 : bp9 P fs β Es (off + GT.sz α)) :
  bp9 P (f :: fs) (α × β) (fun H p => D H p.1 :: Es H p.2) off := by
 intro H enc w base spare held n cs xs hlen hj hw hl
 subst hf
 match xs, hlen with
 | x :: xs, hlen =>
  have h0 := hj 0 f rfl
  obtain ⟨a, ha1, ha2⟩ := h H enc w base spare held n _ x.1 x.2 h0 (fun n hn => hw n (by simp [DataW.weightsEach, hn]))
  obtain ⟨b, hb1, hb2⟩ := h2 H enc w base spare held n cs xs (by simpa using hlen) (fun j g hg => by simpa using hj (j + 1) g (by simpa using hg))
   (fun n hn => hw n (by simp [DataW.weightsEach, hn])) (by rw [hl]; show _ + (_ + _) = _; omega)
  rw [hc] at ha1
  refine ⟨(a, b), ⟨_, _, ?_, ha1, hb1⟩, by simp [ha2, hb2]⟩
  rw [← List.drop_drop, List.take_append_drop]
theorem ap5 {fs : Array Field} {fl : List Field} (ht : P.underlying t = some (.struct fs)) (hfl : fs.toList = fl) (hc : P.cellsOf t = GT.sz β) (h : bp9 P fl β Es 0) : Opx P β (fun H m => .agg (Es H m)) t := by
 intro H enc w base spare held fuel cs d ps hd hw
 subst hfl
 obtain ⟨xs, n, _, hx, hcl, hlen, hf⟩ := DataW.trod_struct ht hd
 simp only [Prod.mk.injEq] at hx
 obtain ⟨rfl, rfl⟩ := hx
 obtain ⟨m, h1, h2⟩ := h H enc w base spare held n cs xs (by simpa using hlen) (fun j f hj => hf j f (by simpa using hj)) (fun n hn => hw n (by rw [DataW.weights]; simp only [ht]; exact hn)) (by omega)
 exact ⟨m, by simpa using h1, by rw [h2]⟩
theorem bo2 (g : β → α) (hg : ∀ h cs b, GT.rep h cs b → GT.rep h cs (g b)) (hD : ∀ H b, E H b = D H (g b)) (h : Opx P β E t) : Opx P α D t := by
 intro H enc w base spare held fuel cs d ps hd hw
 obtain ⟨m, h1, h2⟩ := h H enc w base spare held fuel cs d ps hd hw
 exact ⟨g m, hg _ _ _ h1, by rw [h2, hD]⟩
theorem ay5 {W : World} {name : String} {rest : List (String × DataW Unit)} {g n : Nat} {d : DataW Unit} {tab : List α} (hg : P.globalNamed name = some g) (hty : (P.globals[g]?).map (·.type) = some t) (ht : P.underlying t = some (.array n e))
  (hs : P.cellsOf e = GT.sz α) (ho : Opx P α D e) (hinj : ∀ a b, D Unit a = D Unit b → a = b) (hd : d = .agg (tab.map (D Unit))) (hn : tab.length = n) (hn2 : n ≤ 140737488355328) (hwt : (d.weights P t).all (· ≤ reachBytes) = true)
  (h : laidMet P ((name, d) :: rest) W) : GT.rep (hp W) [.slice (some ⟨g, 0, none⟩) n n] tab := by
 obtain ⟨ps, ⟨g', t', cs, fuel, p, q, hg', ht', hvar, hrd, _, _⟩, _⟩ := h
 obtain rfl := Option.some.inj (hg.symm.trans hg')
 obtain rfl := Option.some.inj (hty.symm.trans ht')
 obtain ⟨xs, m, _, hx, hcl, hxl, hxi⟩ := DataW.trod_array ht hrd
 simp only [Prod.mk.injEq] at hx
 obtain ⟨hx1, _⟩ := hx
 have hxe : tab.map (D Unit) = xs.map (·.1) := by
  rw [hd] at hx1
  simpa using hx1
 have hcell : ∃ T fz, hp W g = some (.cells cs T fz) := by
  simp only [World.var?, hg, obS] at hvar
  unfold hp
  split at hvar
  ·rename_i c T fz hc
   simp only [osI] at hvar
   subst hvar
   exact ⟨T, fz, hc⟩
  ·cases hvar
 obtain ⟨T, fz, hC⟩ := hcell
 refine nF.2 (.inr ⟨g, 0, n, n, rfl, hn, Nat.le_refl _, ⟨by unfold maxLen; omega, hn2⟩, fun i x hi => ?_⟩)
 have hin : i < n := by rw [← hn]; exact (lgE.1 hi).1
 have hread := hxi i hin
 rw [List.getElem?_eq_getElem (by omega)] at hread
 have hxd : (xs[i]'(by omega)).1 = D Unit x := by
  have := congrArg (fun l => l[i]?) hxe
  simp only [List.getElem?_map, hi, Option.map_some, List.getElem?_eq_getElem (show i < xs.length by omega), osI] at this
  exact this.symm
 have hmem : (xs[i]'(by omega)).1 ∈ xs.map (·.1) := List.mem_map.2 ⟨_, List.getElem_mem _, rfl⟩
 obtain ⟨y, hy1, hy2⟩ := ho Unit _ W 0 _ _ m _ _ _ hread (fun k hk => by
  have h1 : k ∈ d.weights P t := by
   rw [hd, DataW.weights]
   simp only [ht]
   rw [hxe]
   exact yT hmem k hk
  simpa using List.all_eq_true.1 hwt k h1)
 have : y = x := hinj _ _ (hy2.symm.trans hxd)
 subst this
 rw [hs] at hy1
 refine ⟨_, ⟨cs, T, fz, hC, fun j v hj => ?_⟩, hy1⟩
 have hjs : j < GT.sz α := by
  have := (lgE.1 hj).1
  simp at this
  omega
 rw [List.getElem?_take_of_lt hjs, List.getElem?_drop] at hj
 rw [Nat.zero_add, ← hj]
 simp
end
end
theorem z8 {H : Type} {enc : TypeId × Value → H} {P : Program} {f : Func} {s : ChangeSpec} {apart fresh handsOn : Bool} {W W' : World} {args : Array Value} {ds gs : List (DataW H)} {before : List MemPlace} {tb : TypeId}
  (hl : laidOutB P = true) (hread : ∀ t ∈ f.params.toList, P.readableRec t = true ∧ t < P.types.size) (hrt : f.resultTypes = #[tb]) (htb : P.underlying tb = some .bool) (hvr : varsRowed P s.vars = true)
  (hfn : s.fn H (ds ++ gs) = { results := [.lit (.bool true)], args := ds, vars := gs }) (hW : DataW.Whole enc P f.params.toList s.vars apart W args.toList ds gs before) (hb : Below W.heap.size W W') :
  s.post enc P f apart fresh handsOn false W args (.bool true) W' := by
 have hlt : ∀ p ∈ before, p.block < W.heap.size := fun p hp => hW.lt p hp
 obtain ⟨p, q, hA, hV, rfl, hz, hn⟩ := hW
 refine ⟨ds, gs, p ++ q, [], p, q, ⟨p, q, hA, hV, rfl, hz, hn⟩, ?_, ?_, ?_, World.keptBut_mono (fun x hx => ⟨hx, ?_⟩) (hb.frame _), fun h => by cases h⟩
 ·rw [hfn, hrt]
  exact trodAll_mk1 (shut_bool htb _)
 ·rw [hfn]
  exact ac2 hl hread hA (fun x hx => hb.same (hlt x (List.mem_append_left _ hx))) (fun x hx => by simpa using hlt x (List.mem_append_left _ hx))
 ·rw [hfn]
  exact Below.trodVars hl hb hvr hV
 ·rcases List.mem_append.1 hx with h | h
  ·exact .inr (.inl h)
  ·exact .inr (.inr h)
end Go.Wk
namespace Go.Wk
open Go Go.ChangeShapes Go.WideShapes Go.RowKit Go.WideElems
theorem y7 {α γ : Type} (f : α → γ) (hf : ∀ a b, f a = f b → a = b) {l l' : List α} (h : (l.map f).Perm (l'.map f)) : l.Perm l' := by
 classical
 let g : γ → Option α := fun c => if h : ∃ a, f a = c then some h.choose else none
 have hg : ∀ a, g (f a) = some a := fun a => by
  have he : ∃ b, f b = f a := ⟨a, rfl⟩
  show (if h : ∃ b, f b = f a then some h.choose else none) = some a
  rw [dif_pos he]
  exact congrArg some (hf _ _ he.choose_spec)
 have hm : ∀ l : List α, (l.map f).filterMap g = l := fun l => by
  induction l with
  | nil => rfl
  | cons a l ih => rw [List.map_cons, List.filterMap_cons, hg, ih]
 have := h.filterMap g
 rwa [hm, hm] at this
section
variable {P : Program} {W : World}
theorem vn : ∀ {laid : List (String × DataW Unit)} {x : String × DataW Unit}, laidMet P laid W → x ∈ laid → laidMet P [x] W
 | [], _, _, h => by cases h
 | (n, d) :: r, x, ⟨ps, ⟨g, t, cs, fuel, p, q, h1, h2, h3, h4, h5, h6⟩, h7, h8⟩, h => by
  subst h6
  rcases List.mem_cons.1 h with rfl | h
  ·refine ⟨MemPlace.row ⟨g, 0, none⟩ cs.size ++ p ++ [], ⟨g, t, cs, fuel, p, [], h1, h2, h3, h4, rfl, rfl⟩, ?_, fun b off hb => h8 b off ?_⟩
   ·rw [List.append_nil]; exact (List.nodup_append.1 h7).1
   ·rw [List.append_nil] at hb; exact List.mem_append_left _ hb
  ·exact vn ⟨q, h5, (List.nodup_append.1 h7).2.1, fun b off hb => h8 b off (List.mem_append_right _ hb)⟩ h
theorem ac9 {laid : List (String × DataW Unit)} (h : (laid.filter fun x => x.2.handleName?.isSome) = []) : laidMetH P laid W ↔ laidMet P laid W := by
 unfold laidMetH
 rw [h]
theorem xP {H : Type} {enc : TypeId × Value → H} {sp : Nat → Bool} : ∀ {ns : List String} {ds : List (DataW H)} {ps : List MemPlace}, DataW.TrodVars enc P W sp ns ds ps → ds.length = ns.length
 | [], [], _, _ => rfl
 | _ :: ns, _ :: ds, _, ⟨_, _, _, _, _, _, _, _, _, _, h, _⟩ => congrArg (· + 1) (xP h)
 | [], _ :: _, _, h => h.elim
 | _ :: _, [], _, h => h.elim
theorem bj8 {name : String} {k : IntKind} {zs : List Int} {g : Nat} {t e : TypeId} {n : Nat} {x : bq8} (hg : P.globalNamed name = some g) (hty : (P.globals[g]?).map (·.type) = some t) (ht : P.underlying t = some (.array n e)) (he : P.underlying e = some (.int k)) (hce : P.cellsOf e = 1) (hct : P.cellsOf t = n)
  (hx : x.cs = zs.map fun z => Value.int k z) (h : laidMet P [(name, Lib.tabData k zs)] W) : GT.rep (hp W) [.pointer (some ⟨g, 0, none⟩)] x := by
 have h1 := Lib.tabIs_of_head hg hty ht he hce hct h
 unfold Lib.TabIs World.var? at h1
 rw [hg, obS] at h1
 split at h1
 ·rename_i c T fz hc
  simp only [osI] at h1
  subst h1
  exact ⟨g, T, fz, rfl, by rw [hx]; exact hc⟩
 ·cases h1
theorem an6 {t : TypeId} {fs : Array Field} {v : Value} (ht : P.underlying t = some (.struct fs)) (h : v.formed P t = true) : ∃ cs, v = .agg cs := by
 cases v <;> first | exact ⟨_, rfl⟩ | (unfold Value.formed at h; simp only [ht] at h; cases h) | (unfold Value.formed at h; cases h)
theorem bq7 {k : TypeId} {v : Value} {l : Lit} (hk : P.underlying k = some (.int .i64)) (h : keyOf P k v = some l) : ∃ n, v = .int .i64 n ∧ l = .int .i64 n := by
 unfold keyOf at h
 rw [hk] at h
 unfold mapKey at h
 rw [hk] at h
 cases v <;> try (cases h; done)
 rename_i q n
 simp only at h
 split at h
 ·rename_i hq
  obtain ⟨rfl, _⟩ := hq
  exact ⟨n, rfl, (Option.some.inj h).symm⟩
 ·cases h
theorem al8 {β : Type} [GT β] [MV β] {D : (H : Type) → β → DataW H} {name : String} {g : Nat} {t kt vt : TypeId} {m : ni β} (hg : P.globalNamed name = some g) (hty : (P.globals[g]?).map (·.type) = some t)
  (ht : P.underlying t = some (.map kt vt)) (hk : P.underlying kt = some (.int .i64)) (ho : Opx P β D vt) (hinj : ∀ a b, D Unit a = D Unit b → a = b)
  (hv : ∀ (v : Value) (u : β) (h : kX), v.formed P vt = true → GT.rep h v.cells.toList u → v = MV.venc u)
  (hwt : m.es.all (fun p => ((D Unit p.2).weights P vt).all (· ≤ reachBytes)) = true)
  (h : laidMet P [(name, .map (m.es.map fun p => (.int .i64 p.1, D Unit p.2)))] W) : GT.rep (hp W) [.slice (some ⟨g, 0, none⟩) 1 1] [m] := by
 obtain ⟨ps, ⟨g', t', cs, fuel, p, q, hg', ht', hvar, hrd, _, _⟩, _⟩ := h
 obtain rfl := Option.some.inj (hg.symm.trans hg')
 obtain rfl := Option.some.inj (hty.symm.trans ht')
 have hcell : ∃ T fz, hp W g = some (.cells cs T fz) := by
  simp only [World.var?, hg, obS] at hvar
  unfold hp
  split at hvar
  ·rename_i c T fz hc
   simp only [osI] at hvar
   subst hvar
   exact ⟨T, fz, hc⟩
  ·cases hvar
 obtain ⟨T, fz, hC⟩ := hcell
 rcases open_map ht hrd with ⟨_, h2⟩ | ⟨b, E, clock, n, _, hcs, hb, _, F, hx⟩
 ·simp only [Prod.mk.injEq] at h2
  cases h2.1
 simp only [Prod.mk.injEq, DataW.map.injEq] at hx
 obtain ⟨hx, _⟩ := hx
 have hperm : (E.toList.map (rg P kt (elemAt (fun _ => ()) P W 0 (fun _ => true) false n vt))).Perm (m.es.map fun p => (.int .i64 p.1, D Unit p.2)) := by
  rw [hx]; exact (sorted_perm _).symm
 have hone : ∀ e ∈ E.toList, ∃ p : Int × β, (e.key, e.val) = (Value.int .i64 p.1, MV.venc p.2) ∧ rg P kt (elemAt (fun _ => ()) P W 0 (fun _ => true) false n vt) e = (.int .i64 p.1, D Unit p.2) := by
  intro e he
  obtain ⟨y, hy⟩ := F.reads e he
  have hr := rg_of hy
  obtain ⟨i, hi1, hi2⟩ := bq7 hk (rd_key hy)
  obtain ⟨z, hz, hz2⟩ := rd_val hy
  have hmem : y ∈ m.es.map fun p => ((.int .i64 p.1 : Lit), D Unit p.2) := hperm.mem_iff.1 (List.mem_map.2 ⟨e, he, hr⟩)
  obtain ⟨p, hp1, hp2⟩ := List.mem_map.1 hmem
  unfold elemAt at hz
  split at hz
  ·rename_i hf
   have hp3 : z.1 = D Unit p.2 := by rw [← hz2, ← hp2]
   obtain ⟨u, hu1, hu2⟩ := ho Unit _ W 0 _ _ n _ z.1 z.2 hz (fun k hk => by
    rw [hp3] at hk
    have h1 := List.all_eq_true.1 hwt p hp1
    simpa using List.all_eq_true.1 h1 k hk)
   have hu : u = p.2 := hinj _ _ (hu2.symm.trans hp3)
   subst hu
   have hv' := hv _ _ _ hf hu1
   have hp4 : i = p.1 := by
    have := congrArg Prod.fst hp2
    rw [hi2] at this
    simpa using this.symm
   subst hp4
   exact ⟨p, by rw [hi1, hv'], hr.trans hp2.symm⟩
  ·cases hz
 have hlist : ∀ L : List MapEntry, (∀ e ∈ L, ∃ p : Int × β, (e.key, e.val) = (Value.int .i64 p.1, MV.venc p.2) ∧ rg P kt (elemAt (fun _ => ()) P W 0 (fun _ => true) false n vt) e = (.int .i64 p.1, D Unit p.2)) →
   ∃ es : List (Int × β), L.map (fun e => (e.key, e.val)) = es.map (fun p => (Value.int .i64 p.1, MV.venc p.2)) ∧ L.map (rg P kt (elemAt (fun _ => ()) P W 0 (fun _ => true) false n vt)) = es.map (fun p => (.int .i64 p.1, D Unit p.2)) := by
  intro L
  induction L with
  | nil => exact fun _ => ⟨[], rfl, rfl⟩
  | cons e L ih =>
   intro hL
   obtain ⟨p, h1, h2⟩ := hL e (by simp)
   obtain ⟨es, h3, h4⟩ := ih fun e he => hL e (by simp [he])
   exact ⟨p :: es, by rw [List.map_cons, List.map_cons, h1, h3], by rw [List.map_cons, List.map_cons, h2, h4]⟩
 obtain ⟨es, h1, h2⟩ := hlist E.toList hone
 rw [h2] at hperm
 have hes : es.Perm m.es := y7 (fun p : Int × β => ((.int .i64 p.1 : Lit), D Unit p.2)) (fun a b hab => by
  simp only [Prod.mk.injEq, Lit.int.injEq, true_and] at hab
  exact Prod.ext hab.1 (hinj _ _ hab.2)) hperm
 refine nF.2 (.inr ⟨g, 0, 1, 1, rfl, rfl, Nat.le_refl _, ⟨by unfold maxLen; omega, by omega⟩, fun i x hi => ?_⟩)
 have hi0 : i = 0 := by
  have := (lgE.1 hi).1
  simp at this
  exact this
 subst hi0
 simp at hi
 subst hi
 refine ⟨[.map (some b)], ⟨cs, T, fz, hC, fun j v hj => ?_⟩, ⟨_, rfl, .inr ⟨b, rfl, E, clock, es, hb, F.stamped, h1, hes⟩⟩⟩
 have : cs[0 + 0 * GT.sz (ni β) + j]? = cs.toList[j]? := by
  rw [Array.getElem?_toList]; congr 1; omega
 rw [this, hcs]; exact hj
end
end Go.Wk
namespace Go.Wk
open Go Go.ChangeShapes Go.WideShapes Go.RowKit Go.WideElems
structure th (β : Type) where
 es : List (Str × β)
instance {β : Type} : Inhabited (th β) := ⟨⟨[]⟩⟩
def th.get {β : Type} (m : th β) (k : Str) : Option β := rT m.es k
def ag5 (s : Str) : Value := .string ⟨s.b.toArray⟩
theorem ar6 {P : Program} {kt : TypeId} (h : P.underlying kt = some .string) : bk4 P kt ag5 where
 check n e k w := by
  unfold Instr.checkKey
  simp [run_underlying h]
 und := ⟨_, h, fun a b => by
  simp only [Instr.sameNow, ag5, osI]
  show (a.b.toArray == b.b.toArray) = _
  by_cases h : a = b
  ·subst h; simp
  ·have : a.b ≠ b.b := fun e => h (Str.ext' e)
   simp [h, this]⟩
 bits a := by
  unfold Instr.sameBits ag5
  show (a.b.toArray == a.b.toArray) = true
  simp
section
variable {κ β : Type} [DecidableEq κ]
theorem tw {es : List (κ × β)} (hn : (es.map (·.1)).Nodup) {k : κ} {v : β} : rT es k = some v ↔ (k, v) ∈ es := by
 unfold rT
 constructor
 ·intro h
  cases hq : pW k es 0 with
  | none => rw [hq] at h; simp at h
  | some q =>
   obtain ⟨i, u⟩ := q
   rw [hq] at h
   simp at h
   subst h
   obtain ⟨_, h3⟩ := sF hq
   exact List.mem_of_getElem? h3
 ·intro h
  cases hq : pW k es 0 with
  | none => exact absurd rfl (vf.1 hq _ h)
  | some q =>
   obtain ⟨i, u⟩ := q
   obtain ⟨_, h3⟩ := sF hq
   have h4 := List.mem_of_getElem? h3
   simp only [Option.map_some, osI]
   have key : ∀ (l : List (κ × β)), (l.map (·.1)).Nodup → (k, u) ∈ l → (k, v) ∈ l → u = v := by
    intro l
    induction l with
    | nil => intro _ h; simp at h
    | cons p l ih =>
     intro hn h1 h2
     rw [List.map_cons, List.nodup_cons] at hn
     rcases List.mem_cons.1 h1 with e1 | e1 <;> rcases List.mem_cons.1 h2 with e2 | e2
     ·rw [← e1] at e2; simpa using e2.symm
     ·exact absurd (List.mem_map.2 ⟨_, e2, rfl⟩) (by rw [← e1] at hn; exact hn.1)
     ·exact absurd (List.mem_map.2 ⟨_, e1, rfl⟩) (by rw [← e2] at hn; exact hn.1)
     ·exact ih hn.2 e1 e2
   exact key es hn h4 h
theorem ao9 {es es' : List (κ × β)} (hp : es'.Perm es) (hn : (es.map (·.1)).Nodup) (k : κ) : rT es' k = rT es k := by
 have hn' : (es'.map (·.1)).Nodup := (hp.map _).nodup_iff.2 hn
 cases h : rT es k with
 | none =>
  cases h' : rT es' k with
  | none => rfl
  | some v => rw [tw hn'] at h'; rw [(tw hn).2 (hp.mem_iff.1 h')] at h; cases h
 | some v => rw [tw hn] at h; rw [tw hn']; exact hp.mem_iff.2 h
end
def ao8 {β : Type} [MV β] (h : kX) (r : Nat) (m : th β) : Prop :=
 ∃ (E : Array MapEntry) (clock : Nat) (es : List (Str × β)), h r = some (.map E clock) ∧ E.toList.map (fun e => (e.key, e.val)) = es.map (fun p : Str × β => (ag5 p.1, MV.venc p.2)) ∧ es.Perm m.es ∧ (m.es.map (·.1)).Nodup
instance {β : Type} [MV β] : GT (th β) where
 sz := 1
 rep h cs m := ∃ v, cs = [v] ∧ ∃ r, v = .map (some r) ∧ ao8 h r m
 own F h cs m := ∃ v, cs = [v] ∧ ∃ r, v = .map (some r) ∧ F r ∧ ao8 h r m
 len := by rintro h cs m ⟨v, rfl, _⟩; rfl
 mono := by
  rintro h h' cs m hh ⟨v, rfl, r, hv, E, c, es, h1, h2⟩
  exact ⟨v, rfl, r, hv, E, c, es, hh _ _ h1, h2⟩
 own_rep := by
  rintro F h cs m ⟨v, rfl, r, hv, _, h1⟩
  exact ⟨v, rfl, r, hv, h1⟩
 own_loc := by
  rintro F h h' cs m ⟨v, rfl, r, hv, hF, E, c, es, h1, h2⟩ hh
  exact ⟨v, rfl, r, hv, hF, E, c, es, (hh r hF).trans h1, h2⟩
 own_mono := by
  rintro F F' h cs m hF ⟨v, rfl, r, hv, h1, h2⟩
  exact ⟨v, rfl, r, hv, hF r h1, h2⟩
 one := by
  rintro h cs m ⟨v, rfl, r, rfl, _⟩ u hu
  simp at hu
  subst hu
  rfl
section
variable {β : Type} [MV β] {P : Program} {w : World} {o : Oper} {l : Env} {x y : Operand} {t kt vt : TypeId} {m : th β} {v : Value}
theorem bg8 {h : kX} : GT.rep h [v] m ↔ ∃ r, v = .map (some r) ∧ ao8 h r m := by
 constructor
 ·rintro ⟨u, hu, hr⟩; simp at hu; subst hu; exact hr
 ·intro hr; exact ⟨v, rfl, hr⟩
theorem br0 {key : Str} {zv : Value} {z : β} (hK : P.underlying kt = some .string) (ht : P.underlying t = some (.map kt vt)) (hz0 : ∀ w, (zeroValue vt).run P w = .ok zv w) (hr : GT.rep (hp w) [v] m) (ho : o.op = .lookup t x y false)
  (hx : ev l x = some v) (hy : ev l y = some (.string ⟨key.b.toArray⟩)) (hz : zv = MV.venc z) : Yl P l w o (MV.venc ((m.get key).getD z)) := fun n a hf => by
 obtain ⟨r, rfl, E, clock, es, h1, h2, h3, h4⟩ := bg8.1 hr
 have hf2 := vc (ar6 hK) h2 key w
 have hc := (ar6 hK).check 9999 E.isEmpty key w
 unfold ag5 at hf2 hc
 simp only [execOp, ho, hf.eval hx, hf.eval hy, Instr.lookup]
 simp [run_underlying ht, MapKept.run_getObj_map h1, hc, hf2]
 unfold th.get
 rw [← ao9 h3 h4]
 unfold rT
 cases pW key es 0 with
 | none => simp [hz0, hz]
 | some q => simp
theorem ap1 {k : TypeId} {v : Value} {l : Lit} (hk : P.underlying k = some .string) (h : keyOf P k v = some l) : ∃ s : ByteArray, v = .string s ∧ l = .string s.data.toList := by
 unfold keyOf at h
 rw [hk] at h
 unfold mapKey at h
 rw [hk] at h
 cases v <;> try (cases h; done)
 rename_i s
 simp only at h
 split at h
 ·rename_i hq
  exact ⟨s, rfl, (Option.some.inj h).symm⟩
 ·cases h
theorem be6 (hu : P.underlying t = some (.int .i64)) : ∀ (v : Value) (u : Int) (h : kX), v.formed P t = true → GT.rep h v.cells.toList u → v = MV.venc u := by
 intro v u h hf hr
 have hr2 : v.cells.toList = [.int .i64 u] := hr
 cases v with
 | agg cs =>
  unfold Value.formed at hf
  simp only [hu] at hf
  cases hf
 | tuple cs => unfold Value.formed at hf; cases hf
 | int k n =>
  simp [Value.cells] at hr2
  obtain ⟨rfl, rfl⟩ := hr2
  rfl
 | _ => simp [Value.cells] at hr2
theorem ah1 [GT β] {D : (H : Type) → β → DataW H} {name : String} {g : Nat} {m : th β} (hg : P.globalNamed name = some g) (hty : (P.globals[g]?).map (·.type) = some t)
  (ht : P.underlying t = some (.map kt vt)) (hk : P.underlying kt = some .string) (ho : Opx P β D vt) (hinj : ∀ a b, D Unit a = D Unit b → a = b)
  (hv : ∀ (v : Value) (u : β) (h : kX), v.formed P vt = true → GT.rep h v.cells.toList u → v = MV.venc u)
  (hnd : (m.es.map (·.1)).Nodup)
  (hwt : m.es.all (fun p => ((D Unit p.2).weights P vt).all (· ≤ reachBytes)) = true)
  (h : laidMet P [(name, .map (m.es.map fun p => (.string p.1.b, D Unit p.2)))] w) : GT.rep (hp w) [.slice (some ⟨g, 0, none⟩) 1 1] [m] := by
 obtain ⟨ps, ⟨g', t', cs, fuel, p, q, hg', ht', hvar, hrd, _, _⟩, _⟩ := h
 obtain rfl := Option.some.inj (hg.symm.trans hg')
 obtain rfl := Option.some.inj (hty.symm.trans ht')
 have hcell : ∃ T fz, hp w g = some (.cells cs T fz) := by
  simp only [World.var?, hg, obS] at hvar
  unfold hp
  split at hvar
  ·rename_i c T fz hc
   simp only [osI] at hvar
   subst hvar
   exact ⟨T, fz, hc⟩
  ·cases hvar
 obtain ⟨T, fz, hC⟩ := hcell
 rcases open_map ht hrd with ⟨_, h2⟩ | ⟨b, E, clock, n, _, hcs, hb, _, F, hx⟩
 ·simp only [Prod.mk.injEq] at h2
  cases h2.1
 simp only [Prod.mk.injEq, DataW.map.injEq] at hx
 obtain ⟨hx, _⟩ := hx
 have hperm : (E.toList.map (rg P kt (elemAt (fun _ => ()) P w 0 (fun _ => true) false n vt))).Perm (m.es.map fun p => (.string p.1.b, D Unit p.2)) := by
  rw [hx]; exact (sorted_perm _).symm
 have hone : ∀ e ∈ E.toList, ∃ p : Str × β, (e.key, e.val) = (ag5 p.1, MV.venc p.2) ∧ rg P kt (elemAt (fun _ => ()) P w 0 (fun _ => true) false n vt) e = (.string p.1.b, D Unit p.2) := by
  intro e he
  obtain ⟨y, hy⟩ := F.reads e he
  have hr := rg_of hy
  obtain ⟨i, hi1, hi2⟩ := ap1 hk (rd_key hy)
  obtain ⟨z, hz, hz2⟩ := rd_val hy
  have hmem : y ∈ m.es.map fun p => ((.string p.1.b : Lit), D Unit p.2) := hperm.mem_iff.1 (List.mem_map.2 ⟨e, he, hr⟩)
  obtain ⟨p, hp1, hp2⟩ := List.mem_map.1 hmem
  unfold elemAt at hz
  split at hz
  ·rename_i hf
   have hp3 : z.1 = D Unit p.2 := by rw [← hz2, ← hp2]
   obtain ⟨u, hu1, hu2⟩ := ho Unit _ w 0 _ _ n _ z.1 z.2 hz (fun k hk => by
    rw [hp3] at hk
    have h1 := List.all_eq_true.1 hwt p hp1
    simpa using List.all_eq_true.1 h1 k hk)
   have hu : u = p.2 := hinj _ _ (hu2.symm.trans hp3)
   subst hu
   have hv' := hv _ _ _ hf hu1
   have hp4 : Value.string i = ag5 p.1 := by
    have := congrArg Prod.fst hp2
    rw [hi2] at this
    simp only [Lit.string.injEq] at this
    show Value.string i = .string ⟨p.1.b.toArray⟩
    rw [this]
   exact ⟨p, by rw [hi1, hp4, hv'], hr.trans hp2.symm⟩
  ·cases hz
 have hlist : ∀ L : List MapEntry, (∀ e ∈ L, ∃ p : Str × β, (e.key, e.val) = (ag5 p.1, MV.venc p.2) ∧ rg P kt (elemAt (fun _ => ()) P w 0 (fun _ => true) false n vt) e = (.string p.1.b, D Unit p.2)) →
   ∃ es : List (Str × β), L.map (fun e => (e.key, e.val)) = es.map (fun p => (ag5 p.1, MV.venc p.2)) ∧ L.map (rg P kt (elemAt (fun _ => ()) P w 0 (fun _ => true) false n vt)) = es.map (fun p => (.string p.1.b, D Unit p.2)) := by
  intro L
  induction L with
  | nil => exact fun _ => ⟨[], rfl, rfl⟩
  | cons e L ih =>
   intro hL
   obtain ⟨p, h1, h2⟩ := hL e (by simp)
   obtain ⟨es, h3, h4⟩ := ih fun e he => hL e (by simp [he])
   exact ⟨p :: es, by rw [List.map_cons, List.map_cons, h1, h3], by rw [List.map_cons, List.map_cons, h2, h4]⟩
 obtain ⟨es, h1, h2⟩ := hlist E.toList hone
 rw [h2] at hperm
 have hes : es.Perm m.es := y7 (fun p : Str × β => ((.string p.1.b : Lit), D Unit p.2)) (fun a b hab => by
  simp only [Prod.mk.injEq, Lit.string.injEq] at hab
  exact Prod.ext (Str.ext' hab.1) (hinj _ _ hab.2)) hperm
 refine nF.2 (.inr ⟨g, 0, 1, 1, rfl, rfl, Nat.le_refl _, ⟨by unfold maxLen; omega, by omega⟩, fun i x hi => ?_⟩)
 have hi0 : i = 0 := by
  have := (lgE.1 hi).1
  simp at this
  exact this
 subst hi0
 simp at hi
 subst hi
 refine ⟨[.map (some b)], ⟨cs, T, fz, hC, fun j v hj => ?_⟩, ⟨_, rfl, b, rfl, E, clock, es, hb, h1, hes, hnd⟩⟩
 have : cs[0 + 0 * GT.sz (th β) + j]? = cs.toList[j]? := by
  rw [Array.getElem?_toList]; congr 1; omega
 rw [this, hcs]; exact hj
end
end Go.Wk
namespace Go.Wk
open Go Go.RowKit
section
variable {ρ : Type} {P : Program} {fn : Func} {R : ρ → Value → World → Prop} {r pay : ρ} {n : Nat} {l : Env} {w w0 : World} {hz : kX} {L : List Ch} {t t' : Nat} {v v' : Value}
theorem by7 {b b' T T' ty ty' : Nat} {cs cs' : List Value} (k k' : Nat) (hr : fn.results = #[.cell t ty, .cell t' ty']) (hm : Mem w0 hz w L) (hk : (L[k]?, lk l t, cs[0]?, L[k']?, lk l t', cs'[0]?) = (some (blk b cs T), some (.pointer (some ⟨b, 0, none⟩)), some v, some (blk b' cs' T'), some (.pointer (some ⟨b', 0, none⟩)), some v'))
  (hg : ∀ w, (isAgg ty).run P w = .ok false w) (hg' : ∀ w, (isAgg ty').run P w = .ok false w) (h : R pay (.tuple #[v, v']) w) : G (some pay) r n l (bodyPost P fn (Rt (Jr R r)) .ret) w := fun he a hf => by
 obtain rfl := Option.some.inj he
 obtain ⟨h1, h2, h3, h4, h5, h6⟩ := t6 hk
 refine ⟨hf.defers, .tuple #[v, v'], ?_, h⟩
 have hl := hm.blk_cell k h1 h3
 have hl' := hm.blk_cell k' h4 h6
 simp [results, hr, hf.get _ _ h2, hf.get _ _ h5, asAddr, loadVar, hg, hg', hl, hl']
end
end Go.Wk
namespace Go.Wk
open Go Go.RowKit
section
variable {α : Type} [GT α]
def opt (v0 : Value) (x0 : α) (v : Value) (x : α) : Ch where
 pr F h := (v = v0 ∧ x = x0) ∨ GT.own F h [v] x
 loc _ _ _ hp hh := hp.elim .inl fun h => .inr (GT.own_loc h hh)
 mono _ _ _ hp hF := hp.elim .inl fun h => .inr (GT.own_mono hF h)
variable {w0 w : World} {hz h0 : kX} {L : List Ch} {v0 v v2 : Value} {x0 x x2 : α} {h : kX}
theorem Mem.opt_new (v : Value) (x : α) (hm : Mem w0 hz w L) : Mem w0 hz w (opt v x v x :: L) := by
 obtain ⟨Fs, h1, h2, h3⟩ := hm.chs
 refine ⟨hm.same, hm.lez, fun i b => ∃ j, i = j + 1 ∧ Fs j b, fun i c hi => ?_, ?_, ?_⟩
 ·cases i with
  | zero => simp at hi; subst hi; exact .inl ⟨rfl, rfl⟩
  | succ i => exact c.mono _ _ _ (h1 i c (by simpa using hi)) fun b hb => ⟨i, rfl, hb⟩
 ·rintro i k b hik ⟨j, rfl, hj⟩ ⟨j', rfl, hj'⟩
  exact h2 j j' b (fun e => hik (by rw [e])) hj hj'
 ·rintro i b ⟨j, _, hj⟩
  exact h3 j b hj
theorem tr (hle : kX.le h0 h) (hr : GT.rep h0 [v0] x0) (H : ∃ F, (opt v0 x0 v x).pr F h) : GT.rep h [v] x := by
 obtain ⟨F, ⟨rfl, rfl⟩ | hp⟩ := H
 ·exact GT.mono hle hr
 ·exact GT.own_rep hp
theorem Mem.opt_rep (hm : Mem w0 hz w L) (k : Nat) (hk : L[k]? = some (opt v0 x0 v x)) (hr : GT.rep hz [v0] x0) : GT.rep (hp w) [v] x := by
 obtain ⟨F, h, _⟩ := hm.get k hk
 exact tr hm.lez hr ⟨F, h⟩
theorem Mem.opt_own (hm : Mem w0 hz w L) (k j : Nat) (hkj : k ≠ j) (hk : L[k]? = some (opt v0 x0 v x)) (hj : L[j]? = some (ow [v2] x2)) : Mem w0 hz w ((L.set k (opt v0 x0 v2 x2)).set j xg) :=
 hm.merge k j hkj hk hj fun F G _ h2 _ => .inr (GT.own_mono (fun b hb => .inr hb) h2)
theorem Mem.opt_base (hm : Mem w0 hz w L) (k : Nat) (hk : L[k]? = some (opt v0 x0 v x)) : Mem w0 hz w (L.set k (opt v0 x0 v0 x0)) :=
 hm.imp k hk fun _ _ => .inl ⟨rfl, rfl⟩
theorem Mem.opt_comp (hm : Mem w0 hz w L) (k j : Nat) (hkj : k ≠ j) (hk : L[k]? = some (opt v0 x0 v x)) (hj : L[j]? = some (opt v x v2 x2)) : Mem w0 hz w ((L.set k (opt v0 x0 v2 x2)).set j xg) :=
 hm.merge k j hkj hk hj fun F G h1 h2 _ => h2.elim (fun e => h1.elim (fun e1 => .inl ⟨e.1.trans e1.1, e.2.trans e1.2⟩) fun e1 => .inr (by rw [e.1, e.2]; exact GT.own_mono (fun b hb => .inl hb) e1)) fun e => .inr (GT.own_mono (fun b hb => .inr hb) e)
end
end Go.Wk
namespace Go.Wk
open Go Go.RowKit
theorem Mem.rebase {w0 w : World} {hz : kX} {L : List Ch} (hm : Mem w0 hz w L) : Mem w hz w L := ⟨rW.refl w, hm.lez, hm.chs⟩
theorem Mem.back {w0 w w' : World} {hz hz' : kX} {L M : List Ch} (hm : Mem w0 hz w L) (hM : Mem w hz' w' M) : Mem w0 hz' w' M := ⟨hm.same.trans hM.same, hM.lez, hM.chs⟩
theorem Mem.shrow {α : Type} [GT α] {w0 w : World} {hz : kX} {L : List Ch} {cs : List Value} {x : α} (hm : Mem w0 hz w L) (hr : GT.rep hz cs x) : Mem w0 hz w (ow (α := Sh hz α) cs x :: L) :=
 hm.more (rW.refl w) (fun _ _ => rfl) ⟨fun _ => False, fun _ h => h.elim, hr⟩
end Go.Wk
