/- A part of a proof: general laws of walks, no statement of the seat. -/
import Derived.Test.YtjkdjdicpfjifaaGreatWkY
import Derived.Maps.RangeRun
import Derived.Shelf.Sort.Plain
import Derived.Shelf.Slices.In.SortNone
import Derived.Shelf.Slices.CompactI
import Derived.Lib.RowBridge
/- Sets and tables of integers: maps as lists in the order of their keys; map memory owned like slices. -/
namespace Go.Wk
open Go Go.RowKit

/-- A map from integers: its entries in the order of their keys. -/
structure MapS (β : Type) where
  es : List (Int × β)
  so : es.Pairwise (fun a b => a.1 < b.1)
  deriving DecidableEq
instance {β : Type} : Inhabited (MapS β) := ⟨⟨[], .nil⟩⟩

namespace MapS
variable {β : Type}
def get (m : MapS β) (k : Int) : Option β := lookM m.es k
def mk0 : MapS β := ⟨[], .nil⟩
def ins (m : MapS β) (k : Int) (v : β) : MapS β :=
  ⟨m.es.filter (fun p => decide (p.1 < k)) ++ (k, v) :: m.es.filter (fun p => decide (k < p.1)), by
    refine List.pairwise_append.2 ⟨m.so.filter _, List.pairwise_cons.2 ⟨fun p hp => by simpa using (List.mem_filter.1 hp).2, m.so.filter _⟩, fun a ha b hb => ?_⟩
    have h1 : a.1 < k := by simpa using (List.mem_filter.1 ha).2
    rcases List.mem_cons.1 hb with e | hb
    · subst e; exact h1
    · have h2 : k < b.1 := by simpa using (List.mem_filter.1 hb).2
      omega⟩
def del (m : MapS β) (k : Int) : MapS β := ⟨m.es.filter (fun p => decide (p.1 ≠ k)), m.so.filter _⟩
def keys (m : MapS β) : List Int := m.es.map (·.1)
def len (m : MapS β) : Int := (m.es.length : Int)
end MapS

/-! ### entries in any order -/
section
variable {β : Type}
end

class MV (β : Type) where
  venc : β → Value
  inj : ∀ a b, venc a = venc b → a = b
instance : MV Bool := ⟨.bool, fun a b h => by simpa using h⟩
instance : MV Int := ⟨.int .i64, fun a b h => by simpa using h⟩

/-- A map lies in a block. -/
def mapAt {β : Type} [MV β] (h : Heap) (r : Nat) (m : MapS β) : Prop :=
  ∃ (E : Array MapEntry) (clock : Nat) (es : List (Int × β)), h r = some (.map E clock) ∧ MapKept.Stamped E clock ∧ E.toList.map (fun e => (e.key, e.val)) = es.map (fun p : Int × β => (Value.int .i64 p.1, MV.venc p.2)) ∧ es.Perm m.es

instance {β : Type} [MV β] : GT (MapS β) where
  sz := 1
  rep h cs m := ∃ v, cs = [v] ∧ ((v = .map none ∧ m.es = []) ∨ ∃ r, v = .map (some r) ∧ mapAt h r m)
  own F h cs m := ∃ v, cs = [v] ∧ ((v = .map none ∧ m.es = []) ∨ ∃ r, v = .map (some r) ∧ F r ∧ mapAt h r m)
  len := by rintro h cs m ⟨v, rfl, _⟩; rfl
  mono := by
    rintro h h' cs m hh ⟨v, rfl, hr⟩
    refine ⟨v, rfl, ?_⟩
    rcases hr with hr | ⟨r, hv, E, c, es, h1, h2⟩
    · exact .inl hr
    · exact .inr ⟨r, hv, E, c, es, hh _ _ h1, h2⟩
  own_rep := by
    rintro F h cs m ⟨v, rfl, hr⟩
    refine ⟨v, rfl, ?_⟩
    rcases hr with hr | ⟨r, hv, _, h1⟩
    · exact .inl hr
    · exact .inr ⟨r, hv, h1⟩
  own_loc := by
    rintro F h h' cs m ⟨v, rfl, hr⟩ hh
    refine ⟨v, rfl, ?_⟩
    rcases hr with hr | ⟨r, hv, hF, E, c, es, h1, h2⟩
    · exact .inl hr
    · exact .inr ⟨r, hv, hF, E, c, es, (hh r hF).trans h1, h2⟩
  own_mono := by
    rintro F F' h cs m hF ⟨v, rfl, hr⟩
    refine ⟨v, rfl, ?_⟩
    rcases hr with hr | ⟨r, hv, h1, h2⟩
    · exact .inl hr
    · exact .inr ⟨r, hv, hF r h1, h2⟩
  one := by
    rintro h cs m ⟨v, rfl, hr⟩ u hu
    simp at hu
    subst hu
    rcases hr with ⟨rfl, _⟩ | ⟨r, rfl, _⟩ <;> rfl

section
variable {β : Type} [MV β] {P : Program} {a : Act} {w w0 : World} {hz : Heap} {L : List Ch} {o : Oper} {n : Nat} {l : Env} {x y z : Operand} {t kt vt : TypeId} {r : Nat} {m : MapS β} {v : Value}

/-- A map of the call's own that is not nil. -/
def owm (v : Value) (m : MapS β) : Ch where
  pr F h := ∃ r, v = .map (some r) ∧ F r ∧ mapAt h r m
  loc := fun F h h' ⟨r, hv, hF, E, c, es, h1, h2⟩ hh => ⟨r, hv, hF, E, c, es, (hh r hF).trans h1, h2⟩
  mono := fun F F' h ⟨r, hv, h1, h2⟩ hF => ⟨r, hv, hF r h1, h2⟩
end
end Go.Wk
/- Ranges over maps: a body whose rounds may be told in any order. -/
namespace Go.Wk
open Go Go.RowKit

/-- A block that holds an object. -/
def oc (b : Nat) (o : Obj) : Ch where
  pr F h := F b ∧ h b = some o
  loc _ _ _ hp hh := ⟨hp.1, (hh b hp.1).trans hp.2⟩
  mono _ _ _ hp hF := ⟨hF b hp.1, hp.2⟩

/-! ### rounds in any order -/
section
variable {α S : Type}
def rangeM (body : α → S → Option S) : List α → S → Option S
  | [], s => some s
  | p :: es, s => Option.bind (body p s) (rangeM body es)
def Comm (body : α → S → Option S) : Prop := ∀ p q s, Option.bind (body p s) (body q) = Option.bind (body q s) (body p)
end

section
variable {β S : Type} [MV β]
/-- An entry as data. -/
noncomputable def dec (e : MapEntry) (z : Int × β) : Int × β := by
  classical exact if h : ∃ p : Int × β, (e.key, e.val) = (Value.int .i64 p.1, MV.venc p.2) then h.choose else z
end

/-! ### the steps of a range over a map that is read alone -/
section
variable {β S : Type} [MV β] {P : Program} {ops : Array Oper} {a : Act} {w w0 : World} {hz : Heap} {L : List Ch} {o : Oper} {n d : Nat} {l : Env} {x : Operand} {t kt vt ty : TypeId} {v : Value} {m : MapS β} {b : Nat} {seen : Array Nat}

/-- An iterator over a map of the memory hz. -/
def itc (hz : Heap) (v : Value) (b : Nat) (seen : Array Nat) : Ch where
  pr F h := F b ∧ ((v = .map none ∧ h b = some (.mapIter none 0 seen 0)) ∨ ∃ r E clock, v = .map (some r) ∧ hz r = some (.map E clock) ∧ h b = some (.mapIter (some r) clock seen clock))
  loc F h h' hp hh := ⟨hp.1, by rw [hh b hp.1]; exact hp.2⟩
  mono F F' h hp hF := ⟨hF b hp.1, hp.2⟩

/-- Something is left, and the body can be told of it. -/
def More (hz : Heap) (v : Value) (seen : Array Nat) (body : Int × β → S → Option S) (s : S) : Prop :=
  ∃ r E clock, v = .map (some r) ∧ hz r = some (.map E clock) ∧ MapKept.Stamped E clock ∧ (leftOf E seen).size ≠ 0 ∧ ∀ e ∈ (leftOf E seen).toList, ∃ p s', (e.key, e.val) = (Value.int .i64 p.1, MV.venc p.2) ∧ body p s = some s'
def NoMore (hz : Heap) (v : Value) (seen : Array Nat) : Prop :=
  v = .map none ∨ ∃ r E clock, v = .map (some r) ∧ hz r = some (.map E clock) ∧ MapKept.Stamped E clock ∧ (leftOf E seen).size = 0
/-- The entry that has come out. -/
def Got (hz : Heap) (v : Value) (seen : Array Nat) (bn : Nat) (p : Int × β) : Prop :=
  ∃ r E clock e, v = .map (some r) ∧ hz r = some (.map E clock) ∧ MapKept.Stamped E clock ∧ e ∈ (leftOf E seen).toList ∧ bn = e.born ∧ (e.key, e.val) = (Value.int .i64 p.1, MV.venc p.2)
/-- A round told. -/
def Rnd (hz : Heap) (v : Value) (seen : Array Nat) (body : Int × β → S → Option S) (s : S) (J : Array Nat → S → Act → World → Prop) (a : Act) (w : World) : Prop :=
  ∃ bn p s', Got hz v seen bn p ∧ body p s = some s' ∧ J (seen.push bn) s' a w

variable {ρ : Type} {c : Code} {Q : Exit → Act → World → Prop} {r : ρ} {s0 : S}
end
end Go.Wk
/- The library's sort of integers, out of the shelf's contract. -/
namespace Go.Wk
open Go Go.RowKit Go.Shelf

def sortI (xs : List Int) : List Int := xs.mergeSort fun x y => decide (x ≤ y)
section
variable {P : Program} {ρ : Ren} {w0 : World} {hz : Heap} {v : Value} {xs : List Int}

end
end Go.Wk
/- A range over a map whose keys are put behind a list, where what follows does not look at their order. -/
namespace Go.Wk
open Go Go.RowKit

section
variable {β ρ : Type} [MV β] {P : Program} {w0 : World} {hz : Heap} {n : Nat} {l : Env} {w : World} {v : Value} {m : MapS β} {c : Code} {Q : Exit → Act → World → Prop} {r : ρ}
end
section
variable {β : Type} [MV β] {w0 : World} {hz : Heap} {w : World} {L : List Ch} {v : Value} {m : MapS β}
end
section
variable {P : Program} {l : Env} {w : World} {o : Oper} {x y : Operand} {t kt vt : TypeId} {v : Value} {key : Int}
end
end Go.Wk
/- Memory handed on, chunks forgotten. -/
namespace Go.Wk
open Go Go.RowKit
end Go.Wk
/- Slice expressions with a capacity that ends where the part ends. -/
namespace Go.Wk
open Go Go.RowKit

def subC (s : Nat) (v : Value) (lo hi : Nat) : Value := match v with
  | .slice p _ _ => .slice (if hi = lo then p else p.map (·.add (lo * s))) (hi - lo) (hi - lo)
  | v => v

section
variable {α : Type} [GT α] {h : Heap} {v : Value} {xs : List α} {lo hi : Nat} {F : Nat → Prop}
theorem own_subC (ho : GT.own F h [v] xs) (h1 : lo ≤ hi) (h2 : hi ≤ xs.length) : GT.own F h [subC (GT.sz α) v lo hi] ((xs.take hi).drop lo) := by
  refine own_list.2 ?_
  rcases own_list.1 ho with ⟨rfl, rfl⟩ | ⟨b, off, len, cap, C, T, rfl, hF, hb, hl, hc, hm, hs, fps, g1, g2, g3⟩
  · simp at h2
    have : lo = 0 := by omega
    subst h2; subst this
    exact .inl ⟨by simp [subC], by simp⟩
  · by_cases hcl : hi = lo
    · subst hcl
      simp only [subC, if_true, Nat.sub_self]
      refine .inr ⟨b, off, 0, 0, C, T, rfl, hF, hb, by simp, by omega, ⟨by simp [maxLen], by omega⟩, by omega, fun _ _ => False, fun _ _ h => h.elim, fun _ _ _ _ h => h.elim, fun i x hx => by simp at hx⟩
    · simp only [subC, hcl, if_false, Option.map_some, add_none]
      refine .inr ⟨b, off + lo * GT.sz α, hi - lo, hi - lo, C, T, rfl, hF, hb, by simp; omega, Nat.le_refl _, ⟨by omega, by omega⟩, ?_, fun i => fps (lo + i), fun i c hc => g1 _ c hc, fun i j c hij => g2 _ _ c (by omega), fun i x hx => ?_⟩
      · have e : (hi - lo) * GT.sz α + lo * GT.sz α = hi * GT.sz α := by rw [← Nat.add_mul]; congr 1; omega
        have : hi * GT.sz α ≤ cap * GT.sz α := Nat.mul_le_mul_right _ (by omega)
        omega
      · obtain ⟨_, hx'⟩ := sub_get hx
        have := g3 _ x hx'
        rwa [Nat.add_mul, ← Nat.add_assoc] at this
end

section
variable {α : Type} [GT α] {P : Program} {l : Env} {h : Heap} {o : Oper} {x yl yh ym : Operand} {t e : TypeId} {v : Value} {xs : List α} {lo hi : Int} {kl kh km : IntKind}
theorem run_subC (hT : SliceTy P t e (GT.sz α)) {p : Option Addr} {len cap : Nat} (w : World) (low : Option Value) (l1 h1 : Nat)
    (hl : (low = none ∧ l1 = 0) ∨ ∃ k, low = some (.int k (l1 : Int))) (h2 : l1 ≤ h1) (h3 : h1 ≤ len) (h4 : len ≤ cap) :
    (Instr.slice t (.slice p len cap) low (some (.int kh (h1 : Int))) (some (.int km (h1 : Int)))).run P w = .ok (subC (GT.sz α) (.slice p len cap) l1 h1) w := by
  have hsz := hT.size
  have e1 : h1 ≤ cap := by omega
  have e2 : (h1 - l1 = 0) = (h1 = l1) := by rw [eq_iff_iff]; omega
  rcases hl with ⟨rfl, rfl⟩ | ⟨kl, rfl⟩ <;>
    simp [Instr.slice, Instr.sliceBounds, Instr.sliceBound, run_underlying hT.und, asIntOf, e1, h2, h4, hsz, subC]
theorem y_slcHC (hT : SliceTy P t e (GT.sz α)) (hr : GT.rep h [v] xs) (ho : o.op = .slice t x none (some yh) (some ym)) (hx : ev l x = some v) (hh : ev l yh = some (.int kh hi)) (hm : ev l ym = some (.int km hi)) (hb : (0 : Int) ≤ 0 ∧ 0 ≤ hi ∧ hi ≤ (xs.length : Int)) (w : World) :
    Yl P l w o (subC (GT.sz α) v (0 : Int).toNat hi.toNat) := fun n a hf => by
  obtain ⟨p, cap, rfl, hc⟩ := rep_cap hr
  obtain ⟨h1, rfl⟩ := Int.eq_ofNat_of_zero_le hb.2.1
  have := run_subC (α := α) (P := P) (kh := kh) (km := km) hT (p := p) (len := xs.length) (cap := cap) w none 0 h1 (.inl ⟨rfl, rfl⟩) (by omega) (by omega) hc
  simp [execOp, ho, hf.eval hx, hf.eval hh, hf.eval hm, Instr.sliceAt, run_underlying hT.und, this]
end
end Go.Wk
