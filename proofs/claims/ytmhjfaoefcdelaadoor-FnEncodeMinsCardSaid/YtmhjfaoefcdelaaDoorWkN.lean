/- A part of a proof: general laws of walks, no statement of the seat. -/
/- Strings out of bytes, strings put together; bits. -/
import Derived.Test.YtmhjfaoefcdelaaDoorWkM
import Derived.Laws.BytesString
import Derived.Laws.Concat
namespace Go.Wk
open Go Go.RowKit

/-- The string of bytes (all of them, where a place can hold them). -/
def strL (l : List UInt8) : Str := ⟨l.take 140737488355328, by simp; omega⟩
theorem strL_b {l : List UInt8} (h : l.length ≤ 140737488355328) : (strL l).b = l := by simp [strL, List.take_of_length_le h]
/-- Strings put together, if they are not too long. -/
def catS (s t : Str) : Option Str := if h : s.b.length + t.b.length ≤ 140737488355328 then some ⟨s.b ++ t.b, by simpa using h⟩ else none
theorem catS_some {s t u : Str} : catS s t = some u ↔ s.b.length + t.b.length ≤ 140737488355328 ∧ u.b = s.b ++ t.b := by
  unfold catS
  by_cases h : s.b.length + t.b.length ≤ 140737488355328
  · simp only [h, dif_pos, Option.some.injEq, true_and]
    constructor
    · rintro rfl; rfl
    · intro e; exact (Str.ext' e.symm)
  · simp [h]

section
variable {P : Program} {l : Env} {w : World} {o : Oper} {x y : Operand} {t t' s e : TypeId}
theorem y_adds {p q u : Str} (ho : o.op = .binOp .add t x y t') (hx : ev l x = some (.string ⟨p.b.toArray⟩)) (hy : ev l y = some (.string ⟨q.b.toArray⟩)) (hu : p.b.length + q.b.length ≤ 140737488355328 ∧ u.b = p.b ++ q.b) :
    Yl P l w o (.string ⟨u.b.toArray⟩) := fun n a hf => by
  have h := run_string_add_sum (P := P) w ⟨p.b.toArray⟩ ⟨q.b.toArray⟩ (by show p.b.toArray.size + q.b.toArray.size ≤ _; simp; omega)
  rw [ByteArray.mk_append_mk, ← hu.2] at h
  simp [execOp, ho, hf.eval hx, hf.eval hy, binOp, eqGuard, h]

theorem push_all (xs : List UInt8) (r : ByteArray) : (xs.map fun b => (b.toNat : Int)).foldl (fun r n => r.push (UInt8.ofNat n.toNat)) r = ⟨r.data ++ xs.toArray⟩ := by
  induction xs generalizing r with
  | nil => simp
  | cons b xs ih =>
    rw [List.map_cons, List.foldl_cons, ih]
    congr 1
    simp

theorem enc_bytes (xs : List UInt8) : xs.flatMap Flat.enc = xs.map (Value.int .u8 ∘ fun b => (b.toNat : Int)) := by
  induction xs with
  | nil => rfl
  | cons b xs ih => rw [List.flatMap_cons, ih]; rfl

theorem y_bytesStr {xs : List UInt8} {v : Value} (hs : P.underlying s = some (.slice e)) (he : P.underlying e = some (.int .u8)) (hd : P.underlying t = some .string) (ho : o.op = .convert s t x) (hx : ev l x = some v) (hr : GT.rep (hp w) [v] xs) :
    Yl P l w o (.string ⟨(strL xs).b.toArray⟩) := fun n a hf => by
  rw [strL_b (rep_len hr)]
  rcases rep_list.1 hr with ⟨rfl | ⟨p, cap, rfl⟩, rfl⟩ | ⟨b, off, len, cap, rfl, hl, hc, hm, h3⟩
  · simp [execOp, ho, hf.eval hx, convert, run_underlying hs, run_underlying hd, run_underlying he, Conv.bytesToString]
    rfl
  · have h := run_bytesToString (P := P) w p 0 cap [] (by
      have := run_loadCells_list (P := P) w p [] (fun j v hj => by simp at hj)
      simpa using this)
    simp [execOp, ho, hf.eval hx, convert, run_underlying hs, run_underlying hd, run_underlying he, h]
    rfl
  · have hsrc := rep_src hr
    obtain ⟨q1, _, ⟨hv, _⟩ | ⟨ad, c, hv, q3⟩⟩ := hsrc
    · cases hv
    · simp only [Value.slice.injEq, Option.some.injEq] at hv
      obtain ⟨rfl, rfl, rfl⟩ := hv
      have hcs : xs.flatMap Flat.enc = (xs.map fun b => (b.toNat : Int)).map (Value.int .u8) := by
        rw [List.map_map]
        exact enc_bytes xs
      have hld := run_loadCells_list (P := P) w ⟨b, off, none⟩ _ q3
      rw [hcs] at hld
      have h := run_bytesToString (P := P) w ⟨b, off, none⟩ xs.length cap (xs.map fun b => (b.toNat : Int)) (by simpa using hld)
      rw [push_all] at h
      simp [execOp, ho, hf.eval hx, convert, run_underlying hs, run_underlying hd, run_underlying he, h]
end
end Go.Wk
