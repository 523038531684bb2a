/- A part of a proof: general laws of walks, no statement of the seat. -/
/- Bytes, strings, bits, arrays. -/
import Derived.Test.YtjbcoilagfdidaaDoorWkH
import Derived.Laws.Strings
namespace Go.Wk
open Go Go.RowKit

/-- The byte of an integer. -/
def byteI (n : Int) : UInt8 := UInt8.ofNat (n % 256).toNat
/-- Shifts, and bit by bit. -/
def shlI (i j : Int) : Int := IntKind.i64.wrap (i * 2 ^ (min j.toNat 64))
def shrI (i j : Int) : Int := i.fdiv (2 ^ (min j.toNat 64))
def andI (i j : Int) : Int := IntKind.i64.wrap ((BitVec.ofInt 64 i &&& BitVec.ofInt 64 j).toNat : Int)
def orI (i j : Int) : Int := IntKind.i64.wrap ((BitVec.ofInt 64 i ||| BitVec.ofInt 64 j).toNat : Int)
/-- Division that may fail. -/
def quoM (i j : Int) : Option Int := if j = 0 then none else some (w64 (i.tdiv j))
def remM (i j : Int) : Option Int := if j = 0 then none else some (i.tmod j)
theorem quoM_some {i j q : Int} : quoM i j = some q ↔ j ≠ 0 ∧ w64 (i.tdiv j) = q := by
  unfold quoM; by_cases h : j = 0 <;> simp [h]
theorem remM_some {i j q : Int} : remM i j = some q ↔ j ≠ 0 ∧ i.tmod j = q := by
  unfold remM; by_cases h : j = 0 <;> simp [h]

section
variable {P : Program} {l : Env} {w : World} {o : Oper} {x y : Operand} {t t' s : TypeId} {k k' : IntKind} {i j : Int} {b c : UInt8}

theorem y_conv {d : TypeDesc} (hs : P.underlying s = some d) (hd : P.underlying t = some (.int k)) (ho : o.op = .convert s t x) (hx : ev l x = some (.int k' i)) : Yl P l w o (.int k (k.wrap i)) := fun n a hf => by
  simp [execOp, ho, hf.eval hx, convert, run_underlying hs, run_underlying hd, Conv.intToInt]
theorem y_conv64 {d : TypeDesc} (hs : P.underlying s = some d) (hd : P.underlying t = some (.int .i64)) (ho : o.op = .convert s t x) (hx : ev l x = some (.int .u8 (b.toNat : Int))) : Yl P l w o (.int .i64 (b.toNat : Int)) := by
  have := y_conv (w := w) hs hd ho hx
  have e : IntKind.i64.wrap (b.toNat : Int) = (b.toNat : Int) := w64_id (by omega) (by have := b.toNat_lt; omega)
  rwa [e] at this
theorem y_and (ho : o.op = .binOp .and t x y t') (hx : ev l x = some (.int .i64 i)) (hy : ev l y = some (.int .i64 j)) : Yl P l w o (.int .i64 (andI i j)) := fun n a hf => by
  simp [execOp, ho, hf.eval hx, hf.eval hy, binOp, eqGuard, Op.intBits, andI]
  rfl
theorem y_or (ho : o.op = .binOp .or t x y t') (hx : ev l x = some (.int .i64 i)) (hy : ev l y = some (.int .i64 j)) : Yl P l w o (.int .i64 (orI i j)) := fun n a hf => by
  simp [execOp, ho, hf.eval hx, hf.eval hy, binOp, eqGuard, Op.intBits, orI]
  rfl
theorem y_quo (ho : o.op = .binOp .quo t x y t') (hx : ev l x = some (.int .i64 i)) (hy : ev l y = some (.int .i64 j)) (hj : j ≠ 0) : Yl P l w o (.int .i64 (w64 (i.tdiv j))) := fun n a hf => by
  simp [execOp, ho, hf.eval hx, hf.eval hy, binOp, eqGuard, Op.intDiv, hj, w64]
theorem y_rem (ho : o.op = .binOp .rem t x y t') (hx : ev l x = some (.int .i64 i)) (hy : ev l y = some (.int .i64 j)) (hj : j ≠ 0) : Yl P l w o (.int .i64 (i.tmod j)) := fun n a hf => by
  simp [execOp, ho, hf.eval hx, hf.eval hy, binOp, eqGuard, Op.intDiv, hj]

/-! strings -/
theorem y_indexArr {b off len : Nat} {e : TypeId} {n : Nat} (ht : P.underlying t = some (.array len e)) (hs : ∀ w, (sizeOf e).run P w = .ok n w) (ho : o.op = .indexAddr t x y) (hx : ev l x = some (.pointer (some ⟨b, off, none⟩))) (hy : ev l y = some (.int k i)) (h0 : 0 ≤ i) (hi : i.toNat < len) :
    Yl P l w o (.pointer (some ⟨b, off + i.toNat * n, none⟩)) := fun nn a hf => by
  have h1 : i < (len : Int) := by omega
  simp [execOp, ho, hf.eval hx, hf.eval hy, Instr.indexAt, asIntOf, run_underlying ht, h0, h1, hs, add_none, Instr.sureAddr]
theorem equal_bool {p q : Bool} (ht : P.underlying t = some .bool) : (Op.equal t (.bool p) (.bool q)).run P w = .ok (p == q) w := by
  unfold Op.equal
  rw [show Op.maxDepth = 9999 + 1 from rfl]
  unfold Op.equalIn
  rw [Sem.run_bind, run_underlying ht]
  rfl
theorem y_eqlb {p q : Bool} (ht : P.underlying t = some .bool) (ho : o.op = .binOp .eql t x y t') (hx : ev l x = some (.bool p)) (hy : ev l y = some (.bool q)) : Yl P l w o (.bool (decide (p = q))) := fun n a hf => by
  simp only [execOp, ho, hf.eval hx, hf.eval hy, binOp, eqGuard]
  simp [equal_bool ht]
  cases p <;> cases q <;> rfl
theorem y_neqb {p q : Bool} (ht : P.underlying t = some .bool) (ho : o.op = .binOp .neq t x y t') (hx : ev l x = some (.bool p)) (hy : ev l y = some (.bool q)) : Yl P l w o (.bool (decide (p ≠ q))) := fun n a hf => by
  simp only [execOp, ho, hf.eval hx, hf.eval hy, binOp, eqGuard]
  simp [equal_bool ht]
  cases p <;> cases q <;> rfl
/-! integers of whatever kind -/
def bitsK (k : IntKind) (f : BitVec k.bits → BitVec k.bits → BitVec k.bits) (i j : Int) : Int := k.wrap ((f (BitVec.ofInt k.bits i) (BitVec.ofInt k.bits j)).toNat : Int)
theorem y_andk (ho : o.op = .binOp .and t x y t') (hx : ev l x = some (.int k i)) (hy : ev l y = some (.int k j)) : Yl P l w o (.int k (bitsK k (· &&& ·) i j)) := fun n a hf => by
  simp [execOp, ho, hf.eval hx, hf.eval hy, binOp, eqGuard, Op.intBits, bitsK]
theorem y_ork (ho : o.op = .binOp .or t x y t') (hx : ev l x = some (.int k i)) (hy : ev l y = some (.int k j)) : Yl P l w o (.int k (bitsK k (· ||| ·) i j)) := fun n a hf => by
  simp [execOp, ho, hf.eval hx, hf.eval hy, binOp, eqGuard, Op.intBits, bitsK]
theorem y_xork (ho : o.op = .binOp .xor t x y t') (hx : ev l x = some (.int k i)) (hy : ev l y = some (.int k j)) : Yl P l w o (.int k (bitsK k (· ^^^ ·) i j)) := fun n a hf => by
  simp [execOp, ho, hf.eval hx, hf.eval hy, binOp, eqGuard, Op.intBits, bitsK]
end
end Go.Wk
