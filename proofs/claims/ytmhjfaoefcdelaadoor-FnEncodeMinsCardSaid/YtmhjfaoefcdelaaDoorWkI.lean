/- A part of a proof: general laws of walks, no statement of the seat. -/
/- Bytes, strings, bits, arrays. -/
import Derived.Test.YtmhjfaoefcdelaaDoorWkH
import Derived.Laws.Strings
namespace Go.Wk
open Go Go.RowKit

theorem idx_map {α : Type} {f : α → Value} {xs : List α} {i : Nat} {x : α} {cs : Array Value} (hx : xs[i]? = some x) (hc : cs = (xs.map f).toArray) : cs[i]? = some (f x) := by
  subst hc
  simp [hx]

/-- The byte of an integer. -/
def byteI (n : Int) : UInt8 := UInt8.ofNat (n % 256).toNat
theorem byteI_wrap (n : Int) : IntKind.u8.wrap n = ((byteI n).toNat : Int) := by
  rw [IntKind.wrap_u8]
  unfold byteI
  simp
  omega
theorem byteI_toNat (n : Int) : ((byteI n).toNat : Int) = n % 256 := by
  unfold byteI
  simp
  omega
/-- Shifts, and bit by bit. -/
def shlI (i j : Int) : Int := IntKind.i64.wrap (i * 2 ^ (min j.toNat 64))
def shrI (i j : Int) : Int := i.fdiv (2 ^ (min j.toNat 64))
def andI (i j : Int) : Int := IntKind.i64.wrap ((BitVec.ofInt 64 i &&& BitVec.ofInt 64 j).toNat : Int)
def orI (i j : Int) : Int := IntKind.i64.wrap ((BitVec.ofInt 64 i ||| BitVec.ofInt 64 j).toNat : Int)
/-- Division that may fail. -/
def quoM (i j : Int) : Option Int := if j = 0 then none else some (w64 (i.tdiv j))
def remM (i j : Int) : Option Int := if j = 0 then none else some (i.tmod j)
theorem quoM_some {i j q : Int} : quoM i j = some q ↔ j ≠ 0 ∧ w64 (i.tdiv j) = q := by
  unfold quoM; by_cases h : j = 0 <;> simp [h]
theorem remM_some {i j q : Int} : remM i j = some q ↔ j ≠ 0 ∧ i.tmod j = q := by
  unfold remM; by_cases h : j = 0 <;> simp [h]

section
variable {P : Program} {l : Env} {w : World} {o : Oper} {x y : Operand} {t t' s : TypeId} {k k' : IntKind} {i j : Int} {b c : UInt8}

theorem y_conv {d : TypeDesc} (hs : P.underlying s = some d) (hd : P.underlying t = some (.int k)) (ho : o.op = .convert s t x) (hx : ev l x = some (.int k' i)) : Yl P l w o (.int k (k.wrap i)) := fun n a hf => by
  simp [execOp, ho, hf.eval hx, convert, run_underlying hs, run_underlying hd, Conv.intToInt]
theorem y_conv8 {d : TypeDesc} (hs : P.underlying s = some d) (hd : P.underlying t = some (.int .u8)) (ho : o.op = .convert s t x) (hx : ev l x = some (.int .i64 i)) : Yl P l w o (.int .u8 ((byteI i).toNat : Int)) := by
  have := y_conv (w := w) hs hd ho hx
  rwa [byteI_wrap] at this
theorem y_conv64 {d : TypeDesc} (hs : P.underlying s = some d) (hd : P.underlying t = some (.int .i64)) (ho : o.op = .convert s t x) (hx : ev l x = some (.int .u8 (b.toNat : Int))) : Yl P l w o (.int .i64 (b.toNat : Int)) := by
  have := y_conv (w := w) hs hd ho hx
  have e : IntKind.i64.wrap (b.toNat : Int) = (b.toNat : Int) := w64_id (by omega) (by have := b.toNat_lt; omega)
  rwa [e] at this
theorem y_conv_id {d : TypeDesc} (hs : P.underlying s = some d) (hd : P.underlying t = some (.int .i64)) (ho : o.op = .convert s t x) (hx : ev l x = some (.int .i64 i)) (h1 : -9223372036854775808 ≤ i) (h2 : i < 9223372036854775808) : Yl P l w o (.int .i64 i) := by
  have := y_conv (w := w) hs hd ho hx
  have e : IntKind.i64.wrap i = i := w64_id h1 h2
  rwa [e] at this
theorem y_convw {d : TypeDesc} (hs : P.underlying s = some d) (hd : P.underlying t = some (.int .i64)) (ho : o.op = .convert s t x) (hx : ev l x = some (.int .i64 i)) : Yl P l w o (.int .i64 (w64 i)) := y_conv (w := w) hs hd ho hx

theorem y_eql8 (ho : o.op = .binOp .eql t x y t') (hx : ev l x = some (.int .u8 (b.toNat : Int))) (hy : ev l y = some (.int .u8 (c.toNat : Int))) : Yl P l w o (.bool (decide (b = c))) := by
  have := y_eql (P := P) (w := w) ho hx hy
  have e : decide ((b.toNat : Int) = (c.toNat : Int)) = decide (b = c) := by
    rw [decide_eq_decide]
    constructor
    · intro h; exact UInt8.toNat_inj.1 (by omega)
    · rintro rfl; rfl
  rwa [e] at this
theorem y_neq8 (ho : o.op = .binOp .neq t x y t') (hx : ev l x = some (.int .u8 (b.toNat : Int))) (hy : ev l y = some (.int .u8 (c.toNat : Int))) : Yl P l w o (.bool (decide (b ≠ c))) := by
  have := y_neq (P := P) (w := w) ho hx hy
  have e : decide ((b.toNat : Int) ≠ (c.toNat : Int)) = decide (b ≠ c) := by
    rw [decide_eq_decide]
    constructor
    · rintro h rfl; exact h rfl
    · intro h h'; exact h (UInt8.toNat_inj.1 (by omega))
  rwa [e] at this
theorem y_lss8 (ho : o.op = .binOp .lss t x y t') (hx : ev l x = some (.int .u8 (b.toNat : Int))) (hy : ev l y = some (.int .u8 (c.toNat : Int))) : Yl P l w o (.bool (decide (b < c))) := by
  have := y_lss (P := P) (w := w) ho hx hy
  have e : decide ((b.toNat : Int) < (c.toNat : Int)) = decide (b < c) := by
    rw [decide_eq_decide, UInt8.lt_iff_toNat_lt]; omega
  rwa [e] at this
theorem y_leq8 (ho : o.op = .binOp .leq t x y t') (hx : ev l x = some (.int .u8 (b.toNat : Int))) (hy : ev l y = some (.int .u8 (c.toNat : Int))) : Yl P l w o (.bool (decide (b ≤ c))) := by
  have := y_leq (P := P) (w := w) ho hx hy
  have e : decide ((b.toNat : Int) ≤ (c.toNat : Int)) = decide (b ≤ c) := by
    rw [decide_eq_decide, UInt8.le_iff_toNat_le]; omega
  rwa [e] at this
theorem y_gtr8 (ho : o.op = .binOp .gtr t x y t') (hx : ev l x = some (.int .u8 (b.toNat : Int))) (hy : ev l y = some (.int .u8 (c.toNat : Int))) : Yl P l w o (.bool (decide (c < b))) := by
  have := y_gtr (P := P) (w := w) ho hx hy
  have e : decide ((c.toNat : Int) < (b.toNat : Int)) = decide (c < b) := by
    rw [decide_eq_decide, UInt8.lt_iff_toNat_lt]; omega
  rwa [e] at this
theorem y_geq8 (ho : o.op = .binOp .geq t x y t') (hx : ev l x = some (.int .u8 (b.toNat : Int))) (hy : ev l y = some (.int .u8 (c.toNat : Int))) : Yl P l w o (.bool (decide (c ≤ b))) := by
  have := y_geq (P := P) (w := w) ho hx hy
  have e : decide ((c.toNat : Int) ≤ (b.toNat : Int)) = decide (c ≤ b) := by
    rw [decide_eq_decide, UInt8.le_iff_toNat_le]; omega
  rwa [e] at this
theorem u8_wrap_nat (m : Nat) : IntKind.u8.wrap (m : Int) = ((m % 256 : Nat) : Int) := by rw [IntKind.wrap_u8]; omega
theorem y_add8 (ho : o.op = .binOp .add t x y t') (hx : ev l x = some (.int .u8 (b.toNat : Int))) (hy : ev l y = some (.int .u8 (c.toNat : Int))) : Yl P l w o (.int .u8 ((b + c).toNat : Int)) := by
  have := y_add (P := P) (w := w) ho hx hy
  have e : IntKind.u8.wrap ((b.toNat : Int) + (c.toNat : Int)) = ((b + c).toNat : Int) := by
    rw [← Int.natCast_add, u8_wrap_nat, UInt8.toNat_add]
  rwa [e] at this
theorem y_mul8 (ho : o.op = .binOp .mul t x y t') (hx : ev l x = some (.int .u8 (b.toNat : Int))) (hy : ev l y = some (.int .u8 (c.toNat : Int))) : Yl P l w o (.int .u8 ((b * c).toNat : Int)) := by
  have := y_mul (P := P) (w := w) ho hx hy
  have e : IntKind.u8.wrap ((b.toNat : Int) * (c.toNat : Int)) = ((b * c).toNat : Int) := by
    rw [← Int.natCast_mul, u8_wrap_nat, UInt8.toNat_mul]
  rwa [e] at this
theorem y_sub8 (ho : o.op = .binOp .sub t x y t') (hx : ev l x = some (.int .u8 (b.toNat : Int))) (hy : ev l y = some (.int .u8 (c.toNat : Int))) : Yl P l w o (.int .u8 ((b - c).toNat : Int)) := by
  have := y_sub (P := P) (w := w) ho hx hy
  have e : IntKind.u8.wrap ((b.toNat : Int) - (c.toNat : Int)) = ((b - c).toNat : Int) := by
    have h1 := b.toNat_lt
    have h2 := c.toNat_lt
    rw [IntKind.wrap_u8, UInt8.toNat_sub]
    omega
  rwa [e] at this

theorem y_shl (ho : o.op = .binOp .shl t x y t') (hx : ev l x = some (.int .i64 i)) (hy : ev l y = some (.int k j)) (hj : 0 ≤ j) : Yl P l w o (.int .i64 (shlI i j)) := fun n a hf => by
  have : ¬ j < 0 := by omega
  simp [execOp, ho, hf.eval hx, hf.eval hy, binOp, eqGuard, Op.shift, this, shlI, IntKind.bits]
theorem y_shr (ho : o.op = .binOp .shr t x y t') (hx : ev l x = some (.int .i64 i)) (hy : ev l y = some (.int k j)) (hj : 0 ≤ j) : Yl P l w o (.int .i64 (shrI i j)) := fun n a hf => by
  have : ¬ j < 0 := by omega
  simp [execOp, ho, hf.eval hx, hf.eval hy, binOp, eqGuard, Op.shift, this, shrI, IntKind.bits]
theorem y_and (ho : o.op = .binOp .and t x y t') (hx : ev l x = some (.int .i64 i)) (hy : ev l y = some (.int .i64 j)) : Yl P l w o (.int .i64 (andI i j)) := fun n a hf => by
  simp [execOp, ho, hf.eval hx, hf.eval hy, binOp, eqGuard, Op.intBits, andI]
  rfl
theorem y_or (ho : o.op = .binOp .or t x y t') (hx : ev l x = some (.int .i64 i)) (hy : ev l y = some (.int .i64 j)) : Yl P l w o (.int .i64 (orI i j)) := fun n a hf => by
  simp [execOp, ho, hf.eval hx, hf.eval hy, binOp, eqGuard, Op.intBits, orI]
  rfl
theorem y_quo (ho : o.op = .binOp .quo t x y t') (hx : ev l x = some (.int .i64 i)) (hy : ev l y = some (.int .i64 j)) (hj : j ≠ 0) : Yl P l w o (.int .i64 (w64 (i.tdiv j))) := fun n a hf => by
  simp [execOp, ho, hf.eval hx, hf.eval hy, binOp, eqGuard, Op.intDiv, hj, w64]
theorem y_rem (ho : o.op = .binOp .rem t x y t') (hx : ev l x = some (.int .i64 i)) (hy : ev l y = some (.int .i64 j)) (hj : j ≠ 0) : Yl P l w o (.int .i64 (i.tmod j)) := fun n a hf => by
  simp [execOp, ho, hf.eval hx, hf.eval hy, binOp, eqGuard, Op.intDiv, hj]

/-! strings -/
theorem bytes_toList (b : ByteArray) : b.toList = b.data.toList := ByteArray.toList_eq b
theorem y_eqls {p q : Str} (ho : o.op = .binOp .eql t x y t') (hx : ev l x = some (.string ⟨p.b.toArray⟩)) (hy : ev l y = some (.string ⟨q.b.toArray⟩)) : Yl P l w o (.bool (decide (p = q))) := fun n a hf => by
  have e : (p.b == q.b) = decide (p = q) := by
    by_cases h : p = q
    · simp [h]
    · have : p.b ≠ q.b := fun h' => h (Str.ext' h')
      simp [h, this]
  simp [execOp, ho, hf.eval hx, hf.eval hy, binOp, eqGuard, Op.stringOp, bytes_toList, e]
theorem y_neqs {p q : Str} (ho : o.op = .binOp .neq t x y t') (hx : ev l x = some (.string ⟨p.b.toArray⟩)) (hy : ev l y = some (.string ⟨q.b.toArray⟩)) : Yl P l w o (.bool (decide (p ≠ q))) := fun n a hf => by
  have e : (!(p.b == q.b)) = decide (p ≠ q) := by
    by_cases h : p = q
    · simp [h]
    · have : p.b ≠ q.b := fun h' => h (Str.ext' h')
      simp [h, this]
  simp [execOp, ho, hf.eval hx, hf.eval hy, binOp, eqGuard, Op.stringOp, bytes_toList, e]
theorem y_len_str {p : Str} (ht : P.underlying t = some .string) (ho : o.op = .call { callee := .builtin .len, args := #[x], argTypes := #[t] }) (hx : ev l x = some (.string ⟨p.b.toArray⟩)) : Yl P l w o (.int .i64 (p.b.length : Int)) := by
  have := y_len_string (w := w) ht ho hx
  exact this
theorem y_idx_str {p : Str} (ht : P.underlying t = some .string) (ho : o.op = .index t x y) (hx : ev l x = some (.string ⟨p.b.toArray⟩)) (hy : ev l y = some (.int k i)) (hi : 0 ≤ i) (hb : p.b[i.toNat]? = some b) : Yl P l w o (.int .u8 (b.toNat : Int)) := fun n a hf => by
  have hlt : i.toNat < p.b.length := (List.getElem?_eq_some_iff.1 hb).1
  have hv := (List.getElem?_eq_some_iff.1 hb).2
  have e : (⟨p.b.toArray⟩ : ByteArray)[i.toNat]? = some b := by
    rw [getElem?_pos (⟨p.b.toArray⟩ : ByteArray) i.toNat (by show i.toNat < p.b.toArray.size; simpa using hlt)]
    show some (p.b.toArray[i.toNat]'_) = _
    simp [hv]
  simp [execOp, ho, hf.eval hx, hf.eval hy, Instr.index, asIntOf, run_underlying ht, hi, e]
/-- An element of an array that is a value; each element one cell. -/
theorem y_idx_arr {len : Nat} {e : TypeId} {cs : Array Value} {v : Value} (ht : P.underlying t = some (.array len e)) (hs : ∀ w, (sizeOf e).run P w = .ok 1 w) (ha : ∀ w, (isAgg e).run P w = .ok false w) (ho : o.op = .index t x y)
    (hx : ev l x = some (.agg cs)) (hy : ev l y = some (.int k i)) (hi : 0 ≤ i) (hl : i < (len : Int)) (hv : cs[i.toNat]? = some v) : Yl P l w o v := fun n a hf => by
  simp [execOp, ho, hf.eval hx, hf.eval hy, Instr.index, asIntOf, run_underlying ht, hi, hl, part, ha, hs, hv]
theorem y_indexArr {b off len : Nat} {e : TypeId} {n : Nat} (ht : P.underlying t = some (.array len e)) (hs : ∀ w, (sizeOf e).run P w = .ok n w) (ho : o.op = .indexAddr t x y) (hx : ev l x = some (.pointer (some ⟨b, off, none⟩))) (hy : ev l y = some (.int k i)) (h0 : 0 ≤ i) (hi : i.toNat < len) :
    Yl P l w o (.pointer (some ⟨b, off + i.toNat * n, none⟩)) := fun nn a hf => by
  have h1 : i < (len : Int) := by omega
  simp [execOp, ho, hf.eval hx, hf.eval hy, Instr.indexAt, asIntOf, run_underlying ht, h0, h1, hs, add_none, Instr.sureAddr]
theorem equal_bool {p q : Bool} (ht : P.underlying t = some .bool) : (Op.equal t (.bool p) (.bool q)).run P w = .ok (p == q) w := by
  unfold Op.equal
  rw [show Op.maxDepth = 9999 + 1 from rfl]
  unfold Op.equalIn
  rw [Sem.run_bind, run_underlying ht]
  rfl
theorem y_eqlb {p q : Bool} (ht : P.underlying t = some .bool) (ho : o.op = .binOp .eql t x y t') (hx : ev l x = some (.bool p)) (hy : ev l y = some (.bool q)) : Yl P l w o (.bool (decide (p = q))) := fun n a hf => by
  simp only [execOp, ho, hf.eval hx, hf.eval hy, binOp, eqGuard]
  simp [equal_bool ht]
  cases p <;> cases q <;> rfl
theorem y_neqb {p q : Bool} (ht : P.underlying t = some .bool) (ho : o.op = .binOp .neq t x y t') (hx : ev l x = some (.bool p)) (hy : ev l y = some (.bool q)) : Yl P l w o (.bool (decide (p ≠ q))) := fun n a hf => by
  simp only [execOp, ho, hf.eval hx, hf.eval hy, binOp, eqGuard]
  simp [equal_bool ht]
  cases p <;> cases q <;> rfl
/-! integers of whatever kind -/
theorem y_shlk (ho : o.op = .binOp .shl t x y t') (hx : ev l x = some (.int k i)) (hy : ev l y = some (.int k' j)) (hj : 0 ≤ j) : Yl P l w o (.int k (k.wrap (i * 2 ^ (min j.toNat k.bits)))) := fun n a hf => by
  have : ¬ j < 0 := by omega
  simp [execOp, ho, hf.eval hx, hf.eval hy, binOp, eqGuard, Op.shift, this]
theorem y_shrk (ho : o.op = .binOp .shr t x y t') (hx : ev l x = some (.int k i)) (hy : ev l y = some (.int k' j)) (hj : 0 ≤ j) : Yl P l w o (.int k (i.fdiv (2 ^ (min j.toNat k.bits)))) := fun n a hf => by
  have : ¬ j < 0 := by omega
  simp [execOp, ho, hf.eval hx, hf.eval hy, binOp, eqGuard, Op.shift, this]
def bitsK (k : IntKind) (f : BitVec k.bits → BitVec k.bits → BitVec k.bits) (i j : Int) : Int := k.wrap ((f (BitVec.ofInt k.bits i) (BitVec.ofInt k.bits j)).toNat : Int)
theorem y_andk (ho : o.op = .binOp .and t x y t') (hx : ev l x = some (.int k i)) (hy : ev l y = some (.int k j)) : Yl P l w o (.int k (bitsK k (· &&& ·) i j)) := fun n a hf => by
  simp [execOp, ho, hf.eval hx, hf.eval hy, binOp, eqGuard, Op.intBits, bitsK]
theorem y_ork (ho : o.op = .binOp .or t x y t') (hx : ev l x = some (.int k i)) (hy : ev l y = some (.int k j)) : Yl P l w o (.int k (bitsK k (· ||| ·) i j)) := fun n a hf => by
  simp [execOp, ho, hf.eval hx, hf.eval hy, binOp, eqGuard, Op.intBits, bitsK]
theorem y_xork (ho : o.op = .binOp .xor t x y t') (hx : ev l x = some (.int k i)) (hy : ev l y = some (.int k j)) : Yl P l w o (.int k (bitsK k (· ^^^ ·) i j)) := fun n a hf => by
  simp [execOp, ho, hf.eval hx, hf.eval hy, binOp, eqGuard, Op.intBits, bitsK]
end
end Go.Wk
