/- A part of a proof: general laws of walks, no statement of the seat. -/
/- Strings out of bytes, strings put together; bits. -/
import Derived.Test.YtjbcoilagfdidaaDoorWkM
import Derived.Laws.BytesString
import Derived.Laws.Concat
namespace Go.Wk
open Go Go.RowKit

/-- The string of bytes (all of them, where a place can hold them). -/
def strL (l : List UInt8) : Str := ⟨l.take 140737488355328, by simp; omega⟩
/-- Strings put together, if they are not too long. -/
def catS (s t : Str) : Option Str := if h : s.b.length + t.b.length ≤ 140737488355328 then some ⟨s.b ++ t.b, by simpa using h⟩ else none
section
variable {P : Program} {l : Env} {w : World} {o : Oper} {x y : Operand} {t t' s e : TypeId}
end
end Go.Wk
