/- A part of a proof: general laws of walks, no statement of the seat. -/
/- Maps of the call's own. -/
import Derived.Test.YtjbcoilagfdidaaDoorWkN
import Derived.MapKept
namespace Go.Wk
open Go Go.RowKit

section
variable {κ β : Type} [DecidableEq κ]
/-- Where a key lies, and what lies there. -/
def findIx (k : κ) : List (κ × β) → Nat → Option (Nat × β)
  | [], _ => none
  | p :: r, i => if k = p.1 then some (i, p.2) else findIx k r (i + 1)
def lookM (es : List (κ × β)) (k : κ) : Option β := (findIx k es 0).map (·.2)
def insM (es : List (κ × β)) (k : κ) (v : β) : List (κ × β) := match findIx k es 0 with
  | some (i, _) => es.set i (k, v)
  | none => es ++ [(k, v)]

/-- How keys of a type stand, and that the machine tells them apart. -/
structure KeyOk (P : Program) (kt : TypeId) (kenc : κ → Value) : Prop where
  check : ∀ n e k w, (Instr.checkKey e (n + 1) kt (kenc k)).run P w = .ok () w
  und : ∃ d, P.underlying kt = some d ∧ ∀ a b, Instr.sameNow d (kenc a) (kenc b) = some (decide (a = b))
  bits : ∀ a, Instr.sameBits 10000 (kenc a) (kenc a) = true

def mapc (kenc : κ → Value) (venc : β → Value) (r : Nat) (es : List (κ × β)) : Ch where
  pr F h := F r ∧ ∃ E clock, h r = some (.map E clock) ∧ E.toList.map (fun e => (e.key, e.val)) = es.map (fun p => (kenc p.1, venc p.2))
  loc F h h' := fun ⟨hF, E, c, h1, h2⟩ hh => ⟨hF, E, c, (hh r hF).trans h1, h2⟩
  mono F F' h := fun ⟨hF, hr⟩ hFF => ⟨hFF r hF, hr⟩

variable {P : Program} {a : Act} {w w0 : World} {hz : Heap} {L : List Ch} {o : Oper} {n : Nat} {l : Env} {x y z : Operand} {t kt vt : TypeId} {kenc : κ → Value} {venc : β → Value} {r : Nat} {es : List (κ × β)}

end

section
variable {P : Program} {l : Env} {w : World} {o : Oper} {x y : Operand} {t t' s : TypeId} {k' : IntKind} {i : Int} {b c : UInt8}
end

section
variable {P : Program} {fn : Func} {R : Value → World → Prop} {a : Act} {w w0 : World} {hz : Heap} {L : List Ch} {n : Nat} {l : Env} {v2 v3 : Value} {t t2 t3 : Nat}
end
end Go.Wk
