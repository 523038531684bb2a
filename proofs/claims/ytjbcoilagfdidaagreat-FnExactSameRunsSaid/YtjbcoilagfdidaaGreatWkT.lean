/- A part of a proof: general laws of walks, no statement of the seat. -/
/- A part of an element that is turned; parts lent. -/
import Derived.Test.YtjbcoilagfdidaaGreatWkO
namespace Go.Wk
open Go Go.RowKit

section
variable {α β : Type} [GT α] [GT β] {F : Nat → Prop} {h : Heap} {cs cs' ds ds' : List Value} {x x' : α} {y y' : β}
end
end Go.Wk
