/- A part of a proof: general laws of walks, no statement of the seat. -/
/- Loops without a count: plain laws. -/
import Derived.Test.YtjbcoilagfdidaaDoorWkP
namespace Go.Wk
open Go
end Go.Wk
