/- A part of the proof of FnCalledCodeSaid. -/
import Derived.Test.YtjbcoilagfdidaaWkAa
namespace Go.Wk
open Go

structure l30Rd where
  b : List UInt8
  p : Int
  deriving DecidableEq, Inhabited

instance : GT l30Rd := GT.via (fun m => (m.b, m.p))

structure Phi_ where
  to : Int
  args : List Int
  deriving DecidableEq, Inhabited

instance : GT Phi_ := GT.via (fun m => (m.to, m.args))

structure Ins_ where
  op : Int
  to : Int
  args : List Int
  n_ : Int
  deriving DecidableEq, Inhabited

instance : GT Ins_ := GT.via (fun m => (m.op, m.to, m.args, m.n_))

structure Block_ where
  phis : List Phi_
  ins : List Ins_
  jump : Int
  on : Int
  next_ : List Int
  deriving DecidableEq, Inhabited

instance : GT Block_ := GT.via (fun m => (m.phis, m.ins, m.jump, m.on, m.next_))

structure Code_ where
  params : Int
  regs : Int
  blocks : List Block_
  deriving DecidableEq, Inhabited

instance : GT Code_ := GT.via (fun m => (m.params, m.regs, m.blocks))

structure Unit_ where
  codes : List Code_
  deriving DecidableEq, Inhabited

instance : GT Unit_ := GT.via (fun m => (m.codes))

structure running where
  u : Unit_
  steps : Int
  used : Int
  said : List Int
  cells : List Int
  trace : List Int
  deriving DecidableEq, Inhabited

instance : GT running := GT.via (fun m => (m.u, m.steps, m.used, m.said, m.cells, m.trace))

structure Outcome_ where
  said : List Int
  end_ : Int
  value : Int
  cells : List Int
  deriving DecidableEq, Inhabited

instance : GT Outcome_ := GT.via (fun m => (m.said, m.end_, m.value, m.cells))

structure l8Run where
  u : Unit_
  out : Outcome_
  steps : Int
  over : Bool
  trace : List Int
  deriving DecidableEq, Inhabited

instance : GT l8Run := GT.via (fun m => (m.u, m.out, m.steps, m.over, m.trace))

end Go.Wk
