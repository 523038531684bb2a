/- A part of the proof of FnExactReachedMinsSaid. -/
import Derived.Test.YthfeimbpjeijpaaWkAd
namespace Go.Wk
open Go

structure Mins where
  op : Int
  a_ : Int
  b : Int
  c : Int
  n_ : Int
  deriving DecidableEq, Inhabited

instance : Flat Mins := Flat.mk' Mins 5 (fun m => [(.int .i64 (m.op)), (.int .i64 (m.a_)), (.int .i64 (m.b)), (.int .i64 (m.c)), (.int .i64 (m.n_))]) (fun _ => rfl) (fun x => by simp [Value.oneCell'])

structure Mfn where
  params : Int
  slots : Int
  ins : List Mins
  deriving DecidableEq, Inhabited

instance : GT Mfn := GT.via (fun m => (m.params, m.slots, m.ins))

end Go.Wk
