/- A part of the proof of FnEncodeMinsCardSaid. -/
import Derived.Test.YtmhjfaoefcdelaaDoorWkU
namespace Go.Wk
open Go

structure l30Rd where
  b : List UInt8
  p : Int
  deriving DecidableEq, Inhabited

instance : GT l30Rd := GT.via (fun m => (m.b, m.p))

structure Mins where
  op : Int
  a_ : Int
  b : Int
  c : Int
  n_ : Int
  deriving DecidableEq, Inhabited

instance : Flat Mins := Flat.mk' Mins 5 (fun m => [(.int .i64 (m.op)), (.int .i64 (m.a_)), (.int .i64 (m.b)), (.int .i64 (m.c)), (.int .i64 (m.n_))]) (fun _ => rfl) (fun x => by simp [Value.oneCell'])

structure Mfn where
  params : Int
  slots : Int
  ins : List Mins
  deriving DecidableEq, Inhabited

instance : GT Mfn := GT.via (fun m => (m.params, m.slots, m.ins))

structure Mach where
  fns : List Mfn
  deriving DecidableEq, Inhabited

instance : GT Mach := GT.via (fun m => (m.fns))

structure form where
  name : Str
  fields : Int
  deriving DecidableEq, Inhabited

instance : Flat form := Flat.mk' form 2 (fun m => [(.string ⟨(m.name).b.toArray⟩), (.int .i64 (m.fields))]) (fun _ => rfl) (fun x => by simp [Value.oneCell'])

structure layout where
  f : Mfn
  long : List Bool
  sizes : List Int
  places : List Int
  size : Int
  deriving DecidableEq, Inhabited

instance : GT layout := GT.via (fun m => (m.f, m.long, m.sizes, m.places, m.size))

end Go.Wk
