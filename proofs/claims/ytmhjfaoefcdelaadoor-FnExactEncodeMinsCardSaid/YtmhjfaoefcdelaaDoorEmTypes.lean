/- A part of the proof of FnExactEncodeMinsCardSaid. -/
import Derived.Test.YtmhjfaoefcdelaaDoorWkI
namespace Go.Wk
open Go

structure Mins where
  op : Int
  a_ : Int
  b : Int
  c : Int
  n_ : Int
  deriving DecidableEq, Inhabited

instance : Flat Mins := Flat.mk' Mins 5 (fun m => [(.int .i64 (m.op)), (.int .i64 (m.a_)), (.int .i64 (m.b)), (.int .i64 (m.c)), (.int .i64 (m.n_))]) (fun _ => rfl) (fun x => by simp [Value.oneCell'])

structure form where
  name : Str
  fields : Int
  deriving DecidableEq, Inhabited

instance : Flat form := Flat.mk' form 2 (fun m => [(.string ⟨(m.name).b.toArray⟩), (.int .i64 (m.fields))]) (fun _ => rfl) (fun x => by simp [Value.oneCell'])

end Go.Wk
