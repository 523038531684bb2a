/- A part of the proof of FnExactColourUnitSaid. -/
import Derived.Test.YtabgclojkbijbaaGreatCoModels
namespace Go.Wk
open Go
namespace Unt
theorem clash1 (a b : Int) (xs : List (MapO Bool)) : impl_clashing_1 a b xs = if a ≠ b then Option.bind (put1 a b xs) (put1 b a) else some xs := by
 unfold impl_clashing_1 put1
 by_cases h : a = b
 ·simp [h]
 ·simp only [ne_eq, h, not_false_eq_true, decide_true, if_true]
  cases h1 : getI xs a with
  | none => rfl
  | some x =>
   simp only [Option.bind_some]
   cases h2 : getI xs b with
   | none =>
    cases h3 : MapO.get x with
    | none => rfl
    | some m =>
     have h4 : getI (xs.set a.toNat (MapO.of (m.ins b true))) b = none := by
      unfold getI at h2 ⊢
      split
      ·rename_i hb
       rw [if_pos hb] at h2
       rw [List.getElem?_eq_none_iff] at h2 ⊢
       simpa using h2
      ·rfl
     simp only [Option.bind_some, Option.bind_none, h4]
   | some y =>
    simp only [Option.bind_some]
    cases h3 : MapO.get x with
    | none => rfl
    | some m =>
     simp only [Option.bind_some]
     cases h4 : getI (xs.set a.toNat (MapO.of (m.ins b true))) b with
     | none => rfl
     | some z =>
      simp only [Option.bind_some]
      cases MapO.get z <;> rfl
theorem cf_comp {S : Type} {f g h : S → Option S} (h1 : CommF f h) (h2 : CommF g h) : CommF (fun s => Option.bind (f s) g) h := fun s => by
 show Option.bind (Option.bind (f s) g) h = Option.bind (h s) fun t => Option.bind (f t) g
 have e1 := h1 s
 cases hf : f s with
 | none =>
  rw [hf] at e1
  cases hh : h s with
  | none => rfl
  | some t =>
   rw [hh] at e1
   have e2 : none = f t := e1
   show none = Option.bind (f t) g
   rw [← e2]; rfl
 | some u =>
  rw [hf] at e1
  show Option.bind (g u) h = _
  rw [h2 u]
  have e2 : h u = Option.bind (h s) f := e1
  rw [e2]
  cases h s <;> rfl
theorem clash_comm (a b c d : Int) : CommF (impl_clashing_1 a b) (impl_clashing_1 c d) := by
 have e : ∀ a b, impl_clashing_1 a b = fun xs => if a ≠ b then Option.bind (put1 a b xs) (put1 b a) else some xs := fun a b => funext (clash1 a b)
 rw [e a b, e c d]
 refine cf_ite (cf_comp (cf_symm ?_) (cf_symm ?_)) cf_some
 ·exact cf_ite (cf_comp (put1_comm _ _ _ _) (put1_comm _ _ _ _)) cf_some
 ·exact cf_ite (cf_comp (put1_comm _ _ _ _) (put1_comm _ _ _ _)) cf_some
theorem cput_l {a b : Int} {g : List (MapO Bool) → Option (List (MapO Bool))} (h : CommF g (impl_clashing_1 a b)) : CommF (fun s => impl_clashing_1 a b s) g := cf_symm h
theorem cput_r {a b c d : Int} : CommF (fun s => impl_clashing_1 a b s) (impl_clashing_1 c d) := clash_comm a b c d
end Unt
end Go.Wk
