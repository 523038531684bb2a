/- A part of a proof: general laws of walks, no statement of the seat. -/
/- Models that call themselves: the steps of a model keep the order of 'none below some', so that 'partial_fixpoint' makes them. -/
import Derived.Test.YtjbcoilagfdidaaDoorWkU
import Derived.Test.YtjbcoilagfdidaaDoorWkP
namespace Go.Wk
open Go Lean.Order

theorem le_opt {α : Type} {a b : Option α} : PartialOrder.rel a b ↔ ∀ x, a = some x → b = some x := by
  constructor
  · intro h
    change FlatOrder.rel (b := none) a b at h
    cases h with
    | bot => intro x hx; cases hx
    | refl => exact fun _ h => h
  · intro h
    change FlatOrder.rel (b := none) a b
    cases a with
    | none => exact .bot
    | some x => rw [h x rfl]; exact .refl

universe u
variable {γ : Type u} [PartialOrder γ] {α β S X : Type}

@[partial_fixpoint_monotone]
theorem mono_obind (f : γ → Option α) (g : γ → α → Option β) (hf : monotone f) (hg : monotone g) : monotone fun x => Option.bind (f x) (g x) := fun x y h => le_opt.2 fun z hz => by
  obtain ⟨a, h1, h2⟩ := Option.bind_eq_some_iff.1 hz
  exact Option.bind_eq_some_iff.2 ⟨a, le_opt.1 (hf x y h) a h1, le_opt.1 (hg x y h a) z h2⟩

@[partial_fixpoint_monotone]
theorem mono_sumElim {A B : Type} (f : γ → A → Option β) (g : γ → B → Option β) (hf : monotone f) (hg : monotone g) : monotone fun x => Sum.elim (f x) (g x) := fun x y h s => by
  cases s with
  | inl a => exact hf x y h a
  | inr b => exact hg x y h b

@[partial_fixpoint_monotone]
theorem mono_oelim (o : Option α) (f : γ → Option β) (g : γ → α → Option β) (hf : monotone f) (hg : monotone g) : monotone fun x => Option.elim o (f x) (g x) := fun x y h => by
  cases o with
  | none => exact hf x y h
  | some a => exact hg x y h a

theorem forN_le {b1 b2 : Int → S → Option (S ⊕ X)} (h : ∀ i s z, b1 i s = some z → b2 i s = some z) : ∀ (k : Nat) (i : Int) (s : S) (z : S ⊕ X), forN b1 k i s = some z → forN b2 k i s = some z := by
  intro k
  induction k with
  | zero => intro i s z hz; exact hz
  | succ k ih =>
    intro i s z hz
    cases hb : b1 i s with
    | none => rw [forN] at hz; simp [hb] at hz
    | some r =>
      cases r with
      | inl s' => rw [forN_inl (h _ _ _ hb)]; rw [forN_inl hb] at hz; exact ih _ _ _ hz
      | inr x => rw [forN_inr (h _ _ _ hb)]; rw [forN_inr hb] at hz; exact hz

@[partial_fixpoint_monotone]
theorem mono_forN (f : γ → Int → S → Option (S ⊕ X)) (k : Nat) (i : Int) (s : S) (hf : monotone f) : monotone fun x => forN (f x) k i s := fun x y h =>
  le_opt.2 (forN_le (fun i s z hz => le_opt.1 (hf x y h i s) z hz) k i s)

theorem loopN_le {b1 b2 : S → Option (S ⊕ X)} (h : ∀ s z, b1 s = some z → b2 s = some z) : ∀ (n : Nat) (s : S) (z : X), loopN b1 n s = some z → loopN b2 n s = some z := by
  intro n
  induction n with
  | zero => intro s z hz; exact hz
  | succ n ih =>
    intro s z hz
    simp only [loopN] at hz ⊢
    cases hb : b1 s with
    | none => simp [hb] at hz
    | some r =>
      rw [h _ _ hb]
      cases r with
      | inl s' => simp only [hb] at hz ⊢; exact ih _ _ hz
      | inr x => simp only [hb] at hz ⊢; exact hz

@[partial_fixpoint_monotone]
theorem mono_loopM (f : γ → S → Option (S ⊕ X)) (s : S) (hf : monotone f) : monotone fun x => loopM (f x) s := fun x y h =>
  le_opt.2 fun z hz => by
    obtain ⟨n, hn⟩ := loopM_eq.1 hz
    exact loopM_eq.2 ⟨n, loopN_le (fun s z hz => le_opt.1 (hf x y h s) z hz) n s z hn⟩

section
variable {P : Program} {l : Env} {w : World} {o : Oper} {x : Operand} {t : TypeId} {i : Int}
end
end Go.Wk
