/- A part of a proof: general laws of walks, no statement of the seat. -/
/- Loops without a count: plain laws. -/
import Derived.Test.YtmhjfaoefcdelaaDoorWkP
namespace Go.Wk
open Go
/-- Two loops, round by round. -/
theorem loopM_rel {S T X Y : Type} {b1 : S → Option (S ⊕ X)} {b2 : T → Option (T ⊕ Y)} (R : S → T → Prop) (Q : X → Y → Prop) (μ : S → Nat)
    (hs : ∀ s t, R s t → (∃ s' t', b1 s = some (.inl s') ∧ b2 t = some (.inl t') ∧ R s' t' ∧ μ s' < μ s) ∨ ∃ x y, b1 s = some (.inr x) ∧ b2 t = some (.inr y) ∧ Q x y) :
    ∀ (n : Nat) (s : S) (t : T), R s t → μ s < n → ∃ x y, loopM b1 s = some x ∧ loopM b2 t = some y ∧ Q x y := by
  intro n
  induction n with
  | zero => intro s t _ h; omega
  | succ n ih =>
    intro s t hr hn
    rcases hs s t hr with ⟨s', t', h1, h2, h3, h4⟩ | ⟨x, y, h1, h2, h3⟩
    · obtain ⟨x, y, g1, g2, g3⟩ := ih s' t' h3 (by omega)
      exact ⟨x, y, (loopM_inl h1).trans g1, (loopM_inl h2).trans g2, g3⟩
    · exact ⟨x, y, loopM_inr h1, loopM_inr h2, h3⟩
theorem loopM_law {S X : Type} {b1 : S → Option (S ⊕ X)} (R : S → Prop) (Q : X → Prop) (μ : S → Nat)
    (hs : ∀ s, R s → (∃ s', b1 s = some (.inl s') ∧ R s' ∧ μ s' < μ s) ∨ ∃ x, b1 s = some (.inr x) ∧ Q x) :
    ∀ (n : Nat) (s : S), R s → μ s < n → ∃ x, loopM b1 s = some x ∧ Q x := by
  intro n
  induction n with
  | zero => intro s _ h; omega
  | succ n ih =>
    intro s hr hn
    rcases hs s hr with ⟨s', h1, h3, h4⟩ | ⟨x, h1, h3⟩
    · obtain ⟨x, g1, g3⟩ := ih s' h3 (by omega)
      exact ⟨x, (loopM_inl h1).trans g1, g3⟩
    · exact ⟨x, loopM_inr h1, h3⟩
end Go.Wk
