/- A part of a proof: general laws of walks, no statement of the seat. -/
/- A part of an element that is turned; parts lent. -/
import Derived.Test.YtjbcoilagfdidaaDoorWkO
namespace Go.Wk
open Go Go.RowKit

section
variable {α β : Type} [GT α] [GT β] {F : Nat → Prop} {h : Heap} {cs cs' ds ds' : List Value} {x x' : α} {y y' : β}
theorem own_pair_inv (hl : cs.length = GT.sz α) (ho : GT.own F h (cs ++ ds) (x, y)) : ∃ G H : Nat → Prop, (∀ b, G b → F b) ∧ (∀ b, H b → F b) ∧ (∀ b, G b → ¬ H b) ∧ GT.own G h cs x ∧ GT.own H h ds y := by
  obtain ⟨c, d, he, G, H, g1, g2, g3, h1, h2⟩ := ho
  have hc : c.length = GT.sz α := GT.len (GT.own_rep h1)
  obtain ⟨rfl, rfl⟩ := List.append_inj he.symm (by rw [hc, hl])
  exact ⟨G, H, g1, g2, g3, h1, h2⟩
theorem own_fst_map (hl : cs.length = GT.sz α) (f : ∀ G : Nat → Prop, GT.own G h cs x → GT.own G h cs' x') (ho : GT.own F h (cs ++ ds) (x, y)) : GT.own F h (cs' ++ ds) (x', y) := by
  obtain ⟨G, H, g1, g2, g3, h1, h2⟩ := own_pair_inv hl ho
  exact ⟨cs', ds, rfl, G, H, g1, g2, g3, f G h1, h2⟩
theorem own_snd_map (hl : cs.length = GT.sz α) (f : ∀ G : Nat → Prop, GT.own G h ds y → GT.own G h ds' y') (ho : GT.own F h (cs ++ ds) (x, y)) : GT.own F h (cs ++ ds') (x, y') := by
  obtain ⟨G, H, g1, g2, g3, h1, h2⟩ := own_pair_inv hl ho
  exact ⟨cs, ds', rfl, G, H, g1, g2, g3, h1, f H h2⟩
end
end Go.Wk
