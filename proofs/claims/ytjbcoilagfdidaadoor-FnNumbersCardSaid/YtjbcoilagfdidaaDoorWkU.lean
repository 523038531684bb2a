/- A part of a proof: general laws of walks, no statement of the seat. -/
/- An element of a list that stays open: its own cells can be read, a slice in it is the call's own. -/
import Derived.Test.YtjbcoilagfdidaaDoorWkT
namespace Go.Wk
open Go Go.RowKit

section
variable {α β γ : Type} [GT α] [GT β] [GT γ] {h : Heap}

/-- As FocH; what stays behind holds the block b. -/
def FocHB (h : Heap) (cs : List Value) (x : α) (v : List Value) (inner : β) (put : β → α) (b : Nat) : Prop :=
  ∀ (F : Nat → Prop), GT.own F h cs x → ∃ R G : Nat → Prop, R b ∧ (∀ b, R b → F b) ∧ (∀ b, G b → F b) ∧ (∀ b, R b → ¬ G b) ∧ GT.own G h v inner ∧
    ∀ (h' : Heap) (G' : Nat → Prop) (y : β), (∀ b, R b → h' b = h b) → (∀ b, G' b → ¬ R b) → GT.own G' h' v y → GT.own (fun b => R b ∨ G' b) h' cs (put y)

/-- A list with a part of an element taken out; the element's own cells are known. -/
def holeC (b o : Nat) (ecs cs : List Value) (v : List Value) (put : β → α) : Ch where
  pr R h := (hole cs v put).pr R h ∧ R b ∧ CellsAt h b o ecs
  loc R h h2 hp hh := ⟨(hole cs v put).loc R h h2 hp.1 hh, hp.2.1, by
    obtain ⟨C, T, fz, e1, e2⟩ := hp.2.2
    exact ⟨C, T, fz, (hh b hp.2.1).trans e1, e2⟩⟩
  mono R R' h hp hR := ⟨(hole cs v put).mono R R' h hp.1 hR, hR b hp.2.1, hp.2.2⟩

variable {w0 w : World} {hz : Heap} {L : List Ch}

theorem CellsAt.inj {b o : Nat} {cs ds : List Value} (h1 : CellsAt h b o cs) (h2 : CellsAt h b o ds) (hl : cs.length = ds.length) : cs = ds := by
  obtain ⟨C, T, fz, e1, e2⟩ := h1
  obtain ⟨C', T', fz', e3, e4⟩ := h2
  rw [e1] at e3
  simp only [Option.some.injEq, Obj.cells.injEq] at e3
  obtain ⟨rfl, _, _⟩ := e3
  apply List.ext_getElem?
  intro j
  by_cases hj : j < cs.length
  · have a1 := e2 j _ (List.getElem?_eq_getElem hj)
    have a2 := e4 j _ (List.getElem?_eq_getElem (show j < ds.length by omega))
    rw [List.getElem?_eq_getElem hj, List.getElem?_eq_getElem (show j < ds.length by omega), ← a1, ← a2]
  · rw [List.getElem?_eq_none (by omega), List.getElem?_eq_none (by omega)]
theorem cells_one {v : Value} (h1 : v.oneCell' = true) : v.cells = [v].toArray := by cases v <;> first | rfl | cases h1
end
end Go.Wk
