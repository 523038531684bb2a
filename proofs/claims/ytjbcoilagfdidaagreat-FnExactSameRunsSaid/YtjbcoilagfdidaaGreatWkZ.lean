/- A part of a proof: general laws of walks, no statement of the seat. -/
/- An element of a list of the call's own is taken out whole: its cells stay in their place and can be written. -/
import Derived.Test.YtjbcoilagfdidaaGreatWkY
namespace Go.Wk
open Go Go.RowKit

section
variable {w0 w : World} {hz : Heap} {L : List Ch}

/-- One chunk becomes two. -/
theorem Mem.split {c c1 c2 : Ch} (hm : Mem w0 hz w L) (k : Nat) (hk : L[k]? = some c)
    (H : ∀ F, c.pr F (hp w) → ∃ R G : Nat → Prop, (∀ b, R b → F b) ∧ (∀ b, G b → F b) ∧ (∀ b, R b → ¬ G b) ∧ c1.pr R (hp w) ∧ c2.pr G (hp w)) : Mem w0 hz w (c2 :: L.set k c1) := by
  obtain ⟨hs, hlez, Fs, f1, f2, f3⟩ := hm
  obtain ⟨R, G, r1, r2, r3, r4, r5⟩ := H _ (f1 k _ hk)
  refine ⟨hs, hlez, fun i b => match i with | 0 => G b | i + 1 => if i = k then R b else Fs i b, ?_, ?_, ?_⟩
  · intro i d hi
    cases i with
    | zero => simp at hi; subst hi; exact r5
    | succ i =>
      simp only [List.getElem?_cons_succ] at hi
      by_cases e : i = k
      · subst e
        have hl : i < L.length := (List.getElem?_eq_some_iff.1 hk).1
        rw [List.getElem?_set_self hl] at hi
        simp only [Option.some.injEq] at hi
        subst hi
        simp only [if_true]
        exact r4
      · rw [List.getElem?_set_ne (Ne.symm e)] at hi
        simp only [e, if_false]
        exact f1 i d hi
  · intro i j b hij hi hj
    cases i with
    | zero =>
      cases j with
      | zero => exact hij rfl
      | succ j =>
        simp only at hi hj
        split at hj
        · exact r3 b hj hi
        · rename_i e; exact f2 k j b (Ne.symm e) (r2 b hi) hj
    | succ i =>
      cases j with
      | zero =>
        simp only at hi hj
        split at hi
        · exact r3 b hi hj
        · rename_i e; exact f2 k i b (Ne.symm e) (r2 b hj) hi
      | succ j =>
        simp only at hi hj
        split at hi <;> split at hj
        · rename_i e1 e2; exact hij (by rw [e1, e2])
        · rename_i e1 e2; exact f2 k j b (Ne.symm e2) (r1 b hi) hj
        · rename_i e1 e2; exact f2 k i b (Ne.symm e1) (r1 b hj) hi
        · exact f2 i j b (by omega) hi hj
  · intro i b hi
    cases i with
    | zero => exact f3 k b (r2 b hi)
    | succ i =>
      simp only at hi
      split at hi
      · exact f3 k b (r1 b hi)
      · exact f3 i b hi

end

section
variable {α : Type} [GT α]
/-- A list without one of its elements, whose cells are ecs. -/
def holeE (b off len cap : Nat) (xs : List α) (i : Nat) (ecs : List Value) : Ch where
  pr R h := ∃ C T, ∃ fps : Nat → Nat → Prop, h b = some (.cells C T (0, 0)) ∧ R b ∧ xs.length = len ∧ len ≤ cap ∧ (cap ≤ maxLen ∧ len ≤ 140737488355328) ∧ off + cap * GT.sz α ≤ C.size ∧
    (∀ j c, fps j c → R c ∧ c ≠ b) ∧ (∀ j k c, j ≠ k → fps j c → ¬ fps k c) ∧ (∀ (j : Nat) (x : α), j ≠ i → xs[j]? = some x → GT.own (fps j) h (seg C (off + j * GT.sz α) (GT.sz α)) x) ∧ i < xs.length ∧ seg C (off + i * GT.sz α) (GT.sz α) = ecs
  loc R h h2 hp hh := by
    obtain ⟨C, T, fps, e1, e2, e3, e4, e5, e6, e7, e8, e9, e10, e11⟩ := hp
    exact ⟨C, T, fps, (hh b e2).trans e1, e2, e3, e4, e5, e6, e7, e8, fun j x hj hx => GT.own_loc (e9 j x hj hx) fun c hc => hh c (e7 j c hc).1, e10, e11⟩
  mono R R' h hp hR := by
    obtain ⟨C, T, fps, e1, e2, e3, e4, e5, e6, e7, e8, e9, e10, e11⟩ := hp
    exact ⟨C, T, fps, e1, hR b e2, e3, e4, e5, e6, fun j c hc => ⟨hR c (e7 j c hc).1, (e7 j c hc).2⟩, e8, e9, e10, e11⟩

variable {w0 w : World} {hz : Heap} {L : List Ch} {b off len cap i : Nat} {xs : List α} {x : α} {ecs : List Value}

end
section
variable {n : Nat} {l : Env} {a : Act} {P : Program} {w : World} {o : Oper} {v : Value}
end
end Go.Wk
