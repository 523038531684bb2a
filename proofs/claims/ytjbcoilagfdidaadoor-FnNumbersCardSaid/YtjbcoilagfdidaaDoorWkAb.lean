/- A part of a proof: general laws of walks, no statement of the seat. -/
/- A global table of rows of three integers; arrays out of it. -/
import Derived.Test.YtjbcoilagfdidaaDoorWkAa
namespace Go.Wk
open Go Go.RowKit

/-- An array of three integers. -/
structure Arr3 where
  a0 : Int
  a1 : Int
  a2 : Int
  deriving DecidableEq, Inhabited
instance : Flat Arr3 := Flat.mk' Arr3 3 (fun m => [.int .i64 m.a0, .int .i64 m.a1, .int .i64 m.a2]) (fun _ => rfl) (fun x => by simp [Value.oneCell'])
def Arr3.cs (m : Arr3) : List Value := [.int .i64 m.a0, .int .i64 m.a1, .int .i64 m.a2]

theorem Arr3.rep_iff {h : Heap} {cs : List Value} {x : Arr3} : GT.rep h cs x ↔ cs = x.cs := Flat.rep_iff

theorem CellsAt.append {h : Heap} {b o : Nat} {xs ys : List Value} (hx : CellsAt h b o xs) (hy : CellsAt h b (o + xs.length) ys) : CellsAt h b o (xs ++ ys) := by
  obtain ⟨C, T, fz, h1, h2⟩ := hx
  obtain ⟨C', T', fz', h1', h2'⟩ := hy
  rw [h1] at h1'
  cases h1'
  refine ⟨C, T, fz, h1, fun j v hj => ?_⟩
  rcases Nat.lt_or_ge j xs.length with h | h
  · rw [List.getElem?_append_left h] at hj; exact h2 j v hj
  · rw [List.getElem?_append_right h] at hj
    have := h2' (j - xs.length) v hj
    rwa [show o + xs.length + (j - xs.length) = o + j by omega] at this

theorem glob_cells {h : Heap} {b n : Nat} {tab : List Arr3} (hr : GT.rep h [.slice (some ⟨b, 0, none⟩) n n] tab) (hn : tab.length = n) (h0 : 0 < n) : CellsAt h b 0 (tab.flatMap Arr3.cs) := by
  rcases rep_list.1 hr with ⟨e | ⟨p, cap, e⟩, e2⟩ | ⟨b', off, len, cap, e, hl, _, _, h3⟩
  · cases e
  · subst e2; simp at hn; omega
  · cases e
    have key : ∀ (l : List Arr3) (k : Nat), l = tab.drop k → k < tab.length → CellsAt h b (k * 3) (l.flatMap Arr3.cs) := by
      intro l
      induction l with
      | nil =>
        intro k e hk
        have := congrArg List.length e
        simp at this
        omega
      | cons x l ih =>
        intro k e hk
        have hx : tab[k]? = some x := by
          have := congrArg (fun l => l[0]?) e
          simp at this
          exact this.symm
        obtain ⟨cs, h4, h5⟩ := h3 k x hx
        rw [Arr3.rep_iff.1 h5, Nat.zero_add, show GT.sz Arr3 = 3 from rfl] at h4
        rw [List.flatMap_cons]
        have e' : l = tab.drop (k + 1) := by
          have := congrArg List.tail e
          simpa using this
        rcases Nat.lt_or_ge (k + 1) tab.length with h6 | h6
        · have := ih (k + 1) e' h6
          refine CellsAt.append h4 ?_
          rw [show k * 3 + (Arr3.cs x).length = (k + 1) * 3 by simp [Arr3.cs]; omega]
          exact this
        · rw [List.drop_eq_nil_of_le h6] at e'
          subst e'
          simpa using h4
    have := key tab 0 (by simp) (by omega)
    simpa using this

section
variable {P : Program} {o : Oper} {l : Env} {w w0 : World} {hz : Heap} {L : List Ch} {t : TypeId} {x y : Operand} {k : IntKind} {i : Int}
theorem y_idx_agg {len s : Nat} {e : TypeId} {cs : Array Value} {v : Array Value} (ht : P.underlying t = some (.array len e)) (hs : ∀ w, (sizeOf e).run P w = .ok s w) (ha : ∀ w, (isAgg e).run P w = .ok true w) (ho : o.op = .index t x y)
    (hx : ev l x = some (.agg cs)) (hy : ev l y = some (.int k i)) (hi : 0 ≤ i) (hl : i < (len : Int)) (hv : cs.extract (i.toNat * s) (i.toNat * s + s) = v) : Yl P l w o (.agg v) := fun n a hf => by
  subst hv
  simp [execOp, ho, hf.eval hx, hf.eval hy, Instr.index, asIntOf, run_underlying ht, hi, hl, part, ha, hs]

theorem idx3 {tab : List Arr3} {i : Nat} {x : Arr3} {cs : Array Value} (hx : tab[i]? = some x) (hc : cs = (tab.flatMap Arr3.cs).toArray) : cs.extract (i * 3) (i * 3 + 3) = #[.int .i64 x.a0, .int .i64 x.a1, .int .i64 x.a2] := by
  subst hc
  have key : ∀ (tab : List Arr3) (i : Nat), tab[i]? = some x → ((tab.flatMap Arr3.cs).drop (i * 3)).take 3 = x.cs := by
    intro tab
    induction tab with
    | nil => intro i h; simp at h
    | cons y tab ih =>
      intro i h
      cases i with
      | zero => simp at h; subst h; simp [Arr3.cs]
      | succ i =>
        have := ih i (by simpa using h)
        rw [List.flatMap_cons, show (i + 1) * 3 = (Arr3.cs y).length + i * 3 by simp [Arr3.cs]; omega, List.drop_length_add_append]
        exact this
  have h := key tab i hx
  apply Array.ext'
  simp [List.drop_take] at h ⊢
  rw [h]
  rfl

theorem y_slcArrH {b off n : Nat} {e : TypeId} {kh : IntKind} {yh : Operand} {hi : Int} (ht : P.underlying t = some (.array n e)) (hs : ∀ w, (sizeOf e).run P w = .ok 1 w) (ho : o.op = .slice t x none (some yh) none) (hx : ev l x = some (.pointer (some ⟨b, off, none⟩)))
    (hh : ev l yh = some (.int kh hi)) (h0 : 0 ≤ hi) (h1 : hi ≤ (n : Int)) :
    Yl P l w o (subV 1 (.slice (some ⟨b, off, none⟩) n n) (0 : Int).toNat hi.toNat) := fun nn a hf => by
  obtain ⟨m, rfl⟩ := Int.eq_ofNat_of_zero_le h0
  have hm : m ≤ n := by omega
  by_cases h : n = 0
  · subst h
    simp [execOp, ho, hf.eval hx, hf.eval hh, Instr.sliceAt, run_underlying ht, Instr.sureAddr, Instr.sliceBounds, Instr.sliceBound, hs, subV, asIntOf, hm]
    omega
  · simp [execOp, ho, hf.eval hx, hf.eval hh, Instr.sliceAt, run_underlying ht, Instr.sureAddr, Instr.sliceBounds, Instr.sliceBound, hs, h, add_none, subV, asIntOf, hm]
end
end Go.Wk
