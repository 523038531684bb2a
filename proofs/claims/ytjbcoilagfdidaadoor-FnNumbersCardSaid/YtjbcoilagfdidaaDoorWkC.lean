/- A part of a proof: general laws of walks, no statement of the seat. -/
/- What the operations on memory do, told chunk by chunk. -/
import Derived.Test.YtjbcoilagfdidaaDoorWkB
namespace Go.Wk
open Go Go.RowKit

def Rt (R : Value → World → Prop) : Ending → World → Prop
  | .returned v, w => R v w
  | _, _ => False

/-- An operation ends in a value and a world of R. -/
def Ef (P : Program) (a : Act) (w : World) (o : Oper) (R : Value → World → Prop) : Prop :=
  ∀ (K : Act → World → Prop) (Q : Exit → Act → World → Prop), (∀ v w', R v w' → K (a.put o.dst v) w') → o.wp P a w K Q

section
variable {P : Program} {ops : Array Oper} {Q : Exit → Act → World → Prop} {a : Act} {w : World} {rest : List Oper} {o : Oper} {n : Nat} {l : Env} {d : Nat} {v : Value} {R : Value → World → Prop}

theorem Ef.mono {R' : Value → World → Prop} (he : Ef P a w o R) (h : ∀ v w', R v w' → R' v w') : Ef P a w o R' :=
  fun K Q hk => he K Q fun v w' hR => hk v w' (h v w' hR)

theorem ef_value {w' : World} (hr : (execOp a.eval o).run P w = .ok (.value v) w') (hR : R v w') : Ef P a w o R := fun K Q hk => by
  unfold Oper.wp
  rw [hr]
  exact hk v w' hR
theorem ef_skip {w' : World} (hr : (execOp a.eval o).run P w = .ok .skip w') (hR : R undef w') : Ef P a w o R := fun K Q hk => by
  unfold Oper.wp
  rw [hr]
  exact hk undef w' hR
end

theorem add_none (b o k : Nat) : (⟨b, o, none⟩ : Addr).add k = ⟨b, o + k, none⟩ := by unfold Addr.add; split <;> simp_all

/-! ### addresses -/
def FieldOff (P : Program) (t : TypeId) (k off : Nat) : Prop := ∀ b o w, (Instr.fieldAt t (.pointer (some ⟨b, o, none⟩)) k).run P w = .ok (.pointer (some ⟨b, o + off, none⟩)) w

theorem FieldOff.mk {P : Program} {t : TypeId} {k s : Nat} {fs : Array Field} {f : Field} (hu : P.underlying t = some (.struct fs)) (hf : fs[k]? = some f) (hs : ∀ w, (sizeOf f.type).run P w = .ok (s + 1) w) : FieldOff P t k f.offset := by
  intro b o w
  simp [Instr.fieldAt, run_underlying hu, hf, Instr.sureAddr, fieldPlace, hs, add_none]

/-- t is a slice type; its elements are of type e and take s cells. -/
structure SliceTy (P : Program) (t e s : Nat) : Prop where
  und : P.underlying t = some (.slice e)
  size : ∀ w, (sizeOf e).run P w = .ok s w

section
variable {P : Program} {a : Act} {w : World} {o : Oper} {n : Nat} {l : Env} {v : Value} {x y c : Operand} {t e s : TypeId}

theorem y_fieldAddr {k b i off : Nat} (hF : FieldOff P t k off) (ho : o.op = .fieldAddr t x k) (hx : ev l x = some (.pointer (some ⟨b, i, none⟩))) :
    Yl P l w o (.pointer (some ⟨b, i + off, none⟩)) := fun n a hf => by
  simp [execOp, ho, hf.eval hx, hF b i w]

theorem y_indexAddr {b off len cap : Nat} {j : Int} {k : IntKind} (hT : SliceTy P t e s) (ho : o.op = .indexAddr t x y) (hx : ev l x = some (.slice (some ⟨b, off, none⟩) len cap)) (hy : ev l y = some (.int k j)) (h0 : 0 ≤ j) (hi : j.toNat < len) :
    Yl P l w o (.pointer (some ⟨b, off + j.toNat * s, none⟩)) := fun n a hf => by
  have h1 : j < (len : Int) := by omega
  simp [execOp, ho, hf.eval hx, hf.eval hy, Instr.indexAt, asIntOf, run_underlying hT.und, h0, h1, hT.size, add_none]

theorem y_len_slice {p : Option Addr} {len cap : Nat} (ht : P.underlying t = some (.slice e)) (ho : o.op = .call { callee := .builtin .len, args := #[x], argTypes := #[t] }) (hx : ev l x = some (.slice p len cap)) :
    Yl P l w o (.int .i64 (len : Int)) := fun n a hf => by
  simp [execOp, ho, resolve, invoke, builtin, hf.eval hx, Builtin.len_, run_underlying ht, goInt]

/-- A load of one cell. -/
theorem y_load1 {b i : Nat} (ht : ∀ w, (isAgg t).run P w = .ok false w) (ho : o.op = .load t x) (hx : ev l x = some (.pointer (some ⟨b, i, none⟩))) (hc : w.cell? ⟨b, i, none⟩ = some v) :
    Yl P l w o v := fun n a hf => by
  simp [execOp, ho, hf.eval hx, Instr.loadAt, Instr.sureAddr, loadVar, ht, hc]

/-- A load of a struct or an array. -/
theorem y_loadN {b i : Nat} {cs : List Value} (ht : ∀ w, (isAgg t).run P w = .ok true w) (hs : ∀ w, (sizeOf t).run P w = .ok cs.length w) (ho : o.op = .load t x) (hx : ev l x = some (.pointer (some ⟨b, i, none⟩))) (hc : CellsAt (hp w) b i cs) :
    Yl P l w o (.agg cs.toArray) := fun n a hf => by
  have := run_loadCells_list (P := P) w ⟨b, i, none⟩ cs (fun j v hj => by rw [add_none]; exact hc.cell hj)
  simp [execOp, ho, hf.eval hx, Instr.loadAt, Instr.sureAddr, loadVar, ht, hs, this]
end

/-! ### effects on known blocks -/
section
variable {P : Program} {a : Act} {w w0 : World} {hz : Heap} {L : List Ch} {o : Oper} {n : Nat} {l : Env} {v : Value} {x y c : Operand} {t e s T : TypeId}

theorem e_alloc {z : Value} {cs : List Value} (hm : Mem w0 hz w L) (hz' : ∀ w, (zeroValue t).run P w = .ok z w) (ho : o.op = .alloc t) (hc : z.cells = cs.toArray) :
    Ef P a w o (fun v w' => ∃ b, v = .pointer (some ⟨b, 0, none⟩) ∧ Mem w0 hz w' (blk b cs t :: L)) :=
  ef_value (w' := w.alloc (.cells cs.toArray t)) (v := .pointer (some ⟨w.heap.size, 0, none⟩)) (by simp [execOp, ho, Instr.alloc, hz', newVar, newRow, hc]) ⟨_, rfl, hm.alloc cs t⟩

theorem e_box {cs : List Value} (hf : Fr n l a) (hm : Mem w0 hz w L) (ho : o.op = .box t x) (hx : ev l x = some v) (hc : v.cells = cs.toArray) :
    Ef P a w o (fun v w' => ∃ b, v = .pointer (some ⟨b, 0, none⟩) ∧ Mem w0 hz w' (blk b cs t :: L)) :=
  ef_value (w' := w.alloc (.cells cs.toArray t)) (v := .pointer (some ⟨w.heap.size, 0, none⟩)) (by simp [execOp, ho, hf.eval hx, Instr.box, newVar, newRow, hc]) ⟨_, rfl, hm.alloc cs t⟩

/-- A store of one cell into a known block. -/
theorem e_store1 {b i : Nat} {cs : List Value} (k : Nat) (hf : Fr n l a) (hm : Mem w0 hz w L) (hk : L[k]? = some (blk b cs T)) (hs : ∀ w, (sizeOf t).run P w = .ok 1 w) (ho : o.op = .store t x y)
    (hx : ev l x = some (.pointer (some ⟨b, i, none⟩))) (hy : ev l y = some v) (h1 : v.oneCell' = true) (hi : Nat.blt i cs.length = true) :
    Ef P a w o (fun _ w' => Mem w0 hz w' (L.set k (blk b (cs.set i v) T))) := by
  have hi' : i < cs.length := by simpa [Nat.blt_eq] using hi
  have hcell : w.cell? ⟨b, i, none⟩ = some cs[i] := hm.blk_cell k hk (List.getElem?_eq_getElem hi')
  have hfr : w.frozen? ⟨b, i, none⟩ = false := by simp [World.frozen?, (hm.blk_cells k hk).1]
  have hcs : v.cells = #[v] := by cases v <;> first | rfl | cases h1
  refine ef_skip (w' := w.setCell ⟨b, i, none⟩ v) ?_ (hm.blk_set k hk)
  simp [execOp, ho, hf.eval hx, hf.eval hy, Instr.storeAt, Instr.sureAddr, storeVar, hcs, hs, storeCells, add_none, run_store P w _ v _ h1, hcell, hfr]

def splice (cs : List Value) (o : Nat) (vs : List Value) : List Value := cs.take o ++ vs ++ cs.drop (o + vs.length)

/-- A store of a struct or an array into a known block. -/
theorem e_storeN {b i : Nat} {cs vs cs' : List Value} (k : Nat) (hf : Fr n l a) (hm : Mem w0 hz w L) (hk : L[k]? = some (blk b cs T)) (hs : ∀ w, (sizeOf t).run P w = .ok vs.length w) (ho : o.op = .store t x y)
    (hx : ev l x = some (.pointer (some ⟨b, i, none⟩))) (hy : ev l y = some (.agg vs.toArray)) (h1 : ∀ v ∈ vs, v.oneCell' = true) (hi : Nat.ble (i + vs.length) cs.length = true) (hcs : splice cs i vs = cs') :
    Ef P a w o (fun _ w' => Mem w0 hz w' (L.set k (blk b cs' T))) := by
  have hi' : i + vs.length ≤ cs.length := Nat.le_of_ble_eq_true hi
  have hb := (hm.blk_cells k hk).1
  have hst := run_storeCells_at P b i T vs 0 cs.toArray w hb (by simpa using hi') h1
  subst hcs
  refine ef_skip (w' := w.setRow b (splice cs i vs).toArray) ?_ ?_
  · simp [execOp, ho, hf.eval hx, hf.eval hy, Instr.storeAt, Instr.sureAddr, storeVar, Value.cells, hs, hst, splice]
  · refine hm.upd k hk ⟨rfl, rfl, rfl, by simp⟩ fun F hF hlt => ⟨F, fun _ h => .inl h, fun c hc => by simpa using hlt c hc, ⟨hF.1, setRow_heap w b _ _ T _ hb⟩, fun c _ hne => setRow_other w b c _ (fun e => hne (by subst e; exact hF.1))⟩
end

/-! ### slices of the call's own -/
section
variable {α : Type} [GT α] {P : Program} {a : Act} {w w0 : World} {hz : Heap} {L : List Ch} {o : Oper} {n : Nat} {l : Env} {v sv : Value} {x y c : Operand} {t e s T : TypeId} {xs : List α}

theorem sliceRep.at {h : Heap} (hr : sliceRep h sv xs) {i : Nat} (hi : i < xs.length) :
    ∃ b off cap, sv = .slice (some ⟨b, off, none⟩) xs.length cap ∧ ∃ cs, CellsAt h b (off + i * GT.sz α) cs ∧ GT.rep h cs xs[i] := by
  rcases hr with ⟨_, rfl⟩ | ⟨b, off, len, cap, hv, hl, hc, hm, h3⟩
  · simp at hi
  · obtain ⟨cs, h1, h2⟩ := h3 i _ (List.getElem?_eq_getElem hi)
    exact ⟨b, off, cap, by rw [hl]; exact hv, cs, h1, h2⟩

theorem sliceRep.len {h : Heap} (hr : sliceRep h sv xs) : ∃ p cap, sv = .slice p xs.length cap ∧ xs.length ≤ 140737488355328 := by
  rcases hr with ⟨rfl | ⟨p, cap, rfl⟩, rfl⟩ | ⟨b, off, len, cap, hv, hl, hc, hm, h3⟩
  · exact ⟨none, 0, rfl, by simp⟩
  · exact ⟨some p, cap, rfl, by simp⟩
  · exact ⟨_, cap, by rw [hl]; exact hv, by omega⟩

/-- All of a slice's cells, in a row. -/
theorem sliceRep.cells {h : Heap} {b off len cap : Nat} (hr : sliceRep h (.slice (some ⟨b, off, none⟩) len cap) xs) :
    ∃ cs : List Value, cs.length = len * GT.sz α ∧ (∀ v ∈ cs, v.oneCell' = true) ∧ (∀ j v, cs[j]? = some v → ∃ C T fz, h b = some (.cells C T fz) ∧ C[off + j]? = some v) ∧
      ∀ (i : Nat) (x : α), xs[i]? = some x → GT.rep h ((cs.drop (i * GT.sz α)).take (GT.sz α)) x := by
  rcases hr with ⟨hv | ⟨p, c, hv⟩, rfl⟩ | ⟨b', off', len', cap', hv, hl, hc, hm, h3⟩
  · cases hv
  · cases hv
    exact ⟨[], by simp, by simp, by simp, by simp⟩
  · simp only [Value.slice.injEq, Option.some.injEq, Addr.mk.injEq] at hv
    obtain ⟨⟨rfl, rfl, _⟩, rfl, rfl⟩ := hv
    subst hl
    clear hc hm
    induction xs generalizing off with
    | nil => exact ⟨[], by simp, by simp, by simp, by simp⟩
    | cons x xs ih =>
      obtain ⟨c0, h0, r0⟩ := h3 0 x rfl
      obtain ⟨cs, g1, g2, g3, g4⟩ := ih (off := off + GT.sz α) (fun i y hy => by
        obtain ⟨c, hc, hr⟩ := h3 (i + 1) y (by simpa using hy)
        exact ⟨c, by rw [show off + GT.sz α + i * GT.sz α = off + (i + 1) * GT.sz α by rw [Nat.add_mul]; omega]; exact hc, hr⟩)
      have hl0 := GT.len r0
      refine ⟨c0 ++ cs, by simp [hl0, g1, Nat.add_mul]; omega, ?_, ?_, ?_⟩
      · intro v hv
        rcases List.mem_append.1 hv with hv | hv
        · exact GT.one r0 v hv
        · exact g2 v hv
      · intro j v hj
        by_cases hjl : j < c0.length
        · rw [List.getElem?_append_left hjl] at hj
          obtain ⟨C, T, fz, e1, e2⟩ := h0
          exact ⟨C, T, fz, e1, by simpa using e2 j v hj⟩
        · rw [List.getElem?_append_right (by omega)] at hj
          obtain ⟨C, T, fz, e1, e2⟩ := g3 _ v hj
          exact ⟨C, T, fz, e1, by rw [← e2]; congr 1; omega⟩
      · intro i y hy
        cases i with
        | zero =>
          simp at hy
          subst hy
          simpa [hl0] using r0
        | succ i =>
          have := g4 i y (by simpa using hy)
          rw [show (i + 1) * GT.sz α = c0.length + i * GT.sz α by rw [Nat.add_mul, hl0]; omega, List.drop_append, List.drop_eq_nil_of_le (by omega)]
          simpa using this
end
end Go.Wk
