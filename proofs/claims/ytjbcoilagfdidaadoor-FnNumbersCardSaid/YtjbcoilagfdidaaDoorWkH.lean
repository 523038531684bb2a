/- A part of a proof: general laws of walks, no statement of the seat. -/
/- Regions that draw their order: one order that is checked once serves all. -/
import Derived.Test.YtjbcoilagfdidaaDoorWkG
import Derived.OrdersHeld
import Derived.WalkSpells
namespace Go.Wk
open Go Go.RowKit

section
variable {P : Program} {ops : Array Oper} {Q : Exit → Act → World → Prop} {md : Region.Mode} {S : World → Prop} {ns : List Nat}

/-- Whatever order is picked; behind the operations of ns the condition S holds. -/
def wpAnyP (P : Program) (md : Region.Mode) (ops : Array Oper) (Q : Exit → Act → World → Prop) (S : World → Prop) (ns : List Nat) : Nat → Array Bool → Act → World → Prop
  | 0, listed, a, w => Region.ready md ops listed = [] ∧ Q .normal a w
  | fuel + 1, listed, a, w =>
    (Region.ready md ops listed = [] → Q .normal a w) ∧
    ∀ i ∈ Region.ready md ops listed, wpOp P ops Q i (fun a' w' => (ns.contains i = true → S w') ∧ wpAnyP P md ops Q S ns fuel (listed.setIfInBounds i true) a' w') a w

/-- j waits for i, over others. -/
def depN (md : Region.Mode) (ops : Array Oper) : Nat → Nat → Nat → Bool
  | 0, _, _ => false
  | n + 1, j, i => match ops[j]? with
    | some oj => oj.after.any (fun e => Region.binds md e && (e.on == i || depN md ops n e.on i))
    | none => false

def Closed (md : Region.Mode) (ops : Array Oper) (listed : Array Bool) : Prop :=
  ∀ k, listed.getD k false = true → ∀ ok, ops[k]? = some ok → ∀ e ∈ ok.after, Region.binds md e = true → listed.getD e.on false = true

theorem dep_listed {listed : Array Bool} (hc : Closed md ops listed) : ∀ (n j i : Nat), (∀ oj, ops[j]? = some oj → ∀ e ∈ oj.after, Region.binds md e = true → listed.getD e.on false = true) → depN md ops n j i = true → listed.getD i false = true
  | 0, _, _, _, h => by simp [depN] at h
  | n + 1, j, i, hj, h => by
    unfold depN at h
    cases hoj : ops[j]? with
    | none => simp [hoj] at h
    | some oj =>
      simp only [hoj] at h
      obtain ⟨e, he, hb⟩ := Array.any_eq_true'.1 h
      simp only [Bool.and_eq_true, Bool.or_eq_true, beq_iff_eq] at hb
      have hl := hj oj hoj e he hb.1
      rcases hb.2 with h' | h'
      · rw [← h']; exact hl
      · exact dep_listed hc n e.on i (fun ok hok => hc e.on hl ok hok) h'

theorem get_set_mono {listed : Array Bool} {j k : Nat} (h : listed.getD k false = true) : (listed.setIfInBounds j true).getD k false = true := by
  simp only [Array.getD_eq_getD_getElem?, Array.getElem?_setIfInBounds] at h ⊢
  by_cases e : j = k
  · subst e
    by_cases hl : j < listed.size <;> simp_all
  · simpa [e] using h

theorem get_set_inv {listed : Array Bool} {j k : Nat} (h : (listed.setIfInBounds j true).getD k false = true) : k = j ∨ listed.getD k false = true := by
  by_cases e : j = k
  · exact .inl e.symm
  · right
    simp only [Array.getD_eq_getD_getElem?, Array.getElem?_setIfInBounds] at h ⊢
    simpa [e] using h

theorem closed_set {listed : Array Bool} {j : Nat} (hc : Closed md ops listed) (hj : j ∈ Region.ready md ops listed) : Closed md ops (listed.setIfInBounds j true) := by
  intro k hk ok hok e he hb
  rcases get_set_inv hk with rfl | h
  · obtain ⟨_, oj, hoj, hall⟩ := mem_ready.1 hj
    rw [hok] at hoj
    simp only [Option.some.injEq] at hoj
    subst hoj
    exact get_set_mono (hall e he hb)
  · exact get_set_mono (hc k h ok hok e he hb)

/-- The order: 'true': it yields in every world that meets S; 'false': it alone can come up. -/
def okOrd (md : Region.Mode) (ops : Array Oper) (ns : List Nat) : List (Bool × Nat) → Array Bool → Bool
  | [], listed => (Region.ready md ops listed).isEmpty
  | (true, i) :: r, listed => Region.free md ops listed i && (Region.ready md ops listed).contains i &&
      ((List.range ops.size).all fun j => j == i || ns.contains j || depN md ops ops.size j i || depN md ops ops.size i j) && okOrd md ops ns r (listed.setIfInBounds i true)
  | (false, i) :: r, listed => (Region.ready md ops listed == [i]) && okOrd md ops ns r (listed.setIfInBounds i true)

def wpS (P : Program) (ops : Array Oper) (S : World → Prop) (ns : List Nat) (Q : Exit → Act → World → Prop) : List (Bool × Nat) → Act → World → Prop
  | [], a, w => Q .normal a w
  | (true, i) :: r, a, w => ∃ o v, ops[i]? = some o ∧ YieldsIf P ops S o v a ∧ S w ∧ wpS P ops S ns Q r (a.put o.dst v) w
  | (false, i) :: r, a, w => wpOp P ops Q i (fun a' w' => (ns.contains i = true → S w') ∧ wpS P ops S ns Q r a' w') a w

def orderOk (ops : Array Oper) (ns : List Nat) (σ : List (Bool × Nat)) : Bool :=
  Region.noSelect ops && (σ.length == ops.size) && okOrd .any ops ns σ (Array.replicate ops.size false)

/-! steps -/
variable {a : Act} {w : World} {o : Oper} {n : Nat} {l : Env} {d i : Nat} {v : Value} {R : Value → World → Prop} {r : List (Bool × Nat)}

theorem wpOp_go {K : Act → World → Prop} (ho : ops[i]? = some o) (hw : Region.wanted o (yielded ops a.tmps) = true) (h : o.wp P a w K Q) : wpOp P ops Q i K a w := by
  unfold wpOp
  rw [ho]
  simp only [hw, if_true]
  exact .inl h

end

section
variable {α : Type} [Flat α] {h : Heap} {xs : List α}
theorem flat_cells {b off len cap i : Nat} {x : α} {cs : List Value} (hr : GT.rep h [.slice (some ⟨b, off, none⟩) len cap] xs) (hx : xs[i]? = some x) (hcs : Flat.enc x = cs) : CellsAt h b (off + i * GT.sz α) cs := by
  obtain ⟨_, cs', h1, h2⟩ := ro_get' hr hx
  rw [← hcs, ← Flat.rep_iff.1 h2]
  exact h1
theorem idx_form {sv : Value} (hr : GT.rep h [sv] xs) {i : Nat} {x : α} (hx : xs[i]? = some x) : ∃ b off cap, sv = .slice (some ⟨b, off, none⟩) xs.length cap := by
  obtain ⟨b, off, cap, h1, _⟩ := ro_get hr hx
  exact ⟨b, off, cap, h1⟩
end
theorem idx_form' {α : Type} [GT α] {h : Heap} {xs : List α} {sv : Value} (hr : GT.rep h [sv] xs) {i : Nat} {x : α} (hx : xs[i]? = some x) : ∃ b off cap, sv = .slice (some ⟨b, off, none⟩) xs.length cap := by
  obtain ⟨b, off, cap, h1, _⟩ := ro_get hr hx
  exact ⟨b, off, cap, h1⟩
theorem idx_lt2 {α : Type} {xs : List α} {i n : Nat} {x : α} (hx : xs[i]? = some x) (hl : xs.length = n) : i < n := by
  rw [← hl]; exact (List.getElem?_eq_some_iff.1 hx).1
theorem rep_slice_len {α : Type} [GT α] {h : Heap} {xs : List α} {p : Option Addr} {m c : Nat} (hr : GT.rep h [.slice p m c] xs) : xs.length = m := by
  obtain ⟨p', c', h1, _⟩ := ro_slice hr
  simp only [Value.slice.injEq] at h1
  exact h1.2.1.symm
theorem nil_or {α : Type} [GT α] {h : Heap} {xs : List α} {v : Value} (hr : GT.rep h [v] xs) : (v = .slice none 0 0 ∧ xs = []) ∨ ∃ p c, v = .slice (some p) xs.length c := by
  rcases rep_list.1 hr with ⟨rfl | ⟨p, c, rfl⟩, rfl⟩ | ⟨b, off, len, cap, rfl, hl, _⟩
  · exact .inl ⟨rfl, rfl⟩
  · exact .inr ⟨p, c, rfl⟩
  · exact .inr ⟨_, cap, by rw [hl]⟩
theorem idx_lt {α : Type} {xs : List α} {i : Nat} {x : α} (hx : xs[i]? = some x) : i < xs.length := (List.getElem?_eq_some_iff.1 hx).1
/-! ### function values, captured variables, nil -/
/-- A function value that is called with args comes to R. -/
def FnOk (P : Program) (fv : Value) (args : List Value) (w : World) (R : Value → World → Prop) : Prop :=
  ∃ k cs, fv = .func (.func k) #[] (List.toArray cs) ∧ (∀ as w, (callFunc k as).run P w = .ok (.enter k as) w) ∧ Con P k (args ++ cs) w R

section
variable {P : Program} {ops : Array Oper} {Q : Exit → Act → World → Prop} {S : World → Prop} {ns : List Nat} {a : Act} {w w0 : World} {hz : Heap} {L : List Ch} {o : Oper} {n : Nat} {l : Env} {d i : Nat} {v : Value} {x y : Operand} {R : Value → World → Prop} {r : List (Bool × Nat)} {t e : TypeId}

theorem e_callv {fv : Value} {as : List Operand} {vs : List Value} {tys : Array TypeId} (hf : Fr n l a) (ho : o.op = .call { callee := .value x, args := as.toArray, argTypes := tys })
    (hx : ev l x = some fv) (ha : evs l as = some vs) (h : FnOk P fv vs w R) : Ef P a w o R := fun K Q hk => by
  obtain ⟨k, cs, rfl, hc, hcon⟩ := h
  have hargs : Array.map a.eval as.toArray = vs.toArray := by rw [List.map_toArray, hf.evals ha]
  unfold Oper.wp
  have hr : (execOp a.eval o).run P w = .ok (.enter k (vs ++ cs).toArray) w := by
    simp only [execOp, ho, resolve, hf.eval hx, hargs, Deferred.ofValue]
    simp [invoke, hc]
  rw [hr]
  exact Calls.mono hcon fun e w' he => by
    cases e with
    | returned u => exact hk u w' he
    | panicked ch => exact he.elim
    | outgrown => exact he.elim

/-- Cells of a block that was there when the call began. -/
theorem Mem.old_cell {b i T : Nat} {cs : List Value} {fz : Nat × Nat} (hm : Mem w0 (hp w0) w L) (hb : w0.heap[b]? = some (.cells cs.toArray T fz)) (hi : cs[i]? = some v) : w.cell? ⟨b, i, none⟩ = some v := by
  have := hm.below.block b (Array.getElem?_eq_some_iff.1 hb).1
  rw [hb] at this
  simp [World.cell?, this, hi]
theorem Mem.old_at {b T : Nat} {cs : List Value} {fz : Nat × Nat} (hm : Mem w0 (hp w0) w L) (hb : w0.heap[b]? = some (.cells cs.toArray T fz)) : CellsAt (hp w) b 0 cs := by
  have := hm.below.block b (Array.getElem?_eq_some_iff.1 hb).1
  rw [hb] at this
  exact ⟨cs.toArray, T, fz, this, fun j v hj => by simpa using hj⟩
/-- A known block, as a callee's caller hands it on: at every later world. -/
theorem Mem.blk_later {b T : Nat} {cs : List Value} {w' : World} (hm : Mem w0 hz w L) (k : Nat) (hk : L[k]? = some (blk b cs T)) (hB : Below w.heap.size w w') : w'.heap[b]? = some (.cells cs.toArray T (0, 0)) := by
  have h := (hm.blk_cells k hk).1
  rw [hB.block b (Array.getElem?_eq_some_iff.1 h).1, h]
theorem Mem.old_later {b T : Nat} {cs : List Value} {fz : Nat × Nat} {w' : World} (hm : Mem w0 (hp w0) w L) (hb : w0.heap[b]? = some (.cells cs.toArray T fz)) (hB : Below w.heap.size w w') : w'.heap[b]? = some (.cells cs.toArray T fz) := by
  have h := hm.below.block b (Array.getElem?_eq_some_iff.1 hb).1
  rw [hb] at h
  rw [hB.block b (Array.getElem?_eq_some_iff.1 h).1, h]
theorem hp_later {w w' : World} (hB : Below w.heap.size w w') : Heap.le (hp w) (hp w') := fun b o h => by
  have := hB.block b (hp_lt h)
  unfold hp at h ⊢
  rw [this, h]
theorem rep_later {α : Type} [GT α] {w w' : World} {cs : List Value} {x : α} (hr : GT.rep (hp w) cs x) (hB : Below w.heap.size w w') : GT.rep (hp w') cs x := GT.mono (hp_later hB) hr

theorem y_eqnil_t {t' : TypeId} (hu : P.underlying t = some (.slice e)) (ho : o.op = .binOp .eql t x y t') (hx : ev l x = some (.slice none 0 0)) (hy : ev l y = some (.slice none 0 0)) : Yl P l w o (.bool true) := fun n a hf => by
  have h := Lib.run_eql_slice_nil (P := P) w t e none 0 0 0 0 hu
  simp [execOp, ho, hf.eval hx, hf.eval hy, eqGuard, h]
theorem y_eqnil_f {t' : TypeId} {p : Addr} {m c : Nat} (hu : P.underlying t = some (.slice e)) (ho : o.op = .binOp .eql t x y t') (hx : ev l x = some (.slice (some p) m c)) (hy : ev l y = some (.slice none 0 0)) : Yl P l w o (.bool false) := fun n a hf => by
  have h := Lib.run_eql_slice_nil (P := P) w t e (some p) m c 0 0 hu
  simp [execOp, ho, hf.eval hx, hf.eval hy, eqGuard, h]

theorem e_build0 {α : Type} [GT α] {z : Value} (hT : ElemTy P t e (GT.sz α) z) (hm : Mem w0 hz w L) (ho : o.op = .buildSlice t 0 #[]) :
    Ef P a w o (fun v w' => Mem w0 hz w' (ow [v] ([] : List α) :: L)) := by
  obtain ⟨i, hi, hsz, hby, hz'⟩ := hT.info
  refine ef_value (w' := w.alloc (.cells #[] e)) (v := .slice (some ⟨w.heap.size, 0, none⟩) 0 0) ?_ ?_
  · simp [execOp, ho, Instr.buildSlice, run_underlying hT.und, sizeOf, typeInfo, hi, Instr.fill, newRow]
    simp [Array.range_zero']
  · refine hm.more ⟨rfl, rfl, rfl, by simp⟩ (fun b hb => Below.heap_alloc w _ b hb) ⟨fun b => b = w.heap.size, fun b hb => by subst hb; simp, ?_⟩
    exact own_list.2 (sliceOwn.fresh (T := e) (C := #[]) (fps := fun _ _ => False) (cs := []) (heap_alloc_new w _) rfl (Nat.le_refl _) ⟨by simp [maxLen], by omega⟩ (by simp) (by simp [seg]) rfl (fun _ _ h => h.elim) (fun _ _ _ _ h => h.elim) (fun i x hx => by simp at hx))
end

/-! ### struct values -/
theorem parts_eval {n : Nat} {l : Env} {a : Act} (hf : Fr n l a) : ∀ {ps : List (Nat × Operand)} {us : List (Nat × Value)}, (ps.map fun p => (ev l p.2).map fun v => (p.1, v)) = us.map some → ps.map (fun p => (p.1, a.eval p.2)) = us
  | [], us, h => by cases us <;> simp_all
  | p :: ps, us, h => by
    cases us with
    | nil => simp at h
    | cons u us =>
      simp only [List.map_cons, List.cons.injEq] at h
      obtain ⟨ha, hb⟩ := h
      cases hp : ev l p.2 with
      | none => simp [hp] at ha
      | some v =>
        simp only [hp, Option.map_some, Option.some.injEq] at ha
        simp [hf.eval hp, ha, parts_eval hf hb]

theorem y_build {P : Program} {l : Env} {w : World} {o : Oper} {t : TypeId} {parts : Array (Nat × Operand)} {vs : List (Nat × Value)} {cs : Array Value} (ho : o.op = .build t parts)
    (hv : (parts.toList.map fun p => (ev l p.2).map fun v => (p.1, v)) = vs.map some) (hb : P.built t vs = some cs) : Yl P l w o (.agg cs) := fun n a hf => by
  have hparts : (parts.map fun p => (p.1, a.eval p.2)) = vs.toArray := by
    apply Array.ext'
    rw [Array.toList_map]
    exact parts_eval hf hv
  simp only [execOp, ho, hparts]
  simp [Go.run_build w t vs.toArray cs (by simpa using hb)]
end Go.Wk
