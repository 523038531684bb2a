/- A part of a proof: general laws of walks, no statement of the seat. -/
/- Calls that return or panic; arrays in blocks of the call's own. -/
import Derived.Test.YtjbcoilagfdidaaDoorWkV
namespace Go.Wk
open Go Go.RowKit

def RtX (R : Value → World → Prop) (X : List PanicEntry → World → Prop) : Ending → World → Prop
  | .returned v, w => R v w
  | .panicked c, w => X c w
  | .outgrown, _ => False

/-- An operation ends in a value and a world of R, or panics with a chain and a world of X. -/
def EfX (P : Program) (a : Act) (w : World) (o : Oper) (R : Value → World → Prop) (X : List PanicEntry → World → Prop) : Prop :=
  ∀ (K : Act → World → Prop) (Q : Exit → Act → World → Prop), (∀ v w', R v w' → K (a.put o.dst v) w') → (∀ c w', X c w' → Q (.panic c) a w') → o.wp P a w K Q

/-- What a Go function's body must come to, if it may panic. -/
def ConX (P : Program) (f : FuncId) (args : List Value) (w : World) (R : Value → World → Prop) (X : List PanicEntry → World → Prop) : Prop := Calls P f args.toArray w (RtX R X)

/-- The chain of one panic with a value of type T that is a number. -/
def pch (T : TypeId) (e : Int) : List PanicEntry := [{ v := .iface T (.int .i64 e), recovered := false }]

section
variable {P : Program} {ops : Array Oper} {Q : Exit → Act → World → Prop} {a : Act} {w : World} {rest : List Oper} {o : Oper} {n : Nat} {l : Env} {d : Nat} {v : Value} {R : Value → World → Prop} {X : List PanicEntry → World → Prop}

section
variable {S : World → Prop} {ns : List Nat} {t : Ord} {i : Nat}
end

/-- A call of a Go function that may panic. -/
theorem e_callx {f : FuncId} {as : List Operand} {vs : List Value} {tys : Array TypeId} (hf : Fr n l a) (ho : o.op = .call { callee := .value (.func f), args := as.toArray, argTypes := tys })
    (hc : ∀ args w, (callFunc f args).run P w = .ok (.enter f args) w) (ha : evs l as = some vs) (h : ConX P f vs w R X) : EfX P a w o R X := fun K Q hk hx => by
  have hargs : Array.map a.eval as.toArray = vs.toArray := by rw [List.map_toArray, hf.evals ha]
  unfold Oper.wp
  have hr : (execOp a.eval o).run P w = .ok (.enter f vs.toArray) w := by
    simp only [execOp, ho, resolve, Act.eval, hargs, Deferred.ofValue]
    simp [invoke, hc]
  rw [hr]
  exact Calls.mono h fun e w' he => by
    cases e with
    | returned u => exact hk u w' he
    | panicked ch => exact hx ch w' he
    | outgrown => exact he.elim

/-- The text's own panic. -/
theorem e_panic {x : Operand} {T : TypeId} {u : Value} (hf : Fr n l a) (ho : o.op = .panic x) (hx : ev l x = some (.iface T u)) : EfX P a w o (fun _ _ => False) (fun c w' => c = [{ v := .iface T u, recovered := false }] ∧ w' = w) := fun K Q hk hp => by
  unfold Oper.wp
  have hr : (execOp a.eval o).run P w = .halt (.panic (.iface T u)) w := by
    simp [execOp, ho, hf.eval hx]; rfl
  rw [hr]
  exact hp _ w ⟨rfl, rfl⟩

theorem con_bodyx {f : FuncId} {fn : Func} {c : Code} {args : List Value} (hf : P.funcs[f]? = some fn) (hb : fn.body = some c) (hn : fn.ntmps = n) (hl : ∀ t v, lk l t = some v → args[t]? = some v) (hle : Nat.ble args.length n = true)
    (h : ∀ a, Fr n l a → c.wp P (bodyPost P fn (RtX R X)) a w) : ConX P f args w R X :=
  calls_of_wp hf hb (h _ (by
    have : args.length ≤ n := Nat.le_of_ble_eq_true hle
    exact Fr.start (by simp [hn]; omega) (fun t v ht => by simpa using hl t v ht)))

end

/-! ### arrays of numbers in blocks -/
def encA (n : Nat) (arr : List Int) : List Value := (List.range n).map fun j => .int .i64 (arr.getD j 0)
def setA (n : Nat) (arr : List Int) (i : Nat) (x : Int) : List Int := (List.range n).map fun j => if j = i then x else arr.getD j 0
def idxA (n : Nat) (i : Int) : Option Int := if 0 ≤ i ∧ i.toNat < n then some i else none
theorem idxA_some {n : Nat} {i x : Int} : idxA n i = some x ↔ 0 ≤ i ∧ i.toNat < n ∧ i = x := by
  unfold idxA
  split <;> rename_i h
  · simp [h.1, h.2]
  · simp only [reduceCtorEq, false_iff]; rintro ⟨h1, h2, _⟩; exact h ⟨h1, h2⟩

theorem encA_len {n : Nat} {arr : List Int} : (encA n arr).length = n := by simp [encA]
theorem encA_get {n i : Nat} {arr : List Int} (hi : i < n) : (encA n arr)[i]? = some (.int .i64 (arr.getD i 0)) := by
  simp [encA, List.getElem?_map, List.getElem?_range hi]
theorem encA_set {n i : Nat} {arr : List Int} {x : Int} : (encA n arr).set i (.int .i64 x) = encA n (setA n arr i x) := by
  apply List.ext_getElem?
  intro j
  by_cases hj : j < n
  · rw [encA_get hj]
    by_cases e : j = i
    · subst e
      rw [List.getElem?_set_self (by rw [encA_len]; exact hj)]
      simp [setA, List.getD_eq_getElem?_getD, List.getElem?_map, List.getElem?_range hj]
    · rw [List.getElem?_set_ne (Ne.symm e), encA_get hj]
      simp [setA, List.getD_eq_getElem?_getD, List.getElem?_map, List.getElem?_range hj, e]
  · rw [List.getElem?_eq_none (by simp [encA_len]; omega), List.getElem?_eq_none (by simp [encA_len]; omega)]

section
variable {P : Program} {a : Act} {w w0 : World} {hz : Heap} {L : List Ch} {o : Oper} {n n' : Nat} {l : Env} {v : Value} {x y : Operand} {t e T : TypeId} {i : Int} {arr : List Int} {pre post : List Value} {b : Nat} {k : IntKind}

theorem y_indexArr1 {b off len : Nat} (ht : P.underlying t = some (.array len e)) (hs : ∀ w, (sizeOf e).run P w = .ok 1 w) (ho : o.op = .indexAddr t x y) (hx : ev l x = some (.pointer (some ⟨b, off, none⟩))) (hy : ev l y = some (.int k i)) (h0 : 0 ≤ i) (hi : i.toNat < len) :
    Yl P l w o (.pointer (some ⟨b, off + i.toNat, none⟩)) := by
  have := y_indexArr (P := P) (w := w) ht hs ho hx hy h0 hi
  rwa [Nat.mul_one] at this

theorem Mem.arr_cell {j : Nat} (hm : Mem w0 hz w L) (q : Nat) (hk : L[q]? = some (blk b (pre ++ encA n arr ++ post) T)) (hi : j < n) : w.cell? ⟨b, pre.length + j, none⟩ = some (.int .i64 (arr.getD j 0)) := by
  refine hm.blk_cell q hk ?_
  rw [List.append_assoc, List.getElem?_append_right (by omega), Nat.add_sub_cancel_left, List.getElem?_append_left (by rw [encA_len]; exact hi), encA_get hi]

theorem e_storeA {j : Nat} {u : Int} (q : Nat) (hf : Fr n' l a) (hm : Mem w0 hz w L) (hk : L[q]? = some (blk b (pre ++ encA n arr ++ post) T)) (hs : ∀ w, (sizeOf t).run P w = .ok 1 w) (ho : o.op = .store t x y)
    (hx : ev l x = some (.pointer (some ⟨b, pre.length + j, none⟩))) (hy : ev l y = some (.int .i64 u)) (hi : j < n) :
    Ef P a w o (fun _ w' => Mem w0 hz w' (L.set q (blk b (pre ++ encA n (setA n arr j u) ++ post) T))) := by
  have h := e_store1 q hf hm hk hs ho hx hy rfl (by simp [encA_len, Nat.blt_eq]; omega)
  have e : (pre ++ encA n arr ++ post).set (pre.length + j) (.int .i64 u) = pre ++ encA n (setA n arr j u) ++ post := by
    rw [List.append_assoc, List.set_append_right _ _ (by omega), Nat.add_sub_cancel_left, List.set_append_left _ _ (by rw [encA_len]; exact hi), encA_set, List.append_assoc]
  rw [e] at h
  exact h

def normA (n : Nat) (arr : List Int) : List Int := (List.range n).map fun j => arr.getD j 0
theorem y_slcArr {b off : Nat} (ht : P.underlying t = some (.array n e)) (ho : o.op = .slice t x none none none) (hx : ev l x = some (.pointer (some ⟨b, off, none⟩))) (hs : ∀ w, (sizeOf e).run P w = .ok 1 w) :
    Yl P l w o (.slice (some ⟨b, off, none⟩) n n) := fun nn a hf => by
  by_cases h : n = 0
  · subst h
    simp [execOp, ho, hf.eval hx, Instr.sliceAt, run_underlying ht, Instr.sureAddr, Instr.sliceBounds, Instr.sliceBound, hs]
  · simp [execOp, ho, hf.eval hx, Instr.sliceAt, run_underlying ht, Instr.sureAddr, Instr.sliceBounds, Instr.sliceBound, hs, h, add_none]
theorem Mem.arr_rep (hm : Mem w0 hz w L) (q : Nat) (hk : L[q]? = some (blk b (pre ++ encA n arr ++ post) T)) (hn : Nat.ble n 16777216 = true) : GT.rep (hp w) [.slice (some ⟨b, pre.length, none⟩) n n] (normA n arr) := by
  have hn' := Nat.le_of_ble_eq_true hn
  refine rep_list.2 (.inr ⟨b, pre.length, n, n, rfl, by simp [normA], Nat.le_refl _, ⟨by simp [maxLen]; omega, by omega⟩, ?_⟩)
  intro i x hx
  have hi : i < n := by have := (List.getElem?_eq_some_iff.1 hx).1; simpa [normA] using this
  have hx' : x = arr.getD i 0 := by
    simp [normA, List.getElem?_map, List.getElem?_range hi] at hx
    rw [← hx]; rfl
  refine ⟨[.int .i64 x], ⟨(pre ++ encA n arr ++ post).toArray, T, (0, 0), (hm.blk_cells q hk).1, ?_⟩, Flat.rep_iff.2 rfl⟩
  intro j v hj
  cases j with
  | succ j => simp at hj
  | zero =>
    simp at hj
    subst hj
    rw [show GT.sz Int = 1 from rfl, Nat.mul_one, Nat.add_zero, List.getElem?_toArray, List.append_assoc, List.getElem?_append_right (by omega), Nat.add_sub_cancel_left, List.getElem?_append_left (by rw [encA_len]; exact hi), encA_get hi, hx']

theorem y_makeIface {k : IntKind} (ht : P.underlying t = some (.int k)) (ho : o.op = .makeInterface t x) (hx : ev l x = some v) : Yl P l w o (.iface t v) := fun n a hf => by
  simp [execOp, ho, hf.eval hx, Instr.makeInterface, run_underlying ht]
end

section
open Lean.Order
universe u
variable {γ : Type u} [PartialOrder γ] {β : Type}
@[partial_fixpoint_monotone]
theorem mono_sumElimA {A B : Type} (f : γ → A → Option β) (g : γ → B → Option β) (s : A ⊕ B) (hf : monotone f) (hg : monotone g) : monotone fun x => Sum.elim (f x) (g x) s := fun x y h => by
  cases s with
  | inl a => exact hf x y h a
  | inr b => exact hg x y h b
end
end Go.Wk
