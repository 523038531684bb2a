/- A part of a proof: general laws of walks, no statement of the seat. -/
/- Operations on slices of the call's own, calls, loops, returns. -/
import Derived.Test.YtjbcoilagfdidaaDoorWkD
namespace Go.Wk
open Go Go.RowKit

section
variable {α : Type} [GT α] {w0 w : World} {hz : Heap} {L : List Ch} {sv : Value} {xs : List α}

theorem Mem.ow_rep {cs : List Value} {x : α} (hm : Mem w0 hz w L) (k : Nat) (hk : L[k]? = some (ow cs x)) : GT.rep (hp w) cs x :=
  let ⟨_, h1, _⟩ := hm.get k hk
  GT.own_rep h1

theorem ro_slice {h : Heap} (hr : GT.rep h [sv] xs) : ∃ p cap, sv = .slice p xs.length cap ∧ xs.length ≤ 140737488355328 := (rep_list.1 hr).len

theorem ro_at {h : Heap} (hr : GT.rep h [sv] xs) {i : Nat} (hi : i < xs.length) :
    ∃ b off cap, sv = .slice (some ⟨b, off, none⟩) xs.length cap ∧ ∃ cs, CellsAt h b (off + i * GT.sz α) cs ∧ GT.rep h cs xs[i] := (rep_list.1 hr).at hi
end

/-- What a Go function's body must come to. -/
def Con (P : Program) (f : FuncId) (args : List Value) (w : World) (R : Value → World → Prop) : Prop := Calls P f args.toArray w (Rt R)

def evs (l : Env) : List Operand → Option (List Value)
  | [] => some []
  | x :: r => match ev l x, evs l r with
    | some v, some vs => some (v :: vs)
    | _, _ => none

theorem Fr.evals {n : Nat} {l : Env} {a : Act} (hf : Fr n l a) : ∀ {xs : List Operand} {vs : List Value}, evs l xs = some vs → xs.map a.eval = vs
  | [], vs, h => by simp [evs] at h; simp [h]
  | x :: r, vs, h => by
    simp only [evs] at h
    cases hx : ev l x with
    | none => simp [hx] at h
    | some v =>
      cases hr : evs l r with
      | none => simp [hx, hr] at h
      | some us =>
        simp only [hx, hr, Option.some.injEq] at h
        subst h
        simp [hf.eval hx, hf.evals hr]

section
variable {P : Program} {a : Act} {w w0 : World} {hz : Heap} {L : List Ch} {o : Oper} {n : Nat} {l : Env} {v : Value} {x y c : Operand} {t e s T : TypeId}

/-- A call of a Go function. -/
theorem e_call {f : FuncId} {as : List Operand} {vs : List Value} {tys : Array TypeId} {R : Value → World → Prop} (hf : Fr n l a) (ho : o.op = .call { callee := .value (.func f), args := as.toArray, argTypes := tys })
    (hc : ∀ args w, (callFunc f args).run P w = .ok (.enter f args) w) (ha : evs l as = some vs) (h : Con P f vs w R) : Ef P a w o R := fun K Q hk => by
  have hargs : Array.map a.eval as.toArray = vs.toArray := by rw [List.map_toArray, hf.evals ha]
  unfold Oper.wp
  have hr : (execOp a.eval o).run P w = .ok (.enter f vs.toArray) w := by
    simp only [execOp, ho, resolve, Act.eval, hargs, Deferred.ofValue]
    simp [invoke, hc]
  rw [hr]
  exact Calls.mono h fun e w' he => by
    cases e with
    | returned u => exact hk u w' he
    | panicked ch => exact he.elim
    | outgrown => exact he.elim
end

/-! ### the body -/
theorem con_body {P : Program} {f : FuncId} {fn : Func} {c : Code} {args : List Value} {w : World} {R : Value → World → Prop} {n : Nat} {l : Env}
    (hf : P.funcs[f]? = some fn) (hb : fn.body = some c) (hn : fn.ntmps = n) (hl : ∀ t v, lk l t = some v → args[t]? = some v) (hle : Nat.ble args.length n = true)
    (h : ∀ a, Fr n l a → c.wp P (bodyPost P fn (Rt R)) a w) : Con P f args w R :=
  calls_of_wp hf hb (h _ (by
    have : args.length ≤ n := Nat.le_of_ble_eq_true hle
    exact Fr.start (by simp [hn]; omega) (fun t v ht => by simpa using hl t v ht)))

def Args : Env → List Value → Prop
  | [], _ => True
  | p :: r, args => args[p.1]? = some p.2 ∧ Args r args
theorem Args.get : ∀ {l : Env} {args : List Value}, Args l args → ∀ t v, lk l t = some v → args[t]? = some v
  | [], _, _, _, _, h => by simp [lk] at h
  | p :: r, args, ⟨h1, h2⟩, t, v, h => by
    simp only [lk] at h
    by_cases e : Nat.beq p.1 t = true
    · rw [e] at h
      simp only [cond_true, Option.some.injEq] at h
      rw [← Nat.eq_of_beq_eq_true e, ← h]; exact h1
    · rw [Bool.not_eq_true] at e; rw [e] at h
      exact Args.get h2 t v h

section
variable {P : Program} {fn : Func} {R : Value → World → Prop} {a : Act} {w w0 : World} {hz : Heap} {L : List Ch} {n : Nat} {l : Env} {v v1 v2 v3 : Value} {t t1 t2 t3 : Nat}

theorem Fr.getD (hf : Fr n l a) (h : lk l t = some v) : a.tmps.getD t undef = v := by
  have := hf.get t v h
  simp [Array.getD_eq_getD_getElem?, this]

theorem ret_tmp (hf : Fr n l a) (hr : fn.results = #[.tmp t]) (ht : lk l t = some v) (h : R v w) : bodyPost P fn (Rt R) .ret a w :=
  ⟨hf.defers, v, by rw [results_tmp hr, hf.getD ht], h⟩

theorem ret_none (hf : Fr n l a) (hr : fn.results = #[]) (h : R (.tuple #[]) w) : bodyPost P fn (Rt R) .ret a w :=
  ⟨hf.defers, .tuple #[], by rw [results_none hr], h⟩

theorem ret_end (hf : Fr n l a) (hr : fn.results = #[]) (h : R (.tuple #[]) w) : bodyPost P fn (Rt R) .normal a w :=
  ⟨hf.defers, .tuple #[], by rw [results_none hr], h⟩

theorem run_loadVar_blk {b T ty : Nat} {cs : List Value} (hb : w.heap[b]? = some (.cells cs.toArray T (0, 0))) (ht : ∀ w, (isAgg ty).run P w = .ok true w) (hs : ∀ w, (sizeOf ty).run P w = .ok cs.length w) :
    (loadVar ty ⟨b, 0, none⟩).run P w = .ok (.agg cs.toArray) w := by
  have := run_loadCells_list (P := P) w ⟨b, 0, none⟩ cs (fun j v hj => by rw [add_none]; simp [World.cell?, hb, hj])
  simp [loadVar, ht, hs, this]

theorem ret_cell {b T ty : Nat} {cs : List Value} (k : Nat) (hf : Fr n l a) (hr : fn.results = #[.cell t ty]) (hm : Mem w0 hz w L) (hk : L[k]? = some (blk b cs T)) (ht : lk l t = some (.pointer (some ⟨b, 0, none⟩)))
    (hg : ∀ w, (isAgg ty).run P w = .ok true w) (hs : ∀ w, (sizeOf ty).run P w = .ok cs.length w) (h : R (.agg cs.toArray) w) : bodyPost P fn (Rt R) .ret a w := by
  refine ⟨hf.defers, .agg cs.toArray, ?_, h⟩
  have hl := run_loadVar_blk (hm.blk_cells k hk).1 hg hs
  simp [results, hr, hf.get _ _ ht, asAddr, hl]

theorem ret_tmp2 (hf : Fr n l a) (hr : fn.results = #[.tmp t1, .tmp t2]) (h1 : lk l t1 = some v1) (h2 : lk l t2 = some v2) (h : R (.tuple #[v1, v2]) w) : bodyPost P fn (Rt R) .ret a w :=
  ⟨hf.defers, .tuple #[v1, v2], by rw [results_tmp2 hr, hf.getD h1, hf.getD h2], h⟩

theorem ret_cell_tmp {b T ty : Nat} {cs : List Value} (k : Nat) (hf : Fr n l a) (hr : fn.results = #[.cell t ty, .tmp t2]) (hm : Mem w0 hz w L) (hk : L[k]? = some (blk b cs T)) (ht : lk l t = some (.pointer (some ⟨b, 0, none⟩)))
    (hg : ∀ w, (isAgg ty).run P w = .ok true w) (hs : ∀ w, (sizeOf ty).run P w = .ok cs.length w) (h2 : lk l t2 = some v2) (h : R (.tuple #[.agg cs.toArray, v2]) w) : bodyPost P fn (Rt R) .ret a w := by
  refine ⟨hf.defers, .tuple #[.agg cs.toArray, v2], ?_, h⟩
  have hl := run_loadVar_blk (hm.blk_cells k hk).1 hg hs
  simp [results, hr, hf.get _ _ ht, hf.get _ _ h2, asAddr, hl]

end

/-- A result that is new memory. -/
def Fresh {α : Type} [GT α] (w w' : World) (cs : List Value) (x : α) : Prop :=
  Below w.heap.size w w' ∧ ∃ F, (∀ b, F b → w.heap.size ≤ b ∧ b < w'.heap.size) ∧ GT.own F (hp w') cs x

theorem Mem.fresh {α : Type} [GT α] {w0 w w' : World} {hz : Heap} {L : List Ch} {cs : List Value} {x : α} (hm : Mem w0 hz w L) (h : Fresh w w' cs x) : Mem w0 hz w' (ow cs x :: L) :=
  hm.more (Same.of_below h.1) h.1.block h.2

/-! ### loops -/
/-- One round: what to go on with, what to leave with. -/
def loopN {S X : Type} (body : S → Option (S ⊕ X)) : Nat → S → Option X
  | 0, _ => none
  | n + 1, s => match body s with
    | none => none
    | some (.inl s') => loopN body n s'
    | some (.inr x) => some x

theorem loopN_mono {S X : Type} {body : S → Option (S ⊕ X)} {x : X} : ∀ {n m : Nat} {s : S}, n ≤ m → loopN body n s = some x → loopN body m s = some x
  | 0, _, _, _, h => by simp [loopN] at h
  | n + 1, 0, _, hnm, _ => by omega
  | n + 1, m + 1, s, hnm, h => by
    simp only [loopN] at h ⊢
    cases hb : body s with
    | none => simp [hb] at h
    | some r =>
      cases r with
      | inl s' => simp only [hb] at h ⊢; exact loopN_mono (by omega) h
      | inr y => simp only [hb] at h ⊢; exact h

open Classical in
/-- The loop: what it leaves with, if it ends. -/
noncomputable def loopM {S X : Type} (body : S → Option (S ⊕ X)) (s : S) : Option X :=
  if h : ∃ n x, loopN body n s = some x then some h.choose_spec.choose else none

theorem loopM_eq {S X : Type} {body : S → Option (S ⊕ X)} {s : S} {x : X} : loopM body s = some x ↔ ∃ n, loopN body n s = some x := by
  unfold loopM
  constructor
  · intro h
    split at h
    · rename_i hh
      simp only [Option.some.injEq] at h
      exact ⟨hh.choose, by rw [← h]; exact hh.choose_spec.choose_spec⟩
    · cases h
  · rintro ⟨n, hn⟩
    have hh : ∃ n x, loopN body n s = some x := ⟨n, x, hn⟩
    rw [dif_pos hh]
    have h1 := hh.choose_spec.choose_spec
    have h2 := loopN_mono (Nat.le_max_left hh.choose n) h1
    have h3 := loopN_mono (Nat.le_max_right hh.choose n) hn
    rw [h2] at h3
    exact h3

theorem loopM_unfold {S X : Type} (body : S → Option (S ⊕ X)) (s : S) :
    loopM body s = match body s with
      | none => none
      | some (.inl s') => loopM body s'
      | some (.inr x) => some x := by
  cases hb : body s with
  | none =>
    cases h : loopM body s with
    | none => rfl
    | some x =>
      obtain ⟨n, hn⟩ := loopM_eq.1 h
      cases n <;> simp [loopN, hb] at hn
  | some r =>
    cases r with
    | inr x => exact loopM_eq.2 ⟨1, by simp [loopN, hb]⟩
    | inl s' =>
      simp only
      cases h : loopM body s' with
      | some x =>
        obtain ⟨n, hn⟩ := loopM_eq.1 h
        exact loopM_eq.2 ⟨n + 1, by simp [loopN, hb, hn]⟩
      | none =>
        cases h2 : loopM body s with
        | none => rfl
        | some x =>
          obtain ⟨n, hn⟩ := loopM_eq.1 h2
          cases n with
          | zero => simp [loopN] at hn
          | succ n =>
            simp only [loopN, hb] at hn
            rw [loopM_eq.2 ⟨n, hn⟩] at h
            cases h

/-- The walk of a loop along its model. -/
theorem wp_loopM {S X : Type} {P : Program} {c : Code} {Q : Exit → Act → World → Prop} {a : Act} {w : World} (body : S → Option (S ⊕ X)) (I : S → Act → World → Prop) {s : S} {x : X}
    (hx : loopM body s = some x) (h0 : I s a w)
    (hr : ∀ s a w r, I s a w → body s = some r → (∀ y, r = .inr y → y = x) → c.wp P (Exit.then (fun a' w' => ∃ s', r = .inl s' ∧ I s' a' w') Q) a w) : (Code.loop c).wp P Q a w := by
  obtain ⟨n, hn⟩ := loopM_eq.1 hx
  have key : ∀ m s a w, loopN body m s = some x → I s a w → c.wp P (Exit.then (fun a' w' => ∃ m' s', m = m' + 1 ∧ loopN body m' s' = some x ∧ I s' a' w') Q) a w := by
    intro m s a w hm hI
    cases m with
    | zero => simp [loopN] at hm
    | succ m =>
      simp only [loopN] at hm
      cases hb : body s with
      | none => simp [hb] at hm
      | some r =>
        have := hr s a w r hI hb (by
          rintro y rfl
          simp only [hb, Option.some.injEq] at hm
          exact hm)
        refine Code.wp_mono ?_ this
        intro e a' w' h
        cases e with
        | normal =>
          obtain ⟨s', rfl, hI'⟩ := h
          simp only [hb] at hm
          exact ⟨m, s', rfl, hm, hI'⟩
        | _ => exact h
  intro b k cs
  have gen : ∀ m s a w, loopN body m s = some x → I s a w →
      ∃ e a' w', Q e a' w' ∧ Arrives P (lone (b.at a (.code c :: .inLoop c :: k)) cs w) b k cs e a' w' := by
    intro m
    induction m with
    | zero => intro s a w hm; simp [loopN] at hm
    | succ m ih =>
      intro s a w hm hI
      obtain ⟨e, a₁, w₁, hq, harr⟩ := key (m + 1) s a w hm hI b (.inLoop c :: k) cs
      cases e with
      | normal =>
        obtain ⟨m', s', hmm, hm', hI'⟩ := hq
        obtain rfl : m = m' := by omega
        obtain ⟨e₂, a₂, w₂, hq₂, harr₂⟩ := ih s' a₁ w₁ hm' hI'
        exact ⟨e₂, a₂, w₂, hq₂, .of_steps (Steps.trans harr (.one step_inLoop)) harr₂⟩
      | exit id => exact ⟨_, a₁, w₁, hq, .pass (x := .inLoop c) rfl (fun _ _ => .inl (by simp)) harr⟩
      | goto l => exact ⟨_, a₁, w₁, hq, .pass (x := .inLoop c) rfl (fun _ _ => .inl (by simp)) harr⟩
      | ret => exact ⟨_, a₁, w₁, hq, .pass (x := .inLoop c) rfl (fun _ _ => .inl (by simp)) harr⟩
      | panic ch => exact ⟨_, a₁, w₁, hq, .pass (x := .inLoop c) rfl (fun _ _ => .inl (by simp)) harr⟩
      | outgrown => exact ⟨_, a₁, w₁, hq, .pass (x := .inLoop c) rfl (fun _ _ => .inl (by simp)) harr⟩
  obtain ⟨e, a', w', hq, harr⟩ := gen n s a w hn h0
  exact ⟨e, a', w', hq, .of_steps (.one step_loop) harr⟩
end Go.Wk
