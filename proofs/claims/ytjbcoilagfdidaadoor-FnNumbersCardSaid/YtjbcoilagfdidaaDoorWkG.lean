/- A part of a proof: general laws of walks, no statement of the seat. -/
/- Control: cuts, exits, counted loops; small facts for the walk's own bookkeeping. -/
import Derived.Test.YtjbcoilagfdidaaDoorWkF
namespace Go.Wk
open Go Go.RowKit

section
variable {P : Program} {ops : Array Oper} {Q K' : Exit → Act → World → Prop} {K next : Act → World → Prop} {a : Act} {w : World} {x y c : Code} {id i : Nat} {l : List Oper}

theorem code_cut {c : Code} (K : Act → World → Prop) (h1 : c.wp P (Exit.then K Q) a w) (h2 : ∀ a w, K a w → Q .normal a w) : c.wp P Q a w :=
  Code.wp_mono (fun e a w h => by cases e <;> first | exact h2 _ _ h | exact h) h1

theorem cond_t {n : Nat} {l : Env} {b : Bool} {o : Operand} (hf : Fr n l a) (hc : ev l o = some (.bool b)) (hb : b = true) (h : x.wp P Q a w) : (Code.cond o x y).wp P Q a w :=
  wp_cond (t := true) (by rw [hf.eval hc, hb]) h
theorem cond_f {n : Nat} {l : Env} {b : Bool} {o : Operand} (hf : Fr n l a) (hc : ev l o = some (.bool b)) (hb : b = false) (h : y.wp P Q a w) : (Code.cond o x y).wp P Q a w :=
  wp_cond (t := false) (by rw [hf.eval hc, hb]) h
end

theorem bnd {α β : Type} {o : Option α} {f : α → Option β} {b : β} (h : Option.bind o f = some b) : ∃ a, o = some a ∧ f a = some b := Option.bind_eq_some_iff.1 h
/-- A counted loop: one round at i; what to go on with, what to leave with. -/
def forN {S X : Type} (body : Int → S → Option (S ⊕ X)) : Nat → Int → S → Option (S ⊕ X)
  | 0, _, s => some (.inl s)
  | k + 1, i, s => match body i s with
    | none => none
    | some (.inl s') => forN body k (i + 1) s'
    | some (.inr x) => some (.inr x)

theorem wp_forN {S X : Type} {P : Program} {c : Code} {Q : Exit → Act → World → Prop} {a : Act} {w : World} (body : Int → S → Option (S ⊕ X)) (I : Int → S → Act → World → Prop) (i0 lim : Int) {s0 : S} {r : S ⊕ X}
    (hx : forN body (lim - i0).toNat i0 s0 = some r) (h0 : I i0 s0 a w)
    (hr : ∀ i s a w, I i s a w → i0 ≤ i → i < lim → ∀ q, body i s = some q → (∀ y, q = .inr y → r = .inr y) → c.wp P (Exit.then (fun a' w' => ∃ s', q = .inl s' ∧ I (i + 1) s' a' w') Q) a w)
    (he : ∀ i s a w, I i s a w → i0 ≤ i → lim ≤ i → r = .inl s → c.wp P (Exit.then (fun _ _ => False) Q) a w) : (Code.loop c).wp P Q a w := by
  intro b k cs
  have key : ∀ (m : Nat) i s a w, (lim - i).toNat = m → i0 ≤ i → forN body m i s = some r → I i s a w →
      ∃ e a' w', Q e a' w' ∧ Arrives P (lone (b.at a (.code c :: .inLoop c :: k)) cs w) b k cs e a' w' := by
    intro m
    induction m with
    | zero =>
      intro i s a w hm hi hf hI
      simp only [forN, Option.some.injEq] at hf
      obtain ⟨e, a₁, w₁, hq, harr⟩ := he i s a w hI hi (by omega) hf.symm b (.inLoop c :: k) cs
      cases e with
      | normal => exact hq.elim
      | exit id => exact ⟨_, a₁, w₁, hq, .pass (x := .inLoop c) rfl (fun _ _ => .inl (by simp)) harr⟩
      | goto l => exact ⟨_, a₁, w₁, hq, .pass (x := .inLoop c) rfl (fun _ _ => .inl (by simp)) harr⟩
      | ret => exact ⟨_, a₁, w₁, hq, .pass (x := .inLoop c) rfl (fun _ _ => .inl (by simp)) harr⟩
      | panic ch => exact ⟨_, a₁, w₁, hq, .pass (x := .inLoop c) rfl (fun _ _ => .inl (by simp)) harr⟩
      | outgrown => exact ⟨_, a₁, w₁, hq, .pass (x := .inLoop c) rfl (fun _ _ => .inl (by simp)) harr⟩
    | succ m ih =>
      intro i s a w hm hi hf hI
      simp only [forN] at hf
      cases hb : body i s with
      | none => simp [hb] at hf
      | some q =>
        have hround := hr i s a w hI hi (by omega) q hb (by
          rintro y rfl
          simp only [hb, Option.some.injEq] at hf
          exact hf.symm)
        obtain ⟨e, a₁, w₁, hq, harr⟩ := hround b (.inLoop c :: k) cs
        cases e with
        | normal =>
          obtain ⟨s', rfl, hI'⟩ := hq
          simp only [hb] at hf
          obtain ⟨e₂, a₂, w₂, hq₂, harr₂⟩ := ih (i + 1) s' a₁ w₁ (by omega) (by omega) hf hI'
          exact ⟨e₂, a₂, w₂, hq₂, .of_steps (Steps.trans harr (.one step_inLoop)) harr₂⟩
        | exit id => exact ⟨_, a₁, w₁, hq, .pass (x := .inLoop c) rfl (fun _ _ => .inl (by simp)) harr⟩
        | goto l => exact ⟨_, a₁, w₁, hq, .pass (x := .inLoop c) rfl (fun _ _ => .inl (by simp)) harr⟩
        | ret => exact ⟨_, a₁, w₁, hq, .pass (x := .inLoop c) rfl (fun _ _ => .inl (by simp)) harr⟩
        | panic ch => exact ⟨_, a₁, w₁, hq, .pass (x := .inLoop c) rfl (fun _ _ => .inl (by simp)) harr⟩
        | outgrown => exact ⟨_, a₁, w₁, hq, .pass (x := .inLoop c) rfl (fun _ _ => .inl (by simp)) harr⟩
  obtain ⟨e, a', w', hq, harr⟩ := key _ i0 s0 a w rfl (Int.le_refl _) hx h0
  exact ⟨e, a', w', hq, .of_steps (.one step_loop) harr⟩

/-! ### sums that fit -/
def w64 (n : Int) : Int := IntKind.i64.wrap n
theorem w64_id {n : Int} (h1 : -9223372036854775808 ≤ n) (h2 : n < 9223372036854775808) : w64 n = n := by
  unfold w64; rw [IntKind.wrap_i64]; omega

section
variable {P : Program} {l : Env} {w : World} {o : Oper} {x y : Operand} {t t' : TypeId} {i j : Int}
theorem y_add64 (ho : o.op = .binOp .add t x y t') (hx : ev l x = some (.int .i64 i)) (hy : ev l y = some (.int .i64 j)) (h1 : -9223372036854775808 ≤ i + j) (h2 : i + j < 9223372036854775808) : Yl P l w o (.int .i64 (i + j)) := by
  have := y_add (P := P) (w := w) ho hx hy
  rwa [show IntKind.i64.wrap (i + j) = i + j from w64_id h1 h2] at this
theorem y_sub64 (ho : o.op = .binOp .sub t x y t') (hx : ev l x = some (.int .i64 i)) (hy : ev l y = some (.int .i64 j)) (h1 : -9223372036854775808 ≤ i - j) (h2 : i - j < 9223372036854775808) : Yl P l w o (.int .i64 (i - j)) := by
  have := y_sub (P := P) (w := w) ho hx hy
  rwa [show IntKind.i64.wrap (i - j) = i - j from w64_id h1 h2] at this
theorem y_addw (ho : o.op = .binOp .add t x y t') (hx : ev l x = some (.int .i64 i)) (hy : ev l y = some (.int .i64 j)) : Yl P l w o (.int .i64 (w64 (i + j))) := y_add ho hx hy
theorem y_subw (ho : o.op = .binOp .sub t x y t') (hx : ev l x = some (.int .i64 i)) (hy : ev l y = some (.int .i64 j)) : Yl P l w o (.int .i64 (w64 (i - j))) := y_sub ho hx hy
theorem y_mulw (ho : o.op = .binOp .mul t x y t') (hx : ev l x = some (.int .i64 i)) (hy : ev l y = some (.int .i64 j)) : Yl P l w o (.int .i64 (w64 (i * j))) := y_mul ho hx hy
end

section
variable {α : Type} [GT α] {w0 w : World} {hz h : Heap} {L : List Ch} {sv : Value} {xs : List α}
theorem rep_nil : GT.rep h [.slice none 0 0] ([] : List α) := rep_list.2 (.inl ⟨.inl rfl, rfl⟩)
theorem rep_len (hr : GT.rep h [sv] xs) : xs.length ≤ 140737488355328 := let ⟨_, _, _, h⟩ := ro_slice hr; h
theorem rep_one (hr : GT.rep h [sv] xs) : sv.oneCell' = true := GT.one hr _ (List.mem_singleton.2 rfl)
theorem Mem.nilow (hm : Mem w0 hz w L) : Mem w0 hz w (ow [.slice none 0 0] ([] : List α) :: L) :=
  hm.more (Same.refl w) (fun _ _ => rfl) ⟨fun _ => False, fun _ h => h.elim, own_list.2 (.inl ⟨rfl, rfl⟩)⟩
theorem Mem.blk_at {b : Nat} {cs : List Value} {T : TypeId} (hm : Mem w0 hz w L) (k : Nat) (hk : L[k]? = some (blk b cs T)) : CellsAt (hp w) b 0 cs :=
  ⟨cs.toArray, T, (0, 0), (hm.blk_cells k hk).1, fun j v hj => by simpa using hj⟩
theorem one_nil : ∀ v ∈ ([] : List Value), v.oneCell' = true := fun _ h => by cases h
theorem one_cons {v : Value} {vs : List Value} (h : v.oneCell' = true) (hs : ∀ u ∈ vs, u.oneCell' = true) : ∀ u ∈ v :: vs, u.oneCell' = true := fun u hu => by
  rcases List.mem_cons.1 hu with rfl | hu
  · exact h
  · exact hs u hu
end

section
variable {P : Program} {l : Env} {w : World} {o : Oper} {x : Operand} {a : Addr}
theorem y_nilptr (ho : o.op = .nilCheck x) (hx : ev l x = some (.pointer (some a))) : Yl P l w o (.pointer (some a)) := fun n a' hf => by
  simp [execOp, ho, hf.eval hx]
theorem y_makeFunc {fn : Fn} {captured : Array Operand} {cs : List Value} (ho : o.op = .makeFunc fn #[] captured) (hc : evs l captured.toList = some cs) : Yl P l w o (.func fn #[] cs.toArray) := fun n a' hf => by
  have := hf.evals hc
  have e : captured.map a'.eval = cs.toArray := by
    apply Array.ext'
    rw [Array.toList_map, this]
  simp [execOp, ho, Instr.makeFunc, e]
end
end Go.Wk
