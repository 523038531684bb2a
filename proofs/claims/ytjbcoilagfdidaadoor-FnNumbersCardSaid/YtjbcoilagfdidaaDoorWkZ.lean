/- A part of a proof: general laws of walks, no statement of the seat. -/
/- An element of a list of the call's own is taken out whole: its cells stay in their place and can be written. -/
import Derived.Test.YtjbcoilagfdidaaDoorWkY
namespace Go.Wk
open Go Go.RowKit

section
variable {w0 w : World} {hz : Heap} {L : List Ch}

/-- One chunk becomes two. -/
theorem Mem.split {c c1 c2 : Ch} (hm : Mem w0 hz w L) (k : Nat) (hk : L[k]? = some c)
    (H : ∀ F, c.pr F (hp w) → ∃ R G : Nat → Prop, (∀ b, R b → F b) ∧ (∀ b, G b → F b) ∧ (∀ b, R b → ¬ G b) ∧ c1.pr R (hp w) ∧ c2.pr G (hp w)) : Mem w0 hz w (c2 :: L.set k c1) := by
  obtain ⟨hs, hlez, Fs, f1, f2, f3⟩ := hm
  obtain ⟨R, G, r1, r2, r3, r4, r5⟩ := H _ (f1 k _ hk)
  refine ⟨hs, hlez, fun i b => match i with | 0 => G b | i + 1 => if i = k then R b else Fs i b, ?_, ?_, ?_⟩
  · intro i d hi
    cases i with
    | zero => simp at hi; subst hi; exact r5
    | succ i =>
      simp only [List.getElem?_cons_succ] at hi
      by_cases e : i = k
      · subst e
        have hl : i < L.length := (List.getElem?_eq_some_iff.1 hk).1
        rw [List.getElem?_set_self hl] at hi
        simp only [Option.some.injEq] at hi
        subst hi
        simp only [if_true]
        exact r4
      · rw [List.getElem?_set_ne (Ne.symm e)] at hi
        simp only [e, if_false]
        exact f1 i d hi
  · intro i j b hij hi hj
    cases i with
    | zero =>
      cases j with
      | zero => exact hij rfl
      | succ j =>
        simp only at hi hj
        split at hj
        · exact r3 b hj hi
        · rename_i e; exact f2 k j b (Ne.symm e) (r2 b hi) hj
    | succ i =>
      cases j with
      | zero =>
        simp only at hi hj
        split at hi
        · exact r3 b hi hj
        · rename_i e; exact f2 k i b (Ne.symm e) (r2 b hj) hi
      | succ j =>
        simp only at hi hj
        split at hi <;> split at hj
        · rename_i e1 e2; exact hij (by rw [e1, e2])
        · rename_i e1 e2; exact f2 k j b (Ne.symm e2) (r1 b hi) hj
        · rename_i e1 e2; exact f2 k i b (Ne.symm e1) (r1 b hj) hi
        · exact f2 i j b (by omega) hi hj
  · intro i b hi
    cases i with
    | zero => exact f3 k b (r2 b hi)
    | succ i =>
      simp only at hi
      split at hi
      · exact f3 k b (r1 b hi)
      · exact f3 i b hi

theorem Mem.unpair {α β : Type} [GT α] [GT β] {c d : List Value} {x : α} {y : β} (hm : Mem w0 hz w L) (k : Nat) (hk : L[k]? = some (ow (c ++ d) (x, y))) (hl : c.length = GT.sz α) : Mem w0 hz w (ow d y :: L.set k (ow c x)) :=
  hm.split k hk fun F hF => by
    obtain ⟨c', d', he, G1, G2, g1, g2, g3, h1, h2⟩ := hF
    have hc : c'.length = GT.sz α := GT.len (GT.own_rep h1)
    obtain ⟨rfl, rfl⟩ := List.append_inj he (by rw [hc, hl])
    exact ⟨G1, G2, g1, g2, g3, h1, h2⟩
end

section
variable {α : Type} [GT α]
/-- A list without one of its elements, whose cells are ecs. -/
def holeE (b off len cap : Nat) (xs : List α) (i : Nat) (ecs : List Value) : Ch where
  pr R h := ∃ C T, ∃ fps : Nat → Nat → Prop, h b = some (.cells C T (0, 0)) ∧ R b ∧ xs.length = len ∧ len ≤ cap ∧ (cap ≤ maxLen ∧ len ≤ 140737488355328) ∧ off + cap * GT.sz α ≤ C.size ∧
    (∀ j c, fps j c → R c ∧ c ≠ b) ∧ (∀ j k c, j ≠ k → fps j c → ¬ fps k c) ∧ (∀ (j : Nat) (x : α), j ≠ i → xs[j]? = some x → GT.own (fps j) h (seg C (off + j * GT.sz α) (GT.sz α)) x) ∧ i < xs.length ∧ seg C (off + i * GT.sz α) (GT.sz α) = ecs
  loc R h h2 hp hh := by
    obtain ⟨C, T, fps, e1, e2, e3, e4, e5, e6, e7, e8, e9, e10, e11⟩ := hp
    exact ⟨C, T, fps, (hh b e2).trans e1, e2, e3, e4, e5, e6, e7, e8, fun j x hj hx => GT.own_loc (e9 j x hj hx) fun c hc => hh c (e7 j c hc).1, e10, e11⟩
  mono R R' h hp hR := by
    obtain ⟨C, T, fps, e1, e2, e3, e4, e5, e6, e7, e8, e9, e10, e11⟩ := hp
    exact ⟨C, T, fps, e1, hR b e2, e3, e4, e5, e6, fun j c hc => ⟨hR c (e7 j c hc).1, (e7 j c hc).2⟩, e8, e9, e10, e11⟩

variable {w0 w : World} {hz : Heap} {L : List Ch} {b off len cap i : Nat} {xs : List α} {x : α} {ecs : List Value}

theorem Mem.openE (hm : Mem w0 hz w L) (k : Nat) (hk : L[k]? = some (ow [.slice (some ⟨b, off, none⟩) len cap] xs)) (hx : xs[i]? = some x) :
    ∃ ecs, CellsAt (hp w) b (off + i * GT.sz α) ecs ∧ Mem w0 hz w (ow ecs x :: L.set k (holeE b off len cap xs i ecs)) := by
  obtain ⟨hi, hxi⟩ := List.getElem?_eq_some_iff.1 hx
  obtain ⟨F, hF, hFw⟩ := hm.get k hk
  rcases own_list.1 hF with ⟨hv, _⟩ | ⟨b', off', len', cap', C, T, hv, hFb, hb, hlen, hcap, hmx, hs, fps, h1, h2, h3⟩
  · cases hv
  simp only [Value.slice.injEq, Option.some.injEq, Addr.mk.injEq] at hv
  obtain ⟨⟨rfl, rfl, _⟩, rfl, rfl⟩ := hv
  refine ⟨seg C (off + i * GT.sz α) (GT.sz α), cellsAt_seg hb, hm.split k hk fun F' hF' => ?_⟩
  rcases own_list.1 hF' with ⟨hv, _⟩ | ⟨b', off', len', cap', C', T', hv, hFb', hb', hlen', hcap', hmx', hs', fps', h1', h2', h3'⟩
  · cases hv
  simp only [Value.slice.injEq, Option.some.injEq, Addr.mk.injEq] at hv
  obtain ⟨⟨rfl, rfl, _⟩, rfl, rfl⟩ := hv
  rw [hb] at hb'
  simp only [Option.some.injEq, Obj.cells.injEq] at hb'
  obtain ⟨rfl, rfl, _⟩ := hb'
  refine ⟨fun c => F' c ∧ ¬ fps' i c, fps' i, fun c hc => hc.1, fun c hc => (h1' i c hc).1, fun c hc => hc.2, ?_, h3' i x hx⟩
  refine ⟨C, T, fun j c => j ≠ i ∧ fps' j c, hb, ⟨hFb', fun hc => (h1' i b hc).2 rfl⟩, hlen', hcap', hmx', hs', ?_, ?_, ?_, hi, rfl⟩
  · rintro j c ⟨hj, hc⟩
    exact ⟨⟨(h1' j c hc).1, fun hc' => h2' j i c hj hc hc'⟩, (h1' j c hc).2⟩
  · rintro j q c hjq ⟨_, hc⟩ ⟨_, hc'⟩
    exact h2' j q c hjq hc hc'
  · intro j y hj hy
    exact GT.own_mono (fun c hc => ⟨hj, hc⟩) (h3' j y hy)

theorem Mem.holeE_at (hm : Mem w0 hz w L) (k : Nat) (hk : L[k]? = some (holeE b off len cap xs i ecs)) : CellsAt (hp w) b (off + i * GT.sz α) ecs := by
  obtain ⟨F, hF, _⟩ := hm.get k hk
  obtain ⟨C, T, fps, e1, e2, e3, e4, e5, e6, e7, e8, e9, e10, e11⟩ := hF
  rw [← e11]
  exact cellsAt_seg e1

theorem Mem.holeE_len (hm : Mem w0 hz w L) (k : Nat) (hk : L[k]? = some (holeE b off len cap xs i ecs)) : xs.length = len := by
  obtain ⟨F, hF, _⟩ := hm.get k hk
  obtain ⟨C, T, fps, e1, e2, e3, _⟩ := hF
  exact e3
omit [GT α] in
theorem set_same {xs : List α} {i : Nat} {x : α} (h : xs[i]? = some x) : xs.set i x = xs := by
  obtain ⟨hi, rfl⟩ := List.getElem?_eq_some_iff.1 h
  exact List.set_getElem_self hi

theorem Mem.shutE {y : α} (hm : Mem w0 hz w L) (k j : Nat) (hkj : k ≠ j) (hk : L[k]? = some (holeE b off len cap xs i ecs)) (hj : L[j]? = some (ow ecs y)) :
    Mem w0 hz w ((L.set k (ow [.slice (some ⟨b, off, none⟩) len cap] (xs.set i y))).set j ⟨fun _ _ => True, fun _ _ _ _ _ => trivial, fun _ _ _ _ _ => trivial⟩) :=
  hm.merge k j hkj hk hj fun F G hF hG hd => by
    obtain ⟨C, T, fps, e1, e2, e3, e4, e5, e6, e7, e8, e9, e10, e11⟩ := hF
    refine own_list.2 (.inr ⟨b, off, len, cap, C, T, rfl, .inl e2, e1, by simpa using e3, e4, e5, e6, fun q c => if q = i then G c else fps q c, ?_, ?_, ?_⟩)
    · intro q c hc
      try dsimp only at hc
      split at hc
      · exact ⟨.inr hc, fun e => by subst e; exact hd c e2 hc⟩
      · exact ⟨.inl (e7 q c hc).1, (e7 q c hc).2⟩
    · intro q r c hqr hc hc'
      try dsimp only at hc hc'
      split at hc <;> split at hc'
      · rename_i a1 a2; exact hqr (by rw [a1, a2])
      · exact hd c (e7 r c hc').1 hc
      · exact hd c (e7 q c hc).1 hc'
      · exact e8 q r c hqr hc hc'
    · intro q z hz
      dsimp only
      by_cases e : q = i
      · subst e
        rw [List.getElem?_set_self e10] at hz
        simp only [Option.some.injEq] at hz
        subst hz
        simp only [if_true]
        rw [e11]; exact hG
      · rw [List.getElem?_set_ne (Ne.symm e)] at hz
        simp only [e, if_false]
        exact e9 q z e hz

/-- A store into the cells of the element that is out. -/
theorem e_storeH {P : Program} {a : Act} {o : Oper} {n j : Nat} {l : Env} {v : Value} {p q : Operand} {vs : List Value} {ty : TypeId} (k : Nat) (hf : Fr n l a) (hm : Mem w0 hz w L) (hk : L[k]? = some (holeE b off len cap xs i ecs)) (hel : ecs.length = GT.sz α)
    (ho : o.op = .store ty p q) (hs : ∀ w, (sizeOf ty).run P w = .ok vs.length w) (hp' : ev l p = some (.pointer (some ⟨b, off + i * GT.sz α + j, none⟩))) (hq : ev l q = some v) (hv : v.cells = vs.toArray) (h1 : ∀ u ∈ vs, u.oneCell' = true)
    (hj : Nat.ble (j + vs.length) (GT.sz α) = true) :
    Ef P a w o (fun _ w' => Mem w0 hz w' (L.set k (holeE b off len cap xs i (splice ecs j vs)))) := by
  have hj' := Nat.le_of_ble_eq_true hj
  obtain ⟨F, hF, hFw⟩ := hm.get k hk
  obtain ⟨C, T, fps, e1, e2, e3, e4, e5, e6, e7, e8, e9, e10, e11⟩ := hF
  have hil : off + i * GT.sz α + GT.sz α ≤ C.size := by
    have := mul_lt_of (s := GT.sz α) (show i < cap by omega)
    omega
  have hle : off + i * GT.sz α + j + vs.length ≤ C.toList.length := by simp; omega
  have hst := run_storeCells_at P b (off + i * GT.sz α + j) T vs 0 C w e1 (by simp; omega) h1
  have hb' := setRow_heap w b C (splice C.toList (off + i * GT.sz α + j) vs).toArray T (0, 0) e1
  refine ef_skip (w' := w.setRow b (splice C.toList (off + i * GT.sz α + j) vs).toArray) ?_ ?_
  · simp [execOp, ho, hf.eval hp', hf.eval hq, Instr.storeAt, Instr.sureAddr, storeVar, hv, hs, hst, splice]
  · refine hm.upd k hk ⟨rfl, rfl, rfl, by simp⟩ fun F' hF' hlt => ⟨F', fun _ h => .inl h, fun c hc => by simpa using hlt c hc, ?_, fun c _ hne => setRow_other w b c _ (fun e => hne (by
      obtain ⟨C', T', fps', a1, a2, _⟩ := hF'
      subst e; exact a2))⟩
    obtain ⟨C', T', fps', a1, a2, a3, a4, a5, a6, a7, a8, a9, a10, a11⟩ := hF'
    rw [e1] at a1
    simp only [Option.some.injEq, Obj.cells.injEq] at a1
    obtain ⟨rfl, rfl, _⟩ := a1
    refine ⟨(splice C.toList (off + i * GT.sz α + j) vs).toArray, T, fps', hb', a2, a3, a4, a5, by simp [splice_length hle]; omega, a7, a8, ?_, a10, ?_⟩
    · intro r z hr hz
      rw [seg_eq (C := C) (by simp [splice_length hle])]
      · exact GT.own_loc (a9 r z hr hz) fun c hc => setRow_other w b c _ (a7 r c hc).2
      · intro t ht1 ht2
        rw [List.getElem?_toArray, splice_get hle, if_neg]
        · simp
        · rcases Nat.lt_or_gt_of_ne hr with hlt | hgt
          · have := mul_lt_of (s := GT.sz α) hlt; omega
          · have := mul_lt_of (s := GT.sz α) hgt; omega
    · rw [← a11]
      apply List.ext_getElem?
      intro t
      have hsl : (seg C (off + i * GT.sz α) (GT.sz α)).length = GT.sz α := seg_len hil
      by_cases ht : t < GT.sz α
      · rw [seg_get ht, List.getElem?_toArray, splice_get hle, splice_get (by omega)]
        by_cases hc : j ≤ t ∧ t < j + vs.length
        · rw [if_pos (by omega), if_pos hc]; congr 1; omega
        · rw [if_neg (by omega), if_neg hc, seg_get ht]; simp
      · rw [List.getElem?_eq_none (by simp [seg]; omega), List.getElem?_eq_none (by rw [splice_length (by omega)]; omega)]
end
section
variable {n : Nat} {l : Env} {a : Act} {P : Program} {w : World} {o : Oper} {v : Value}
theorem ef_y' (hf : Fr n l a) (hy : Yl P l w o v) : Ef P a w o (fun u w' => v = u ∧ w' = w) :=
 ef_value (hy n a hf) ⟨rfl, rfl⟩
end
abbrev pV (b : Nat) : Value := .pointer (some ⟨b, 0, none⟩)
abbrev sV (b o n c : Nat) : Value := .slice (some ⟨b, o, none⟩) n c
/-- A whole number's value; the cells of an array of sixteen, ahead of others. -/
abbrev nV (n : Int) : Value := .int .i64 n
abbrev q16 (e : List Int) (r : List Value) : List Value := .int .i64 (e.getD 0 0) :: .int .i64 (e.getD 1 0) :: .int .i64 (e.getD 2 0) :: .int .i64 (e.getD 3 0) :: .int .i64 (e.getD 4 0) :: .int .i64 (e.getD 5 0) :: .int .i64 (e.getD 6 0) :: .int .i64 (e.getD 7 0) :: .int .i64 (e.getD 8 0) :: .int .i64 (e.getD 9 0) :: .int .i64 (e.getD 10 0) :: .int .i64 (e.getD 11 0) :: .int .i64 (e.getD 12 0) :: .int .i64 (e.getD 13 0) :: .int .i64 (e.getD 14 0) :: .int .i64 (e.getD 15 0) :: r
def Ord.sub (u : Ord) : Ord → Ord
  | .fin => u
  | .q i t => .q i (Ord.sub u t)
  | .p i t => .p i (Ord.sub u t)
  | .e i t m => .e i (Ord.sub u t) (Ord.sub u m)
  | .nil => .nil
section
variable {P : Program} {ops : Array Oper} {S : World → Prop} {ns : List Nat} {Q Q' : Exit → Act → World → Prop}
theorem lets_q (hq : ∀ e, e ≠ .normal → ∀ a w, Q e a w → Q' e a w) (h : LetsOut Q) : LetsOut Q' := by
  obtain ⟨a, w, h⟩ := h
  exact ⟨a, w, hq .outgrown (by intro h; cases h) _ _ h⟩
theorem oper_wp_q {o : Oper} {a : Act} {w : World} {K : Act → World → Prop} (hq : ∀ e, e ≠ .normal → ∀ a w, Q e a w → Q' e a w) (hh : o.wp P a w K Q) : o.wp P a w K Q' := by
  have hp : ∀ c a w, Q (.panic c) a w → Q' (.panic c) a w := fun c a w => hq _ (by intro h; cases h) a w
  unfold Oper.wp at *
  generalize (execOp a.eval o).run P w = r at *
  cases r with
  | ok n w' =>
    cases n <;> simp only [Oper.upon] at hh ⊢ <;>
      first
        | exact hh
        | exact hp _ _ _ hh
        | exact lets_q hq hh
        | exact Calls.mono hh (fun e w'' he => by cases e <;> first | exact he | exact hp _ _ _ he | exact lets_q hq he)
        | exact Rows.mono hh (fun _ _ he => he)
  | halt x w' => cases x <;> simp only [Oper.upon] at hh ⊢ <;> first | exact hh | exact hp _ _ _ hh | exact lets_q hq hh
theorem wpOp_q {i : Nat} {a : Act} {w : World} {K : Act → World → Prop} (hq : ∀ e, e ≠ .normal → ∀ a w, Q e a w → Q' e a w) (hh : wpOp P ops Q i K a w) : wpOp P ops Q' i K a w := by
  unfold wpOp at *
  split
  · simpa [*] using hh
  · rename_i o ho
    simp only [ho] at hh
    split
    · rename_i hw; simp only [hw, if_true] at hh
      exact hh.imp (oper_wp_q hq) (fun h => ⟨h.1, lets_q hq h.2⟩)
    · rename_i hw; simp only [hw] at hh; exact hh
end
def pl (o : Oper) (n : Nat) : Option Nat := match o.guard, o.dst with
  | none, some d => bif Nat.blt d n then some d else none
  | _, _ => none
def pt (ops : Array Oper) (n i : Nat) : Option (Oper × Nat) := match ops[i]? with
  | some o => match pl o n with
    | some d => some (o, d)
    | none => none
  | none => none
section
variable {P : Program} {ops : Array Oper} {Q : Exit → Act → World → Prop} {a : Act} {w : World} {o : Oper} {n : Nat} {l : Env} {d i : Nat} {v : Value} {R : Value → World → Prop} {rest : List Oper}
variable {S : World → Prop} {ns : List Nat} {t : Ord}
end
theorem Mem.pk {w0 w : World} {hz : Heap} {L L' : List Ch} (hm : Mem w0 hz w L) (js : List Nat) (hn : decide js.Nodup = true) (hL : js.map (fun j => L[j]?) = L'.map some) : Mem w0 hz w L' := hm.pick js (of_decide_eq_true hn) hL
end Go.Wk
