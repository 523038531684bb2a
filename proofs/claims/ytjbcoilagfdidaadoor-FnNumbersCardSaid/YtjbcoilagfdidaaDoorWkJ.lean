/- A part of a proof: general laws of walks, no statement of the seat. -/
/- Lists of data with references: a part of an element is lent and given back. -/
import Derived.Test.YtjbcoilagfdidaaDoorWkI
namespace Go.Wk
open Go Go.RowKit

section
variable {α β γ : Type} [GT α] [GT β] [GT γ] {h : Heap}

/-- Data x, in the cells cs, has a part 'inner' in the cells v: it can be taken out and another put in its place. -/
def FocH (h : Heap) (cs : List Value) (x : α) (v : List Value) (inner : β) (put : β → α) : Prop :=
  ∀ (F : Nat → Prop), GT.own F h cs x → ∃ R G : Nat → Prop, (∀ b, R b → F b) ∧ (∀ b, G b → F b) ∧ (∀ b, R b → ¬ G b) ∧ GT.own G h v inner ∧
    ∀ (h' : Heap) (G' : Nat → Prop) (y : β), (∀ b, R b → h' b = h b) → (∀ b, G' b → ¬ R b) → GT.own G' h' v y → GT.own (fun b => R b ∨ G' b) h' cs (put y)

/-- A list with a part of an element taken out. -/
def hole (cs : List Value) (v : List Value) (put : β → α) : Ch where
  pr R h := ∀ (h' : Heap) (G' : Nat → Prop) (y : β), (∀ b, R b → h' b = h b) → (∀ b, G' b → ¬ R b) → GT.own G' h' v y → GT.own (fun b => R b ∨ G' b) h' cs (put y)
  loc R h h2 hp hh := fun h' G' y e1 e2 e3 => hp h' G' y (fun b hb => (e1 b hb).trans (hh b hb)) e2 e3
  mono R R' h hp hR := fun h' G' y e1 e2 e3 => GT.own_mono (fun b hb => hb.elim (fun hb => .inl (hR b hb)) .inr) (hp h' G' y (fun b hb => e1 b (hR b hb)) (fun b hb hr => e2 b hb (hR b hr)) e3)

variable {w0 w : World} {hz : Heap} {L : List Ch}

/-- A part is taken out: it comes first, the rest stays a hole. -/
theorem Mem.open {cs v : List Value} {x : α} {inner : β} {put : β → α} (hm : Mem w0 hz w L) (k : Nat) (hk : L[k]? = some (ow cs x)) (hf : FocH (hp w) cs x v inner put) :
    Mem w0 hz w (ow v inner :: L.set k (hole cs v put)) := by
  obtain ⟨hs, hlez, Fs, f1, f2, f3⟩ := hm
  obtain ⟨R, G, r1, r2, r3, r4, r5⟩ := hf _ (f1 k _ hk)
  refine ⟨hs, hlez, fun i b => match i with | 0 => G b | i + 1 => if i = k then R b else Fs i b, ?_, ?_, ?_⟩
  · intro i c hi
    cases i with
    | zero => simp at hi; subst hi; exact r4
    | succ i =>
      simp only [List.getElem?_cons_succ] at hi
      by_cases e : i = k
      · subst e
        have hl : i < L.length := (List.getElem?_eq_some_iff.1 hk).1
        rw [List.getElem?_set_self hl] at hi
        simp only [Option.some.injEq] at hi
        subst hi
        simp only [if_true]
        exact r5
      · rw [List.getElem?_set_ne (Ne.symm e)] at hi
        simp only [e, if_false]
        exact f1 i c hi
  · intro i j b hij hi hj
    cases i with
    | zero =>
      cases j with
      | zero => exact hij rfl
      | succ j =>
        simp only at hi hj
        split at hj
        · exact r3 b hj hi
        · rename_i e; exact f2 k j b (Ne.symm e) (r2 b hi) hj
    | succ i =>
      cases j with
      | zero =>
        simp only at hi hj
        split at hi
        · exact r3 b hi hj
        · rename_i e; exact f2 k i b (Ne.symm e) (r2 b hj) hi
      | succ j =>
        simp only at hi hj
        split at hi <;> split at hj
        · rename_i e1 e2; exact hij (by rw [e1, e2])
        · rename_i e1 e2; exact f2 k j b (Ne.symm e2) (r1 b hi) hj
        · rename_i e1 e2; exact f2 k i b (Ne.symm e1) (r1 b hj) hi
        · exact f2 i j b (by omega) hi hj
  · intro i b hi
    cases i with
    | zero => exact f3 k b (r2 b hi)
    | succ i =>
      simp only at hi
      split at hi
      · exact f3 k b (r1 b hi)
      · exact f3 i b hi

/-- An element's own cells are turned; what it leads to stays. -/
theorem sliceOwn.alter {h' : Heap} {F : Nat → Prop} {b off len cap i : Nat} {xs : List α} {C C' : Array Value} {T : TypeId} {x' : α} (ho : sliceOwn F h (.slice (some ⟨b, off, none⟩) len cap) xs) (hi : i < xs.length)
    (hC : h b = some (.cells C T (0, 0))) (hC' : h' b = some (.cells C' T (0, 0))) (hsz : C'.size = C.size) (hout : ∀ j, (j < off + i * GT.sz α ∨ off + i * GT.sz α + GT.sz α ≤ j) → C'[j]? = C[j]?)
    (hh : ∀ c, F c → c ≠ b → h' c = h c) (hx : ∀ G : Nat → Prop, (∀ c, G c → F c ∧ c ≠ b) → GT.own G h (seg C (off + i * GT.sz α) (GT.sz α)) xs[i] → GT.own G h' (seg C' (off + i * GT.sz α) (GT.sz α)) x') :
    sliceOwn F h' (.slice (some ⟨b, off, none⟩) len cap) (xs.set i x') := by
  rcases ho with ⟨hv, _⟩ | ⟨b', off', len', cap', C0, T0, hv, hF, hb, hl, hc, hm, hs, fps, h1, h2, h3⟩
  · cases hv
  simp only [Value.slice.injEq, Option.some.injEq, Addr.mk.injEq] at hv
  obtain ⟨⟨rfl, rfl, _⟩, rfl, rfl⟩ := hv
  rw [hC] at hb
  simp only [Option.some.injEq, Obj.cells.injEq] at hb
  obtain ⟨rfl, rfl, _⟩ := hb
  refine .inr ⟨b, off, len, cap, C', T, rfl, hF, hC', by simpa using hl, hc, hm, by rw [hsz]; exact hs, fps, h1, h2, fun j z hz => ?_⟩
  by_cases hji : j = i
  · subst hji
    rw [List.getElem?_set_self hi] at hz
    simp only [Option.some.injEq] at hz
    subst hz
    exact hx _ (h1 j) (h3 j _ (List.getElem?_eq_getElem hi))
  · rw [List.getElem?_set_ne (Ne.symm hji)] at hz
    have hjl : j < xs.length := (List.getElem?_eq_some_iff.1 hz).1
    have he : seg C' (off + j * GT.sz α) (GT.sz α) = seg C (off + j * GT.sz α) (GT.sz α) := by
      apply List.ext_getElem?
      intro q
      by_cases hq : q < GT.sz α
      · rw [seg_get hq, seg_get hq]
        refine hout _ ?_
        rcases Nat.lt_or_ge j i with hlt | hge
        · left
          have : (j + 1) * GT.sz α ≤ i * GT.sz α := Nat.mul_le_mul_right _ hlt
          rw [Nat.add_mul] at this
          omega
        · right
          have : (i + 1) * GT.sz α ≤ j * GT.sz α := Nat.mul_le_mul_right _ (by omega)
          rw [Nat.add_mul] at this
          omega
      · rw [List.getElem?_eq_none (by simp [seg]; omega), List.getElem?_eq_none (by simp [seg]; omega)]
    rw [he]
    exact GT.own_loc (h3 j z hz) fun c hc => hh c (h1 j c hc).1 (h1 j c hc).2

def both (c d : Ch) : Ch where
  pr F h := ∃ F1 G1 : Nat → Prop, (∀ b, F1 b → F b) ∧ (∀ b, G1 b → F b) ∧ (∀ b, F1 b → ¬ G1 b) ∧ c.pr F1 h ∧ d.pr G1 h
  loc F h h' := fun ⟨F1, G1, a, b, e, p, q⟩ hh => ⟨F1, G1, a, b, e, c.loc _ _ _ p (fun x hx => hh x (a x hx)), d.loc _ _ _ q (fun x hx => hh x (b x hx))⟩
  mono F F' h := fun ⟨F1, G1, a, b, e, p, q⟩ hF => ⟨F1, G1, fun x hx => hF x (a x hx), fun x hx => hF x (b x hx), e, p, q⟩

/-- Two chunks are one. -/
theorem Mem.both {c d : Ch} (hm : Mem w0 hz w L) (k j : Nat) (hkj : k ≠ j) (hk : L[k]? = some c) (hj : L[j]? = some d) :
    Mem w0 hz w ((L.set k (both c d)).set j ⟨fun _ _ => True, fun _ _ _ _ _ => trivial, fun _ _ _ _ _ => trivial⟩) :=
  hm.merge k j hkj hk hj fun F G h1 h2 h3 => ⟨F, G, fun _ h => .inl h, fun _ h => .inr h, h3, h1, h2⟩

section
variable {P : Program} {a : Act} {o : Oper} {n : Nat} {l : Env} {v : Value} {x y : Operand} {xs : List α}

theorem seg_length {C : Array Value} {o m : Nat} (h : o + m ≤ C.size) : (seg C o m).length = m := by
  simp [seg]; omega

theorem cells_seg {b o : Nat} {ecs : List Value} {C : Array Value} {T : TypeId} {fz : Nat × Nat} (hc : CellsAt h b o ecs) (hb : h b = some (.cells C T fz)) (hl : o + ecs.length ≤ C.size) : seg C o ecs.length = ecs := by
  obtain ⟨C', T', fz', e1, e2⟩ := hc
  rw [hb] at e1
  simp only [Option.some.injEq, Obj.cells.injEq] at e1
  obtain ⟨rfl, _, _⟩ := e1
  apply List.ext_getElem?
  intro j
  by_cases hj : j < ecs.length
  · have hje : ecs[j]? = some (ecs[j]'hj) := List.getElem?_eq_getElem hj
    rw [seg_get hj, hje, e2 j _ hje]
  · rw [List.getElem?_eq_none (l := ecs) (by omega), List.getElem?_eq_none (by simp [seg]; omega)]

theorem seg_splice {C : Array Value} {o j m : Nat} {vs : List Value} (hl : o + m ≤ C.size) (hj : j + vs.length ≤ m) :
    seg (splice C.toList (o + j) vs).toArray o m = splice (seg C o m) j vs := by
  have hle : o + j + vs.length ≤ C.toList.length := by simp; omega
  have hsl : (seg C o m).length = m := seg_length hl
  apply List.ext_getElem?
  intro q
  by_cases hq : q < m
  · rw [seg_get hq, List.getElem?_toArray, splice_get hle, splice_get (by omega), seg_get hq]
    by_cases hc : j ≤ q ∧ q < j + vs.length
    · rw [if_pos (by omega), if_pos hc]; congr 1; omega
    · rw [if_neg (by omega), if_neg hc]; simp
  · rw [List.getElem?_eq_none (by simp [seg]; omega), List.getElem?_eq_none (by rw [splice_length (by omega)]; omega)]

/-- A store into a part of an element that leads to other memory: what it leads to stays. -/
theorem e_setElemR {b off len cap i j : Nat} {x0 x1 : α} {vs ecs : List Value} {ty : TypeId} (k : Nat) (hf : Fr n l a) (hm : Mem w0 hz w L) (hk : L[k]? = some (ow [.slice (some ⟨b, off, none⟩) len cap] xs)) (hx0 : xs[i]? = some x0)
    (hc : CellsAt (hp w) b (off + i * GT.sz α) ecs) (hel : ecs.length = GT.sz α) (hch : ∀ G h, GT.own G h ecs x0 → GT.own G h (splice ecs j vs) x1)
    (ho : o.op = .store ty x y) (hs : ∀ w, (sizeOf ty).run P w = .ok vs.length w) (hx : ev l x = some (.pointer (some ⟨b, off + i * GT.sz α + j, none⟩))) (hy : ev l y = some v) (hv : v.cells = vs.toArray) (h1 : ∀ u ∈ vs, u.oneCell' = true)
    (hj : Nat.ble (j + vs.length) (GT.sz α) = true) :
    Ef P a w o (fun _ w' => Mem w0 hz w' (L.set k (ow [.slice (some ⟨b, off, none⟩) len cap] (xs.set i x1)))) := by
  have hj' := Nat.le_of_ble_eq_true hj
  obtain ⟨hi, hxi⟩ := List.getElem?_eq_some_iff.1 hx0
  obtain ⟨F, hF, hFw⟩ := hm.get k hk
  obtain ⟨C, T', G, q1, q2, q3, q4, q5, q6⟩ := (own_list.1 hF).at hi
  have hst := run_storeCells_at P b (off + i * GT.sz α + j) T' vs 0 C w q1 (by simp; omega) h1
  refine ef_skip (w' := w.setRow b (splice C.toList (off + i * GT.sz α + j) vs).toArray) ?_ ?_
  · simp [execOp, ho, hf.eval hx, hf.eval hy, Instr.storeAt, Instr.sureAddr, storeVar, hv, hs, hst, splice]
  · refine hm.upd k hk ⟨rfl, rfl, rfl, by simp⟩ fun F hF hFw => ?_
    have ho' := own_list.1 hF
    obtain ⟨C2, T2, G2, p1, p2, p3, p4, p5, p6⟩ := ho'.at hi
    rw [q1] at p1
    simp only [Option.some.injEq, Obj.cells.injEq] at p1
    obtain ⟨rfl, rfl, _⟩ := p1
    have hle : off + i * GT.sz α + j + vs.length ≤ C.toList.length := by simp; omega
    have hb' := setRow_heap w b C (splice C.toList (off + i * GT.sz α + j) vs).toArray T' (0, 0) q1
    have hseg : seg C (off + i * GT.sz α) (GT.sz α) = ecs := by
      have := cells_seg hc q1 (by omega)
      rwa [hel] at this
    refine ⟨F, fun _ h => .inl h, fun c hc => by simpa using hFw c hc, ?_, fun c _ hne => setRow_other w b c _ (fun e => hne (by subst e; exact p2))⟩
    refine own_list.2 (sliceOwn.alter (h' := hp (w.setRow b (splice C.toList (off + i * GT.sz α + j) vs).toArray)) ho' hi q1 hb' (by simp [splice_length hle]) (fun q hq => ?_) (fun c _ hne => setRow_other w b c _ hne) (fun G hG hown => ?_))
    · simp only [List.getElem?_toArray, splice_get hle]
      rw [if_neg (by omega)]
      simp
    · rw [seg_splice (by omega) hj', hseg]
      rw [hseg, hxi] at hown
      exact GT.own_loc (hch G _ hown) fun c hc => setRow_other w b c _ (hG c hc).2

end
end
end Go.Wk
