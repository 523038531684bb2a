/- A part of a proof: general laws of walks, no statement of the seat. -/
/- Lists of data with references: a part of an element is lent and given back. -/
import Derived.Test.YtjbcoilagfdidaaGreatWkI
namespace Go.Wk
open Go Go.RowKit

section
variable {α β γ : Type} [GT α] [GT β] [GT γ] {h : Heap}

/-- Data x, in the cells cs, has a part 'inner' in the cells v: it can be taken out and another put in its place. -/
def FocH (h : Heap) (cs : List Value) (x : α) (v : List Value) (inner : β) (put : β → α) : Prop :=
  ∀ (F : Nat → Prop), GT.own F h cs x → ∃ R G : Nat → Prop, (∀ b, R b → F b) ∧ (∀ b, G b → F b) ∧ (∀ b, R b → ¬ G b) ∧ GT.own G h v inner ∧
    ∀ (h' : Heap) (G' : Nat → Prop) (y : β), (∀ b, R b → h' b = h b) → (∀ b, G' b → ¬ R b) → GT.own G' h' v y → GT.own (fun b => R b ∨ G' b) h' cs (put y)

theorem foc_id (cs : List Value) (x : α) : FocH h cs x cs x (fun y => y) := fun F ho =>
  ⟨fun _ => False, F, fun _ h => h.elim, fun _ h => h, fun _ h => h.elim, ho, fun _ _ _ _ _ ho' => GT.own_mono (fun _ h => .inr h) ho'⟩

theorem foc_fst {cs ds v : List Value} {x : α} {z : β} {inner : γ} {put : γ → α} (hl : cs.length = GT.sz α) (hf : FocH h cs x v inner put) : FocH h (cs ++ ds) (x, z) v inner (fun y => (put y, z)) := by
  rintro F ⟨c, d, he, G1, G2, g1, g2, g3, h1, h2⟩
  have hc : c.length = GT.sz α := GT.len (GT.own_rep h1)
  obtain ⟨rfl, rfl⟩ := List.append_inj he.symm (by rw [hc, hl])
  obtain ⟨R, G, r1, r2, r3, r4, r5⟩ := hf _ h1
  refine ⟨fun b => R b ∨ G2 b, G, fun b hb => hb.elim (fun hb => g1 b (r1 b hb)) (g2 b), fun b hb => g1 b (r2 b hb), fun b hb hg => hb.elim (fun hb => r3 b hb hg) (fun hb => g3 b (r2 b hg) hb), r4, fun h' G' y e1 e2 e3 => ?_⟩
  refine ⟨_, _, rfl, fun b => R b ∨ G' b, G2, fun b hb => hb.elim (fun hb => .inl (.inl hb)) .inr, fun b hb => .inl (.inr hb), fun b hb hg => hb.elim (fun hb => g3 b (r1 b hb) hg) (fun hb => e2 b hb (.inr hg)), r5 h' G' y (fun b hb => e1 b (.inl hb)) (fun b hb hr => e2 b hb (.inl hr)) e3, ?_⟩
  exact GT.own_loc h2 fun b hb => e1 b (.inr hb)

theorem foc_snd {cs ds v : List Value} {x : β} {z : α} {inner : γ} {put : γ → β} (hl : cs.length = GT.sz α) (hf : FocH h ds x v inner put) : FocH h (cs ++ ds) (z, x) v inner (fun y => (z, put y)) := by
  rintro F ⟨c, d, he, G1, G2, g1, g2, g3, h1, h2⟩
  have hc : c.length = GT.sz α := GT.len (GT.own_rep h1)
  obtain ⟨rfl, rfl⟩ := List.append_inj he.symm (by rw [hc, hl])
  obtain ⟨R, G, r1, r2, r3, r4, r5⟩ := hf _ h2
  refine ⟨fun b => R b ∨ G1 b, G, fun b hb => hb.elim (fun hb => g2 b (r1 b hb)) (g1 b), fun b hb => g2 b (r2 b hb), fun b hb hg => hb.elim (fun hb => r3 b hb hg) (fun hb => g3 b hb (r2 b hg)), r4, fun h' G' y e1 e2 e3 => ?_⟩
  refine ⟨_, _, rfl, G1, fun b => R b ∨ G' b, fun b hb => .inl (.inr hb), fun b hb => hb.elim (fun hb => .inl (.inl hb)) .inr, fun b hb hg => hg.elim (fun hg => g3 b hb (r1 b hg)) (fun hg => e2 b hg (.inr hb)), ?_, r5 h' G' y (fun b hb => e1 b (.inl hb)) (fun b hb hr => e2 b hb (.inl hr)) e3⟩
  exact GT.own_loc h1 fun b hb => e1 b (.inr hb)

/-- A part of a list's element. -/
theorem foc_elem {b off len cap i : Nat} {xs : List α} {x : α} {ecs v : List Value} {inner : β} {put : β → α} (hx : xs[i]? = some x) (hc : CellsAt h b (off + i * GT.sz α) ecs) (hl : ecs.length = GT.sz α) (hf : FocH h ecs x v inner put) :
    FocH h [.slice (some ⟨b, off, none⟩) len cap] xs v inner (fun y => xs.set i (put y)) := by
  intro F ho
  obtain ⟨hi, hxi⟩ := List.getElem?_eq_some_iff.1 hx
  rcases own_list.1 ho with ⟨hv, _⟩ | ⟨b', off', len', cap', C, T, hv, hF, hb, hlen, hcap, hm, hs, fps, h1, h2, h3⟩
  · cases hv
  simp only [Value.slice.injEq, Option.some.injEq, Addr.mk.injEq] at hv
  obtain ⟨⟨rfl, rfl, _⟩, rfl, rfl⟩ := hv
  have hseg : seg C (off + i * GT.sz α) (GT.sz α) = ecs := by
    obtain ⟨C', T', fz', e1, e2⟩ := hc
    rw [hb] at e1
    simp only [Option.some.injEq, Obj.cells.injEq] at e1
    obtain ⟨rfl, _, _⟩ := e1
    apply List.ext_getElem?
    intro j
    by_cases hj : j < GT.sz α
    · have hje : ecs[j]? = some (ecs[j]'(by omega)) := List.getElem?_eq_getElem (by omega)
      rw [hje]
      have := e2 j _ hje
      simp [seg, List.getElem?_take_of_lt hj, this]
    · rw [List.getElem?_eq_none (l := ecs) (by omega)]
      refine List.getElem?_eq_none ?_
      simp [seg]
      omega
  have ho1 := h3 i x hx
  rw [hseg] at ho1
  obtain ⟨R, G, r1, r2, r3, r4, r5⟩ := hf _ ho1
  refine ⟨fun c => F c ∧ ¬ G c, G, fun c hc => hc.1, fun c hc => (h1 i c (r2 c hc)).1, fun c hc => hc.2, r4, fun h' G' y e1 e2 e3 => ?_⟩
  have hbG : ¬ G b := fun hg => (h1 i b (r2 b hg)).2 rfl
  have hb' : h' b = h b := e1 b ⟨hF, hbG⟩
  refine own_list.2 (.inr ⟨b, off, len, cap, C, T, rfl, .inl ⟨hF, hbG⟩, by rw [hb', hb], by simpa using hlen, hcap, hm, hs, fun j c => if j = i then R c ∨ G' c else fps j c, ?_, ?_, ?_⟩)
  · intro j c hj
    try dsimp only at hj
    split at hj
    · rcases hj with hj | hj
      · exact ⟨.inl ⟨(h1 i c (r1 c hj)).1, r3 c hj⟩, (h1 i c (r1 c hj)).2⟩
      · exact ⟨.inr hj, fun e => by subst e; exact e2 c hj ⟨hF, hbG⟩⟩
    · rename_i hji
      exact ⟨.inl ⟨(h1 j c hj).1, fun hg => h2 j i c hji hj (r2 c hg)⟩, (h1 j c hj).2⟩
  · intro j k c hjk hj hk
    try dsimp only at hj hk
    have cross : ∀ m, m ≠ i → fps m c → R c ∨ G' c → False := fun m hm hmc hc => by
      rcases hc with hc | hc
      · exact h2 m i c hm hmc (r1 c hc)
      · exact e2 c hc ⟨(h1 m c hmc).1, fun hg => h2 m i c hm hmc (r2 c hg)⟩
    split at hj <;> split at hk
    · rename_i a1 a2; exact hjk (by rw [a1, a2])
    · rename_i a1 a2; exact cross k a2 hk hj
    · rename_i a1 a2; exact cross j a1 hj hk
    · exact h2 j k c hjk hj hk
  · intro j z hz
    dsimp only
    by_cases hji : j = i
    · subst hji
      rw [List.getElem?_set_self hi] at hz
      simp only [Option.some.injEq] at hz
      subst hz
      have hfun : (fun c => if j = j then R c ∨ G' c else fps j c) = fun c => R c ∨ G' c := by funext c; simp
      rw [hfun, hseg]
      exact r5 h' G' y (fun c hc => e1 c ⟨(h1 j c (r1 c hc)).1, r3 c hc⟩) (fun c hg hr => e2 c hg ⟨(h1 j c (r1 c hr)).1, r3 c hr⟩) e3
    · rw [List.getElem?_set_ne (Ne.symm hji)] at hz
      have hfun : (fun c => if j = i then R c ∨ G' c else fps j c) = fps j := by funext c; simp [hji]
      rw [hfun]
      exact GT.own_loc (h3 j z hz) fun c hc => e1 c ⟨(h1 j c hc).1, fun hg => h2 j i c hji hc (r2 c hg)⟩

/-- A list with a part of an element taken out. -/
def hole (cs : List Value) (v : List Value) (put : β → α) : Ch where
  pr R h := ∀ (h' : Heap) (G' : Nat → Prop) (y : β), (∀ b, R b → h' b = h b) → (∀ b, G' b → ¬ R b) → GT.own G' h' v y → GT.own (fun b => R b ∨ G' b) h' cs (put y)
  loc R h h2 hp hh := fun h' G' y e1 e2 e3 => hp h' G' y (fun b hb => (e1 b hb).trans (hh b hb)) e2 e3
  mono R R' h hp hR := fun h' G' y e1 e2 e3 => GT.own_mono (fun b hb => hb.elim (fun hb => .inl (hR b hb)) .inr) (hp h' G' y (fun b hb => e1 b (hR b hb)) (fun b hb hr => e2 b hb (hR b hr)) e3)

variable {w0 w : World} {hz : Heap} {L : List Ch}

/-- A part is taken out: it comes first, the rest stays a hole. -/
theorem Mem.open {cs v : List Value} {x : α} {inner : β} {put : β → α} (hm : Mem w0 hz w L) (k : Nat) (hk : L[k]? = some (ow cs x)) (hf : FocH (hp w) cs x v inner put) :
    Mem w0 hz w (ow v inner :: L.set k (hole cs v put)) := by
  obtain ⟨hs, hlez, Fs, f1, f2, f3⟩ := hm
  obtain ⟨R, G, r1, r2, r3, r4, r5⟩ := hf _ (f1 k _ hk)
  refine ⟨hs, hlez, fun i b => match i with | 0 => G b | i + 1 => if i = k then R b else Fs i b, ?_, ?_, ?_⟩
  · intro i c hi
    cases i with
    | zero => simp at hi; subst hi; exact r4
    | succ i =>
      simp only [List.getElem?_cons_succ] at hi
      by_cases e : i = k
      · subst e
        have hl : i < L.length := (List.getElem?_eq_some_iff.1 hk).1
        rw [List.getElem?_set_self hl] at hi
        simp only [Option.some.injEq] at hi
        subst hi
        simp only [if_true]
        exact r5
      · rw [List.getElem?_set_ne (Ne.symm e)] at hi
        simp only [e, if_false]
        exact f1 i c hi
  · intro i j b hij hi hj
    cases i with
    | zero =>
      cases j with
      | zero => exact hij rfl
      | succ j =>
        simp only at hi hj
        split at hj
        · exact r3 b hj hi
        · rename_i e; exact f2 k j b (Ne.symm e) (r2 b hi) hj
    | succ i =>
      cases j with
      | zero =>
        simp only at hi hj
        split at hi
        · exact r3 b hi hj
        · rename_i e; exact f2 k i b (Ne.symm e) (r2 b hj) hi
      | succ j =>
        simp only at hi hj
        split at hi <;> split at hj
        · rename_i e1 e2; exact hij (by rw [e1, e2])
        · rename_i e1 e2; exact f2 k j b (Ne.symm e2) (r1 b hi) hj
        · rename_i e1 e2; exact f2 k i b (Ne.symm e1) (r1 b hj) hi
        · exact f2 i j b (by omega) hi hj
  · intro i b hi
    cases i with
    | zero => exact f3 k b (r2 b hi)
    | succ i =>
      simp only at hi
      split at hi
      · exact f3 k b (r1 b hi)
      · exact f3 i b hi

/-- The part, whatever it has become, goes back. -/
theorem Mem.shut {cs v : List Value} {y : β} {put : β → α} (hm : Mem w0 hz w L) (k j : Nat) (hkj : k ≠ j) (hk : L[k]? = some (hole cs v put)) (hj : L[j]? = some (ow v y)) :
    Mem w0 hz w ((L.set k (ow cs (put y))).set j ⟨fun _ _ => True, fun _ _ _ _ _ => trivial, fun _ _ _ _ _ => trivial⟩) :=
  hm.merge k j hkj hk hj fun F G h1 h2 h3 => h1 _ G y (fun _ _ => rfl) (fun b hg hf => h3 b hf hg) h2

/-- An element's own cells are turned; what it leads to stays. -/
theorem sliceOwn.alter {h' : Heap} {F : Nat → Prop} {b off len cap i : Nat} {xs : List α} {C C' : Array Value} {T : TypeId} {x' : α} (ho : sliceOwn F h (.slice (some ⟨b, off, none⟩) len cap) xs) (hi : i < xs.length)
    (hC : h b = some (.cells C T (0, 0))) (hC' : h' b = some (.cells C' T (0, 0))) (hsz : C'.size = C.size) (hout : ∀ j, (j < off + i * GT.sz α ∨ off + i * GT.sz α + GT.sz α ≤ j) → C'[j]? = C[j]?)
    (hh : ∀ c, F c → c ≠ b → h' c = h c) (hx : ∀ G : Nat → Prop, (∀ c, G c → F c ∧ c ≠ b) → GT.own G h (seg C (off + i * GT.sz α) (GT.sz α)) xs[i] → GT.own G h' (seg C' (off + i * GT.sz α) (GT.sz α)) x') :
    sliceOwn F h' (.slice (some ⟨b, off, none⟩) len cap) (xs.set i x') := by
  rcases ho with ⟨hv, _⟩ | ⟨b', off', len', cap', C0, T0, hv, hF, hb, hl, hc, hm, hs, fps, h1, h2, h3⟩
  · cases hv
  simp only [Value.slice.injEq, Option.some.injEq, Addr.mk.injEq] at hv
  obtain ⟨⟨rfl, rfl, _⟩, rfl, rfl⟩ := hv
  rw [hC] at hb
  simp only [Option.some.injEq, Obj.cells.injEq] at hb
  obtain ⟨rfl, rfl, _⟩ := hb
  refine .inr ⟨b, off, len, cap, C', T, rfl, hF, hC', by simpa using hl, hc, hm, by rw [hsz]; exact hs, fps, h1, h2, fun j z hz => ?_⟩
  by_cases hji : j = i
  · subst hji
    rw [List.getElem?_set_self hi] at hz
    simp only [Option.some.injEq] at hz
    subst hz
    exact hx _ (h1 j) (h3 j _ (List.getElem?_eq_getElem hi))
  · rw [List.getElem?_set_ne (Ne.symm hji)] at hz
    have hjl : j < xs.length := (List.getElem?_eq_some_iff.1 hz).1
    have he : seg C' (off + j * GT.sz α) (GT.sz α) = seg C (off + j * GT.sz α) (GT.sz α) := by
      apply List.ext_getElem?
      intro q
      by_cases hq : q < GT.sz α
      · rw [seg_get hq, seg_get hq]
        refine hout _ ?_
        rcases Nat.lt_or_ge j i with hlt | hge
        · left
          have : (j + 1) * GT.sz α ≤ i * GT.sz α := Nat.mul_le_mul_right _ hlt
          rw [Nat.add_mul] at this
          omega
        · right
          have : (i + 1) * GT.sz α ≤ j * GT.sz α := Nat.mul_le_mul_right _ (by omega)
          rw [Nat.add_mul] at this
          omega
      · rw [List.getElem?_eq_none (by simp [seg]; omega), List.getElem?_eq_none (by simp [seg]; omega)]
    rw [he]
    exact GT.own_loc (h3 j z hz) fun c hc => hh c (h1 j c hc).1 (h1 j c hc).2

def both (c d : Ch) : Ch where
  pr F h := ∃ F1 G1 : Nat → Prop, (∀ b, F1 b → F b) ∧ (∀ b, G1 b → F b) ∧ (∀ b, F1 b → ¬ G1 b) ∧ c.pr F1 h ∧ d.pr G1 h
  loc F h h' := fun ⟨F1, G1, a, b, e, p, q⟩ hh => ⟨F1, G1, a, b, e, c.loc _ _ _ p (fun x hx => hh x (a x hx)), d.loc _ _ _ q (fun x hx => hh x (b x hx))⟩
  mono F F' h := fun ⟨F1, G1, a, b, e, p, q⟩ hF => ⟨F1, G1, fun x hx => hF x (a x hx), fun x hx => hF x (b x hx), e, p, q⟩

/-- Two chunks are one. -/
theorem Mem.both {c d : Ch} (hm : Mem w0 hz w L) (k j : Nat) (hkj : k ≠ j) (hk : L[k]? = some c) (hj : L[j]? = some d) :
    Mem w0 hz w ((L.set k (both c d)).set j ⟨fun _ _ => True, fun _ _ _ _ _ => trivial, fun _ _ _ _ _ => trivial⟩) :=
  hm.merge k j hkj hk hj fun F G h1 h2 h3 => ⟨F, G, fun _ h => .inl h, fun _ h => .inr h, h3, h1, h2⟩

section
variable {P : Program} {a : Act} {o : Oper} {n : Nat} {l : Env} {v : Value} {x y : Operand} {xs : List α}

theorem seg_length {C : Array Value} {o m : Nat} (h : o + m ≤ C.size) : (seg C o m).length = m := by
  simp [seg]; omega

theorem cells_seg {b o : Nat} {ecs : List Value} {C : Array Value} {T : TypeId} {fz : Nat × Nat} (hc : CellsAt h b o ecs) (hb : h b = some (.cells C T fz)) (hl : o + ecs.length ≤ C.size) : seg C o ecs.length = ecs := by
  obtain ⟨C', T', fz', e1, e2⟩ := hc
  rw [hb] at e1
  simp only [Option.some.injEq, Obj.cells.injEq] at e1
  obtain ⟨rfl, _, _⟩ := e1
  apply List.ext_getElem?
  intro j
  by_cases hj : j < ecs.length
  · have hje : ecs[j]? = some (ecs[j]'hj) := List.getElem?_eq_getElem hj
    rw [seg_get hj, hje, e2 j _ hje]
  · rw [List.getElem?_eq_none (l := ecs) (by omega), List.getElem?_eq_none (by simp [seg]; omega)]

theorem seg_splice {C : Array Value} {o j m : Nat} {vs : List Value} (hl : o + m ≤ C.size) (hj : j + vs.length ≤ m) :
    seg (splice C.toList (o + j) vs).toArray o m = splice (seg C o m) j vs := by
  have hle : o + j + vs.length ≤ C.toList.length := by simp; omega
  have hsl : (seg C o m).length = m := seg_length hl
  apply List.ext_getElem?
  intro q
  by_cases hq : q < m
  · rw [seg_get hq, List.getElem?_toArray, splice_get hle, splice_get (by omega), seg_get hq]
    by_cases hc : j ≤ q ∧ q < j + vs.length
    · rw [if_pos (by omega), if_pos hc]; congr 1; omega
    · rw [if_neg (by omega), if_neg hc]; simp
  · rw [List.getElem?_eq_none (by simp [seg]; omega), List.getElem?_eq_none (by rw [splice_length (by omega)]; omega)]

/-- A store into a part of an element that leads to other memory: what it leads to stays. -/
theorem e_setElemR {b off len cap i j : Nat} {x0 x1 : α} {vs ecs : List Value} {ty : TypeId} (k : Nat) (hf : Fr n l a) (hm : Mem w0 hz w L) (hk : L[k]? = some (ow [.slice (some ⟨b, off, none⟩) len cap] xs)) (hx0 : xs[i]? = some x0)
    (hc : CellsAt (hp w) b (off + i * GT.sz α) ecs) (hel : ecs.length = GT.sz α) (hch : ∀ G h, GT.own G h ecs x0 → GT.own G h (splice ecs j vs) x1)
    (ho : o.op = .store ty x y) (hs : ∀ w, (sizeOf ty).run P w = .ok vs.length w) (hx : ev l x = some (.pointer (some ⟨b, off + i * GT.sz α + j, none⟩))) (hy : ev l y = some v) (hv : v.cells = vs.toArray) (h1 : ∀ u ∈ vs, u.oneCell' = true)
    (hj : Nat.ble (j + vs.length) (GT.sz α) = true) :
    Ef P a w o (fun _ w' => Mem w0 hz w' (L.set k (ow [.slice (some ⟨b, off, none⟩) len cap] (xs.set i x1)))) := by
  have hj' := Nat.le_of_ble_eq_true hj
  obtain ⟨hi, hxi⟩ := List.getElem?_eq_some_iff.1 hx0
  obtain ⟨F, hF, hFw⟩ := hm.get k hk
  obtain ⟨C, T', G, q1, q2, q3, q4, q5, q6⟩ := (own_list.1 hF).at hi
  have hst := run_storeCells_at P b (off + i * GT.sz α + j) T' vs 0 C w q1 (by simp; omega) h1
  refine ef_skip (w' := w.setRow b (splice C.toList (off + i * GT.sz α + j) vs).toArray) ?_ ?_
  · simp [execOp, ho, hf.eval hx, hf.eval hy, Instr.storeAt, Instr.sureAddr, storeVar, hv, hs, hst, splice]
  · refine hm.upd k hk ⟨rfl, rfl, rfl, by simp⟩ fun F hF hFw => ?_
    have ho' := own_list.1 hF
    obtain ⟨C2, T2, G2, p1, p2, p3, p4, p5, p6⟩ := ho'.at hi
    rw [q1] at p1
    simp only [Option.some.injEq, Obj.cells.injEq] at p1
    obtain ⟨rfl, rfl, _⟩ := p1
    have hle : off + i * GT.sz α + j + vs.length ≤ C.toList.length := by simp; omega
    have hb' := setRow_heap w b C (splice C.toList (off + i * GT.sz α + j) vs).toArray T' (0, 0) q1
    have hseg : seg C (off + i * GT.sz α) (GT.sz α) = ecs := by
      have := cells_seg hc q1 (by omega)
      rwa [hel] at this
    refine ⟨F, fun _ h => .inl h, fun c hc => by simpa using hFw c hc, ?_, fun c _ hne => setRow_other w b c _ (fun e => hne (by subst e; exact p2))⟩
    refine own_list.2 (sliceOwn.alter (h' := hp (w.setRow b (splice C.toList (off + i * GT.sz α + j) vs).toArray)) ho' hi q1 hb' (by simp [splice_length hle]) (fun q hq => ?_) (fun c _ hne => setRow_other w b c _ hne) (fun G hG hown => ?_))
    · simp only [List.getElem?_toArray, splice_get hle]
      rw [if_neg (by omega)]
      simp
    · rw [seg_splice (by omega) hj', hseg]
      rw [hseg, hxi] at hown
      exact GT.own_loc (hch G _ hown) fun c hc => setRow_other w b c _ (hG c hc).2

/-- A whole element is stored; what it leads to, the call's own, goes over to the list. -/
theorem e_putElem {b off len cap i : Nat} {x0 x1 : α} {vs : List Value} {ty : TypeId} (k : Nat) (hf : Fr n l a) (hm : Mem w0 hz w L) (hk : L[k]? = some (both (ow [.slice (some ⟨b, off, none⟩) len cap] xs) (ow vs x1))) (hx0 : xs[i]? = some x0)
    (ho : o.op = .store ty x y) (hs : ∀ w, (sizeOf ty).run P w = .ok vs.length w) (hx : ev l x = some (.pointer (some ⟨b, off + i * GT.sz α, none⟩))) (hy : ev l y = some v) (hv : v.cells = vs.toArray) (hl : vs.length = GT.sz α) :
    Ef P a w o (fun _ w' => Mem w0 hz w' (L.set k (ow [.slice (some ⟨b, off, none⟩) len cap] (xs.set i x1)))) := by
  obtain ⟨hi, hxi⟩ := List.getElem?_eq_some_iff.1 hx0
  obtain ⟨F0, ⟨F, H, f1, f2, f3, hF, hH⟩, hFw⟩ := hm.get k hk
  have h1 : ∀ u ∈ vs, u.oneCell' = true := GT.one (GT.own_rep hH)
  obtain ⟨C, T', G, q1, q2, q3, q4, q5, q6⟩ := (own_list.1 hF).at hi
  have hst := run_storeCells_at P b (off + i * GT.sz α) T' vs 0 C w q1 (by simp; omega) h1
  refine ef_skip (w' := w.setRow b (splice C.toList (off + i * GT.sz α) vs).toArray) ?_ ?_
  · simp [execOp, ho, hf.eval hx, hf.eval hy, Instr.storeAt, Instr.sureAddr, storeVar, hv, hs, hst, splice]
  · refine hm.upd k hk ⟨rfl, rfl, rfl, by simp⟩ fun F0 ⟨F, H, f1, f2, f3, hF, hH⟩ hFw => ?_
    have ho' := own_list.1 hF
    obtain ⟨C2, T2, G2, p1, p2, p3, p4, p5, p6⟩ := ho'.at hi
    rw [q1] at p1
    simp only [Option.some.injEq, Obj.cells.injEq] at p1
    obtain ⟨rfl, rfl, _⟩ := p1
    have hle : off + i * GT.sz α + vs.length ≤ C.toList.length := by simp; omega
    have hb' := setRow_heap w b C (splice C.toList (off + i * GT.sz α) vs).toArray T' (0, 0) q1
    have hne : ∀ c, H c → c ≠ b := fun c hc e => f3 c (by subst e; exact p2) hc
    refine ⟨F0, fun _ h => .inl h, fun c hc => by simpa using hFw c hc, ?_, fun c _ hne => setRow_other w b c _ (fun e => hne (by subst e; exact f1 c p2))⟩
    have hsp := seg_splice (C := C) (o := off + i * GT.sz α) (j := 0) (m := GT.sz α) (vs := vs) (by omega) (by omega)
    rw [Nat.add_zero] at hsp
    have hsv : splice (seg C (off + i * GT.sz α) (GT.sz α)) 0 vs = vs := by
      have hsl : (seg C (off + i * GT.sz α) (GT.sz α)).length = GT.sz α := seg_length (by omega)
      apply List.ext_getElem?
      intro q
      rw [splice_get (by omega)]
      by_cases hq : q < vs.length
      · rw [if_pos (by omega)]; simp
      · rw [if_neg (by omega), List.getElem?_eq_none (by omega), List.getElem?_eq_none (by omega)]
    refine GT.own_mono (F := fun c => F c ∨ H c) (fun c hc => hc.elim (f1 c) (f2 c)) (own_list.2 (sliceOwn.put (h' := hp (w.setRow b (splice C.toList (off + i * GT.sz α) vs).toArray)) ho' hi q1 hb' (by simp [splice_length hle]) (fun q hq => ?_) (fun c _ hne => setRow_other w b c _ hne) (fun c hc hf => f3 c hf hc) ?_))
    · simp only [List.getElem?_toArray, splice_get hle]
      rw [if_neg (by omega)]
      simp
    · rw [hsp, hsv]
      exact GT.own_loc hH fun c hc => setRow_other w b c _ (hne c hc)
end
end
end Go.Wk
