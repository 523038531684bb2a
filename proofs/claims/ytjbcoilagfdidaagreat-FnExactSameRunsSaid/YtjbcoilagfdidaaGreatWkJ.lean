/- A part of a proof: general laws of walks, no statement of the seat. -/
/- Lists of data with references: a part of an element is lent and given back. -/
import Derived.Test.YtjbcoilagfdidaaGreatWkI
namespace Go.Wk
open Go Go.RowKit

section
variable {α β γ : Type} [GT α] [GT β] [GT γ] {h : Heap}

/-- Data x, in the cells cs, has a part 'inner' in the cells v: it can be taken out and another put in its place. -/
def FocH (h : Heap) (cs : List Value) (x : α) (v : List Value) (inner : β) (put : β → α) : Prop :=
  ∀ (F : Nat → Prop), GT.own F h cs x → ∃ R G : Nat → Prop, (∀ b, R b → F b) ∧ (∀ b, G b → F b) ∧ (∀ b, R b → ¬ G b) ∧ GT.own G h v inner ∧
    ∀ (h' : Heap) (G' : Nat → Prop) (y : β), (∀ b, R b → h' b = h b) → (∀ b, G' b → ¬ R b) → GT.own G' h' v y → GT.own (fun b => R b ∨ G' b) h' cs (put y)

/-- A list with a part of an element taken out. -/
def hole (cs : List Value) (v : List Value) (put : β → α) : Ch where
  pr R h := ∀ (h' : Heap) (G' : Nat → Prop) (y : β), (∀ b, R b → h' b = h b) → (∀ b, G' b → ¬ R b) → GT.own G' h' v y → GT.own (fun b => R b ∨ G' b) h' cs (put y)
  loc R h h2 hp hh := fun h' G' y e1 e2 e3 => hp h' G' y (fun b hb => (e1 b hb).trans (hh b hb)) e2 e3
  mono R R' h hp hR := fun h' G' y e1 e2 e3 => GT.own_mono (fun b hb => hb.elim (fun hb => .inl (hR b hb)) .inr) (hp h' G' y (fun b hb => e1 b (hR b hb)) (fun b hb hr => e2 b hb (hR b hr)) e3)

variable {w0 w : World} {hz : Heap} {L : List Ch}

/-- A part is taken out: it comes first, the rest stays a hole. -/
theorem Mem.open {cs v : List Value} {x : α} {inner : β} {put : β → α} (hm : Mem w0 hz w L) (k : Nat) (hk : L[k]? = some (ow cs x)) (hf : FocH (hp w) cs x v inner put) :
    Mem w0 hz w (ow v inner :: L.set k (hole cs v put)) := by
  obtain ⟨hs, hlez, Fs, f1, f2, f3⟩ := hm
  obtain ⟨R, G, r1, r2, r3, r4, r5⟩ := hf _ (f1 k _ hk)
  refine ⟨hs, hlez, fun i b => match i with | 0 => G b | i + 1 => if i = k then R b else Fs i b, ?_, ?_, ?_⟩
  · intro i c hi
    cases i with
    | zero => simp at hi; subst hi; exact r4
    | succ i =>
      simp only [List.getElem?_cons_succ] at hi
      by_cases e : i = k
      · subst e
        have hl : i < L.length := (List.getElem?_eq_some_iff.1 hk).1
        rw [List.getElem?_set_self hl] at hi
        simp only [Option.some.injEq] at hi
        subst hi
        simp only [if_true]
        exact r5
      · rw [List.getElem?_set_ne (Ne.symm e)] at hi
        simp only [e, if_false]
        exact f1 i c hi
  · intro i j b hij hi hj
    cases i with
    | zero =>
      cases j with
      | zero => exact hij rfl
      | succ j =>
        simp only at hi hj
        split at hj
        · exact r3 b hj hi
        · rename_i e; exact f2 k j b (Ne.symm e) (r2 b hi) hj
    | succ i =>
      cases j with
      | zero =>
        simp only at hi hj
        split at hi
        · exact r3 b hi hj
        · rename_i e; exact f2 k i b (Ne.symm e) (r2 b hj) hi
      | succ j =>
        simp only at hi hj
        split at hi <;> split at hj
        · rename_i e1 e2; exact hij (by rw [e1, e2])
        · rename_i e1 e2; exact f2 k j b (Ne.symm e2) (r1 b hi) hj
        · rename_i e1 e2; exact f2 k i b (Ne.symm e1) (r1 b hj) hi
        · exact f2 i j b (by omega) hi hj
  · intro i b hi
    cases i with
    | zero => exact f3 k b (r2 b hi)
    | succ i =>
      simp only at hi
      split at hi
      · exact f3 k b (r1 b hi)
      · exact f3 i b hi

def both (c d : Ch) : Ch where
  pr F h := ∃ F1 G1 : Nat → Prop, (∀ b, F1 b → F b) ∧ (∀ b, G1 b → F b) ∧ (∀ b, F1 b → ¬ G1 b) ∧ c.pr F1 h ∧ d.pr G1 h
  loc F h h' := fun ⟨F1, G1, a, b, e, p, q⟩ hh => ⟨F1, G1, a, b, e, c.loc _ _ _ p (fun x hx => hh x (a x hx)), d.loc _ _ _ q (fun x hx => hh x (b x hx))⟩
  mono F F' h := fun ⟨F1, G1, a, b, e, p, q⟩ hF => ⟨F1, G1, fun x hx => hF x (a x hx), fun x hx => hF x (b x hx), e, p, q⟩

/-- Two chunks are one. -/
theorem Mem.both {c d : Ch} (hm : Mem w0 hz w L) (k j : Nat) (hkj : k ≠ j) (hk : L[k]? = some c) (hj : L[j]? = some d) :
    Mem w0 hz w ((L.set k (both c d)).set j ⟨fun _ _ => True, fun _ _ _ _ _ => trivial, fun _ _ _ _ _ => trivial⟩) :=
  hm.merge k j hkj hk hj fun F G h1 h2 h3 => ⟨F, G, fun _ h => .inl h, fun _ h => .inr h, h3, h1, h2⟩

section
variable {P : Program} {a : Act} {o : Oper} {n : Nat} {l : Env} {v : Value} {x y : Operand} {xs : List α}

theorem seg_length {C : Array Value} {o m : Nat} (h : o + m ≤ C.size) : (seg C o m).length = m := by
  simp [seg]; omega

theorem seg_splice {C : Array Value} {o j m : Nat} {vs : List Value} (hl : o + m ≤ C.size) (hj : j + vs.length ≤ m) :
    seg (splice C.toList (o + j) vs).toArray o m = splice (seg C o m) j vs := by
  have hle : o + j + vs.length ≤ C.toList.length := by simp; omega
  have hsl : (seg C o m).length = m := seg_length hl
  apply List.ext_getElem?
  intro q
  by_cases hq : q < m
  · rw [seg_get hq, List.getElem?_toArray, splice_get hle, splice_get (by omega), seg_get hq]
    by_cases hc : j ≤ q ∧ q < j + vs.length
    · rw [if_pos (by omega), if_pos hc]; congr 1; omega
    · rw [if_neg (by omega), if_neg hc]; simp
  · rw [List.getElem?_eq_none (by simp [seg]; omega), List.getElem?_eq_none (by rw [splice_length (by omega)]; omega)]

/-- A whole element is stored; what it leads to, the call's own, goes over to the list. -/
theorem e_putElem {b off len cap i : Nat} {x0 x1 : α} {vs : List Value} {ty : TypeId} (k : Nat) (hf : Fr n l a) (hm : Mem w0 hz w L) (hk : L[k]? = some (both (ow [.slice (some ⟨b, off, none⟩) len cap] xs) (ow vs x1))) (hx0 : xs[i]? = some x0)
    (ho : o.op = .store ty x y) (hs : ∀ w, (sizeOf ty).run P w = .ok vs.length w) (hx : ev l x = some (.pointer (some ⟨b, off + i * GT.sz α, none⟩))) (hy : ev l y = some v) (hv : v.cells = vs.toArray) (hl : vs.length = GT.sz α) :
    Ef P a w o (fun _ w' => Mem w0 hz w' (L.set k (ow [.slice (some ⟨b, off, none⟩) len cap] (xs.set i x1)))) := by
  obtain ⟨hi, hxi⟩ := List.getElem?_eq_some_iff.1 hx0
  obtain ⟨F0, ⟨F, H, f1, f2, f3, hF, hH⟩, hFw⟩ := hm.get k hk
  have h1 : ∀ u ∈ vs, u.oneCell' = true := GT.one (GT.own_rep hH)
  obtain ⟨C, T', G, q1, q2, q3, q4, q5, q6⟩ := (own_list.1 hF).at hi
  have hst := run_storeCells_at P b (off + i * GT.sz α) T' vs 0 C w q1 (by simp; omega) h1
  refine ef_skip (w' := w.setRow b (splice C.toList (off + i * GT.sz α) vs).toArray) ?_ ?_
  · simp [execOp, ho, hf.eval hx, hf.eval hy, Instr.storeAt, Instr.sureAddr, storeVar, hv, hs, hst, splice]
  · refine hm.upd k hk ⟨rfl, rfl, rfl, by simp⟩ fun F0 ⟨F, H, f1, f2, f3, hF, hH⟩ hFw => ?_
    have ho' := own_list.1 hF
    obtain ⟨C2, T2, G2, p1, p2, p3, p4, p5, p6⟩ := ho'.at hi
    rw [q1] at p1
    simp only [Option.some.injEq, Obj.cells.injEq] at p1
    obtain ⟨rfl, rfl, _⟩ := p1
    have hle : off + i * GT.sz α + vs.length ≤ C.toList.length := by simp; omega
    have hb' := setRow_heap w b C (splice C.toList (off + i * GT.sz α) vs).toArray T' (0, 0) q1
    have hne : ∀ c, H c → c ≠ b := fun c hc e => f3 c (by subst e; exact p2) hc
    refine ⟨F0, fun _ h => .inl h, fun c hc => by simpa using hFw c hc, ?_, fun c _ hne => setRow_other w b c _ (fun e => hne (by subst e; exact f1 c p2))⟩
    have hsp := seg_splice (C := C) (o := off + i * GT.sz α) (j := 0) (m := GT.sz α) (vs := vs) (by omega) (by omega)
    rw [Nat.add_zero] at hsp
    have hsv : splice (seg C (off + i * GT.sz α) (GT.sz α)) 0 vs = vs := by
      have hsl : (seg C (off + i * GT.sz α) (GT.sz α)).length = GT.sz α := seg_length (by omega)
      apply List.ext_getElem?
      intro q
      rw [splice_get (by omega)]
      by_cases hq : q < vs.length
      · rw [if_pos (by omega)]; simp
      · rw [if_neg (by omega), List.getElem?_eq_none (by omega), List.getElem?_eq_none (by omega)]
    refine GT.own_mono (F := fun c => F c ∨ H c) (fun c hc => hc.elim (f1 c) (f2 c)) (own_list.2 (sliceOwn.put (h' := hp (w.setRow b (splice C.toList (off + i * GT.sz α) vs).toArray)) ho' hi q1 hb' (by simp [splice_length hle]) (fun q hq => ?_) (fun c _ hne => setRow_other w b c _ hne) (fun c hc hf => f3 c hf hc) ?_))
    · simp only [List.getElem?_toArray, splice_get hle]
      rw [if_neg (by omega)]
      simp
    · rw [hsp, hsv]
      exact GT.own_loc hH fun c hc => setRow_other w b c _ (hne c hc)
end
end
end Go.Wk
