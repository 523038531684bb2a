/- A part of a proof: general laws of walks, no statement of the seat. -/
/- An element of a list that stays open: its own cells can be read, a slice in it is the call's own. -/
import Derived.Test.YtmhjfaoefcdelaaDoorWkT
namespace Go.Wk
open Go Go.RowKit

section
variable {α β γ : Type} [GT α] [GT β] [GT γ] {h : Heap}

/-- As FocH; what stays behind holds the block b. -/
def FocHB (h : Heap) (cs : List Value) (x : α) (v : List Value) (inner : β) (put : β → α) (b : Nat) : Prop :=
  ∀ (F : Nat → Prop), GT.own F h cs x → ∃ R G : Nat → Prop, R b ∧ (∀ b, R b → F b) ∧ (∀ b, G b → F b) ∧ (∀ b, R b → ¬ G b) ∧ GT.own G h v inner ∧
    ∀ (h' : Heap) (G' : Nat → Prop) (y : β), (∀ b, R b → h' b = h b) → (∀ b, G' b → ¬ R b) → GT.own G' h' v y → GT.own (fun b => R b ∨ G' b) h' cs (put y)

/-- A part of a list's element. -/
theorem foc_elemB {b off len cap i : Nat} {xs : List α} {x : α} {ecs v : List Value} {inner : β} {put : β → α} (hx : xs[i]? = some x) (hc : CellsAt h b (off + i * GT.sz α) ecs) (hl : ecs.length = GT.sz α) (hf : FocH h ecs x v inner put) :
    FocHB h [.slice (some ⟨b, off, none⟩) len cap] xs v inner (fun y => xs.set i (put y)) b := by
  intro F ho
  obtain ⟨hi, hxi⟩ := List.getElem?_eq_some_iff.1 hx
  rcases own_list.1 ho with ⟨hv, _⟩ | ⟨b', off', len', cap', C, T, hv, hF, hb, hlen, hcap, hm, hs, fps, h1, h2, h3⟩
  · cases hv
  simp only [Value.slice.injEq, Option.some.injEq, Addr.mk.injEq] at hv
  obtain ⟨⟨rfl, rfl, _⟩, rfl, rfl⟩ := hv
  have hseg : seg C (off + i * GT.sz α) (GT.sz α) = ecs := by
    obtain ⟨C', T', fz', e1, e2⟩ := hc
    rw [hb] at e1
    simp only [Option.some.injEq, Obj.cells.injEq] at e1
    obtain ⟨rfl, _, _⟩ := e1
    apply List.ext_getElem?
    intro j
    by_cases hj : j < GT.sz α
    · have hje : ecs[j]? = some (ecs[j]'(by omega)) := List.getElem?_eq_getElem (by omega)
      rw [hje]
      have := e2 j _ hje
      simp [seg, List.getElem?_take_of_lt hj, this]
    · rw [List.getElem?_eq_none (l := ecs) (by omega)]
      refine List.getElem?_eq_none ?_
      simp [seg]
      omega
  have ho1 := h3 i x hx
  rw [hseg] at ho1
  obtain ⟨R, G, r1, r2, r3, r4, r5⟩ := hf _ ho1
  have hbG : ¬ G b := fun hg => (h1 i b (r2 b hg)).2 rfl
  refine ⟨fun c => F c ∧ ¬ G c, G, ⟨hF, hbG⟩, fun c hc => hc.1, fun c hc => (h1 i c (r2 c hc)).1, fun c hc => hc.2, r4, fun h' G' y e1 e2 e3 => ?_⟩
  have hb' : h' b = h b := e1 b ⟨hF, hbG⟩
  refine own_list.2 (.inr ⟨b, off, len, cap, C, T, rfl, .inl ⟨hF, hbG⟩, by rw [hb', hb], by simpa using hlen, hcap, hm, hs, fun j c => if j = i then R c ∨ G' c else fps j c, ?_, ?_, ?_⟩)
  · intro j c hj
    try dsimp only at hj
    split at hj
    · rcases hj with hj | hj
      · exact ⟨.inl ⟨(h1 i c (r1 c hj)).1, r3 c hj⟩, (h1 i c (r1 c hj)).2⟩
      · exact ⟨.inr hj, fun e => by subst e; exact e2 c hj ⟨hF, hbG⟩⟩
    · rename_i hji
      exact ⟨.inl ⟨(h1 j c hj).1, fun hg => h2 j i c hji hj (r2 c hg)⟩, (h1 j c hj).2⟩
  · intro j k c hjk hj hk
    try dsimp only at hj hk
    have cross : ∀ m, m ≠ i → fps m c → R c ∨ G' c → False := fun m hm hmc hc => by
      rcases hc with hc | hc
      · exact h2 m i c hm hmc (r1 c hc)
      · exact e2 c hc ⟨(h1 m c hmc).1, fun hg => h2 m i c hm hmc (r2 c hg)⟩
    split at hj <;> split at hk
    · rename_i a1 a2; exact hjk (by rw [a1, a2])
    · rename_i a1 a2; exact cross k a2 hk hj
    · rename_i a1 a2; exact cross j a1 hj hk
    · exact h2 j k c hjk hj hk
  · intro j z hz
    dsimp only
    by_cases hji : j = i
    · subst hji
      rw [List.getElem?_set_self hi] at hz
      simp only [Option.some.injEq] at hz
      subst hz
      have hfun : (fun c => if j = j then R c ∨ G' c else fps j c) = fun c => R c ∨ G' c := by funext c; simp
      rw [hfun, hseg]
      exact r5 h' G' y (fun c hc => e1 c ⟨(h1 j c (r1 c hc)).1, r3 c hc⟩) (fun c hg hr => e2 c hg ⟨(h1 j c (r1 c hr)).1, r3 c hr⟩) e3
    · rw [List.getElem?_set_ne (Ne.symm hji)] at hz
      have hfun : (fun c => if j = i then R c ∨ G' c else fps j c) = fps j := by funext c; simp [hji]
      rw [hfun]
      exact GT.own_loc (h3 j z hz) fun c hc => e1 c ⟨(h1 j c hc).1, fun hg => h2 j i c hji hc (r2 c hg)⟩

/-- A list with a part of an element taken out; the element's own cells are known. -/
def holeC (b o : Nat) (ecs cs : List Value) (v : List Value) (put : β → α) : Ch where
  pr R h := (hole cs v put).pr R h ∧ R b ∧ CellsAt h b o ecs
  loc R h h2 hp hh := ⟨(hole cs v put).loc R h h2 hp.1 hh, hp.2.1, by
    obtain ⟨C, T, fz, e1, e2⟩ := hp.2.2
    exact ⟨C, T, fz, (hh b hp.2.1).trans e1, e2⟩⟩
  mono R R' h hp hR := ⟨(hole cs v put).mono R R' h hp.1 hR, hR b hp.2.1, hp.2.2⟩

variable {w0 w : World} {hz : Heap} {L : List Ch}

theorem Mem.openC {b o : Nat} {ecs cs v : List Value} {x : α} {inner : β} {put : β → α} (hm : Mem w0 hz w L) (k : Nat) (hk : L[k]? = some (ow cs x)) (hf : FocHB (hp w) cs x v inner put b) (hc : CellsAt (hp w) b o ecs) :
    Mem w0 hz w (ow v inner :: L.set k (holeC b o ecs cs v put)) := by
  obtain ⟨hs, hlez, Fs, f1, f2, f3⟩ := hm
  obtain ⟨R, G, r0, r1, r2, r3, r4, r5⟩ := hf _ (f1 k _ hk)
  refine ⟨hs, hlez, fun i b => match i with | 0 => G b | i + 1 => if i = k then R b else Fs i b, ?_, ?_, ?_⟩
  · intro i c hi
    cases i with
    | zero => simp at hi; subst hi; exact r4
    | succ i =>
      simp only [List.getElem?_cons_succ] at hi
      by_cases e : i = k
      · subst e
        have hl : i < L.length := (List.getElem?_eq_some_iff.1 hk).1
        rw [List.getElem?_set_self hl] at hi
        simp only [Option.some.injEq] at hi
        subst hi
        simp only [if_true]
        exact ⟨r5, r0, hc⟩
      · rw [List.getElem?_set_ne (Ne.symm e)] at hi
        simp only [e, if_false]
        exact f1 i c hi
  · intro i j b hij hi hj
    cases i with
    | zero =>
      cases j with
      | zero => exact hij rfl
      | succ j =>
        simp only at hi hj
        split at hj
        · exact r3 b hj hi
        · rename_i e; exact f2 k j b (Ne.symm e) (r2 b hi) hj
    | succ i =>
      cases j with
      | zero =>
        simp only at hi hj
        split at hi
        · exact r3 b hi hj
        · rename_i e; exact f2 k i b (Ne.symm e) (r2 b hj) hi
      | succ j =>
        simp only at hi hj
        split at hi <;> split at hj
        · rename_i e1 e2; exact hij (by rw [e1, e2])
        · rename_i e1 e2; exact f2 k j b (Ne.symm e2) (r1 b hi) hj
        · rename_i e1 e2; exact f2 k i b (Ne.symm e1) (r1 b hj) hi
        · exact f2 i j b (by omega) hi hj
  · intro i b hi
    cases i with
    | zero => exact f3 k b (r2 b hi)
    | succ i =>
      simp only at hi
      split at hi
      · exact f3 k b (r1 b hi)
      · exact f3 i b hi


theorem Mem.pin_at {b o : Nat} {ecs cs v : List Value} {put : β → α} (hm : Mem w0 hz w L) (k : Nat) (hk : L[k]? = some (holeC b o ecs cs v put)) : CellsAt (hp w) b o ecs :=
  let ⟨_, h1, _⟩ := hm.get k hk
  h1.2.2

/-- The part, whatever it has become, goes back. -/
theorem Mem.shutC {b o : Nat} {ecs cs v : List Value} {y : β} {put : β → α} (hm : Mem w0 hz w L) (k j : Nat) (hkj : k ≠ j) (hk : L[k]? = some (holeC b o ecs cs v put)) (hj : L[j]? = some (ow v y)) :
    Mem w0 hz w ((L.set k (ow cs (put y))).set j ⟨fun _ _ => True, fun _ _ _ _ _ => trivial, fun _ _ _ _ _ => trivial⟩) :=
  hm.merge k j hkj hk hj fun F G h1 h2 h3 => h1.1 _ G y (fun _ _ => rfl) (fun b hg hf => h3 b hf hg) h2

theorem CellsAt.inj {b o : Nat} {cs ds : List Value} (h1 : CellsAt h b o cs) (h2 : CellsAt h b o ds) (hl : cs.length = ds.length) : cs = ds := by
  obtain ⟨C, T, fz, e1, e2⟩ := h1
  obtain ⟨C', T', fz', e3, e4⟩ := h2
  rw [e1] at e3
  simp only [Option.some.injEq, Obj.cells.injEq] at e3
  obtain ⟨rfl, _, _⟩ := e3
  apply List.ext_getElem?
  intro j
  by_cases hj : j < cs.length
  · have a1 := e2 j _ (List.getElem?_eq_getElem hj)
    have a2 := e4 j _ (List.getElem?_eq_getElem (show j < ds.length by omega))
    rw [List.getElem?_eq_getElem hj, List.getElem?_eq_getElem (show j < ds.length by omega), ← a1, ← a2]
  · rw [List.getElem?_eq_none (by omega), List.getElem?_eq_none (by omega)]
theorem cells_one {v : Value} (h1 : v.oneCell' = true) : v.cells = [v].toArray := by cases v <;> first | rfl | cases h1
end
end Go.Wk
