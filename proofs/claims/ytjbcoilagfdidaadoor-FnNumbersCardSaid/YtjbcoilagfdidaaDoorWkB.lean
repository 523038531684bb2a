/- A part of a proof: general laws of walks, no statement of the seat. -/
/- Memory: what the call owns, chunk by chunk; what is frozen; how data lie in memory. -/
import Derived.Test.YtjbcoilagfdidaaDoorWkA
namespace Go.Wk
open Go Go.RowKit

abbrev Heap := Nat → Option Obj
def hp (w : World) : Heap := fun b => w.heap[b]?
def Heap.le (h h' : Heap) : Prop := ∀ b o, h b = some o → h' b = some o
theorem Heap.le_refl (h : Heap) : Heap.le h h := fun _ _ h => h
theorem Heap.le_trans {a b c : Heap} (h : Heap.le a b) (k : Heap.le b c) : Heap.le a c := fun x o hx => k x o (h x o hx)

/-- The cells cs lie in block b from o on. -/
def CellsAt (h : Heap) (b o : Nat) (cs : List Value) : Prop :=
  ∃ C T fz, h b = some (.cells C T fz) ∧ ∀ (j : Nat) (v : Value), cs[j]? = some v → C[o + j]? = some v

theorem CellsAt.mono {h h' : Heap} {b o : Nat} {cs : List Value} (hh : Heap.le h h') (hc : CellsAt h b o cs) : CellsAt h' b o cs :=
  let ⟨C, T, fz, h1, h2⟩ := hc
  ⟨C, T, fz, hh _ _ h1, h2⟩

theorem CellsAt.cell {w : World} {b o j : Nat} {cs : List Value} {v : Value} (hc : CellsAt (hp w) b o cs) (hj : cs[j]? = some v) : w.cell? ⟨b, o + j, none⟩ = some v := by
  obtain ⟨C, T, fz, h1, h2⟩ := hc
  unfold hp at h1
  simp [World.cell?, h1, h2 j v hj]

theorem CellsAt.sub {h : Heap} {b o : Nat} {cs ds : List Value} {k : Nat} (hc : CellsAt h b o cs) (hk : ∀ (j : Nat) (v : Value), ds[j]? = some v → cs[k + j]? = some v) : CellsAt h b (o + k) ds := by
  obtain ⟨C, T, fz, h1, h2⟩ := hc
  exact ⟨C, T, fz, h1, fun j v hj => by rw [Nat.add_assoc]; exact h2 _ _ (hk j v hj)⟩

def seg (C : Array Value) (o n : Nat) : List Value := (C.toList.drop o).take n

theorem seg_get {C : Array Value} {o n j : Nat} (hj : j < n) : (seg C o n)[j]? = C[o + j]? := by
  simp [seg, List.getElem?_take, hj, List.getElem?_drop]

theorem seg_len {C : Array Value} {o n : Nat} (h : o + n ≤ C.size) : (seg C o n).length = n := by
  simp [seg]; omega

theorem cellsAt_seg {h : Heap} {b o n : Nat} {C : Array Value} {T : TypeId} {fz : Nat × Nat} (hb : h b = some (.cells C T fz)) : CellsAt h b o (seg C o n) := by
  refine ⟨C, T, fz, hb, fun j v hj => ?_⟩
  have : j < n := by
    have := (List.getElem?_eq_some_iff.1 hj).1
    simp [seg] at this; omega
  rw [seg_get this] at hj; exact hj

/-- How a Go type's data lie in cells. -/
class GT (α : Type) where
  sz : Nat
  rep : Heap → List Value → α → Prop
  own : (Nat → Prop) → Heap → List Value → α → Prop
  len : ∀ {h cs x}, rep h cs x → cs.length = sz
  mono : ∀ {h h' cs x}, Heap.le h h' → rep h cs x → rep h' cs x
  own_rep : ∀ {F h cs x}, own F h cs x → rep h cs x
  own_loc : ∀ {F h h' cs x}, own F h cs x → (∀ b, F b → h' b = h b) → own F h' cs x
  own_mono : ∀ {F F' h cs x}, (∀ b, F b → F' b) → own F h cs x → own F' h cs x
  one : ∀ {h cs x}, rep h cs x → ∀ v ∈ cs, v.oneCell' = true

/-- Data without references: the cells say all. -/
class Flat (α : Type) extends GT α where
  enc : α → List Value
  rep_iff : ∀ {h cs x}, rep h cs x ↔ cs = enc x
  own_iff : ∀ {F h cs x}, own F h cs x ↔ cs = enc x

abbrev Flat.mk' (α : Type) (n : Nat) (enc : α → List Value) (hl : ∀ x, (enc x).length = n) (h1 : ∀ x, ∀ v ∈ enc x, v.oneCell' = true) : Flat α where
  sz := n
  rep := fun _ cs x => cs = enc x
  own := fun _ _ cs x => cs = enc x
  len := fun h => by rw [h]; exact hl _
  mono := fun _ h => h
  own_rep := fun h => h
  own_loc := fun h _ => h
  own_mono := fun _ h => h
  one := fun h => by rw [h]; exact h1 _
  enc := enc
  rep_iff := Iff.rfl
  own_iff := Iff.rfl

instance : Flat Int := Flat.mk' Int 1 (fun n => [.int .i64 n]) (fun _ => rfl) (by intro x v hv; simp at hv; subst hv; rfl)
instance : Flat Bool := Flat.mk' Bool 1 (fun b => [.bool b]) (fun _ => rfl) (by intro x v hv; simp at hv; subst hv; rfl)
instance : Flat UInt8 := Flat.mk' UInt8 1 (fun b => [.int .u8 b.toNat]) (fun _ => rfl) (by intro x v hv; simp at hv; subst hv; rfl)

/-- A Go string (no longer than a place can hold). -/
structure Str where
  b : List UInt8
  h : b.length ≤ 140737488355328
  deriving DecidableEq

def mkS (b : List UInt8) (h : b.length ≤ 140737488355328 := by decide) : Str := ⟨b, h⟩
theorem Str.ext' {s t : Str} (h : s.b = t.b) : s = t := by
  cases s; cases t; simp at h; subst h; rfl
instance : Inhabited Str := ⟨mkS []⟩

instance : Flat Str := Flat.mk' Str 1 (fun s => [.string ⟨s.b.toArray⟩]) (fun _ => rfl) (by intro x v hv; simp at hv; subst hv; rfl)

/-! ### pairs -/
section
variable {α β : Type} [GT α] [GT β]

instance : GT (α × β) where
  sz := GT.sz α + GT.sz β
  rep h cs p := ∃ c d, cs = c ++ d ∧ GT.rep h c p.1 ∧ GT.rep h d p.2
  own F h cs p := ∃ c d, cs = c ++ d ∧ ∃ G H, (∀ b, G b → F b) ∧ (∀ b, H b → F b) ∧ (∀ b, G b → ¬ H b) ∧ GT.own G h c p.1 ∧ GT.own H h d p.2
  len := by rintro h cs p ⟨c, d, rfl, h1, h2⟩; simp [GT.len h1, GT.len h2]
  mono := by rintro h h' cs p hh ⟨c, d, rfl, h1, h2⟩; exact ⟨c, d, rfl, GT.mono hh h1, GT.mono hh h2⟩
  own_rep := by rintro F h cs p ⟨c, d, rfl, G, H, _, _, _, h1, h2⟩; exact ⟨c, d, rfl, GT.own_rep h1, GT.own_rep h2⟩
  own_loc := by
    rintro F h h' cs p ⟨c, d, rfl, G, H, g1, g2, g3, h1, h2⟩ hh
    exact ⟨c, d, rfl, G, H, g1, g2, g3, GT.own_loc h1 (fun b hb => hh b (g1 b hb)), GT.own_loc h2 (fun b hb => hh b (g2 b hb))⟩
  own_mono := by
    rintro F F' h cs p hF ⟨c, d, rfl, G, H, g1, g2, g3, h1, h2⟩
    exact ⟨c, d, rfl, G, H, fun b hb => hF b (g1 b hb), fun b hb => hF b (g2 b hb), g3, h1, h2⟩
  one := by
    rintro h cs p ⟨c, d, rfl, h1, h2⟩ v hv
    rcases List.mem_append.1 hv with hv | hv
    · exact GT.one h1 v hv
    · exact GT.one h2 v hv

/-- A type that is told by another. -/
abbrev GT.via {α β : Type} [GT β] (f : α → β) : GT α where
  sz := GT.sz β
  rep h cs x := GT.rep h cs (f x)
  own F h cs x := GT.own F h cs (f x)
  len := GT.len (α := β)
  mono := GT.mono (α := β)
  own_rep := GT.own_rep (α := β)
  own_loc := GT.own_loc (α := β)
  own_mono := GT.own_mono (α := β)
  one := GT.one (α := β)
end

/-! ### slices -/
section
variable {α : Type} [GT α]

def sliceRep (h : Heap) (v : Value) (xs : List α) : Prop :=
  ((v = .slice none 0 0 ∨ ∃ p cap, v = .slice (some p) 0 cap) ∧ xs = []) ∨
  ∃ b off len cap, v = .slice (some ⟨b, off, none⟩) len cap ∧ xs.length = len ∧ len ≤ cap ∧ (cap ≤ maxLen ∧ len ≤ 140737488355328) ∧
    ∀ (i : Nat) (x : α), xs[i]? = some x → ∃ cs, CellsAt h b (off + i * GT.sz α) cs ∧ GT.rep h cs x

def sliceOwn (F : Nat → Prop) (h : Heap) (v : Value) (xs : List α) : Prop :=
  (v = .slice none 0 0 ∧ xs = []) ∨
  ∃ b off len cap C T, v = .slice (some ⟨b, off, none⟩) len cap ∧ F b ∧ h b = some (.cells C T (0, 0)) ∧ xs.length = len ∧ len ≤ cap ∧ (cap ≤ maxLen ∧ len ≤ 140737488355328) ∧
    off + cap * GT.sz α ≤ C.size ∧ ∃ fps : Nat → Nat → Prop, (∀ i c, fps i c → F c ∧ c ≠ b) ∧ (∀ i j c, i ≠ j → fps i c → ¬ fps j c) ∧
    ∀ (i : Nat) (x : α), xs[i]? = some x → GT.own (fps i) h (seg C (off + i * GT.sz α) (GT.sz α)) x

theorem sliceOwn.rep {F : Nat → Prop} {h : Heap} {v : Value} {xs : List α} (ho : sliceOwn F h v xs) : sliceRep h v xs := by
  rcases ho with ho | ⟨b, off, len, cap, C, T, hv, hF, hb, hl, hc, hm, hsz, fps, h1, h2, h3⟩
  · exact .inl ⟨.inl ho.1, ho.2⟩
  · exact .inr ⟨b, off, len, cap, hv, hl, hc, hm, fun i x hx => ⟨_, cellsAt_seg hb, GT.own_rep (h3 i x hx)⟩⟩

instance : GT (List α) where
  sz := 1
  rep h cs xs := ∃ v, cs = [v] ∧ sliceRep h v xs
  own F h cs xs := ∃ v, cs = [v] ∧ sliceOwn F h v xs
  len := by rintro h cs xs ⟨v, rfl, _⟩; rfl
  mono := by
    rintro h h' cs xs hh ⟨v, rfl, hr⟩
    refine ⟨v, rfl, ?_⟩
    rcases hr with hr | ⟨b, off, len, cap, hv, hl, hc, hm, h3⟩
    · exact .inl hr
    · exact .inr ⟨b, off, len, cap, hv, hl, hc, hm, fun i x hx => let ⟨cs, c1, c2⟩ := h3 i x hx; ⟨cs, c1.mono hh, GT.mono hh c2⟩⟩
  own_rep := by rintro F h cs xs ⟨v, rfl, ho⟩; exact ⟨v, rfl, ho.rep⟩
  own_loc := by
    rintro F h h' cs xs ⟨v, rfl, ho⟩ hh
    refine ⟨v, rfl, ?_⟩
    rcases ho with ho | ⟨b, off, len, cap, C, T, hv, hF, hb, hl, hc, hm, hsz, fps, h1, h2, h3⟩
    · exact .inl ho
    · exact .inr ⟨b, off, len, cap, C, T, hv, hF, (hh b hF).trans hb, hl, hc, hm, hsz, fps, h1, h2, fun i x hx => GT.own_loc (h3 i x hx) (fun c hc => hh c (h1 i c hc).1)⟩
  own_mono := by
    rintro F F' h cs xs hF' ⟨v, rfl, ho⟩
    refine ⟨v, rfl, ?_⟩
    rcases ho with ho | ⟨b, off, len, cap, C, T, hv, hF, hb, hl, hc, hm, hsz, fps, h1, h2, h3⟩
    · exact .inl ho
    · exact .inr ⟨b, off, len, cap, C, T, hv, hF' b hF, hb, hl, hc, hm, hsz, fps, fun i c hc => ⟨hF' c (h1 i c hc).1, (h1 i c hc).2⟩, h2, h3⟩
  one := by
    rintro h cs xs ⟨v, rfl, hr⟩ u hu
    simp at hu
    subst hu
    rcases hr with ⟨rfl | ⟨p, cap, rfl⟩, _⟩ | ⟨b, off, len, cap, rfl, _⟩ <;> rfl

theorem rep_list {h : Heap} {v : Value} {xs : List α} : GT.rep h [v] xs ↔ sliceRep h v xs := by
  constructor
  · rintro ⟨u, hu, hr⟩; simp at hu; subst hu; exact hr
  · intro hr; exact ⟨v, rfl, hr⟩
theorem own_list {F : Nat → Prop} {h : Heap} {v : Value} {xs : List α} : GT.own F h [v] xs ↔ sliceOwn F h v xs := by
  constructor
  · rintro ⟨u, hu, hr⟩; simp at hu; subst hu; exact hr
  · intro hr; exact ⟨v, rfl, hr⟩
end

/-! ### chunks and memory -/
structure Ch where
  pr : (Nat → Prop) → Heap → Prop
  loc : ∀ F h h', pr F h → (∀ b, F b → h' b = h b) → pr F h'
  mono : ∀ F F' h, pr F h → (∀ b, F b → F' b) → pr F' h

def blk (b : Nat) (cs : List Value) (T : TypeId) : Ch where
  pr F h := F b ∧ h b = some (.cells cs.toArray T (0, 0))
  loc _ _ _ hp hh := ⟨hp.1, (hh b hp.1).trans hp.2⟩
  mono _ _ _ hp hF := ⟨hF b hp.1, hp.2⟩

def ow {α : Type} [GT α] (cs : List Value) (x : α) : Ch where
  pr F h := GT.own F h cs x
  loc _ _ _ hp hh := GT.own_loc hp hh
  mono _ _ _ hp hF := GT.own_mono hF hp

structure Same (w w' : World) : Prop where
  os : w'.os = w.os
  tape : w'.tape = w.tape
  output : w'.output = w.output
  size : w.heap.size ≤ w'.heap.size

structure Mem (w0 : World) (hz : Heap) (w : World) (L : List Ch) : Prop where
  same : Same w0 w
  lez : Heap.le hz (hp w)
  chs : ∃ Fs : Nat → Nat → Prop, (∀ (i : Nat) (c : Ch), L[i]? = some c → c.pr (Fs i) (hp w)) ∧ (∀ i j b, i ≠ j → Fs i b → ¬ Fs j b) ∧ ∀ i b, Fs i b → hz b = none ∧ b < w.heap.size

section
variable {w0 w w' : World} {hz : Heap} {L L' : List Ch} {c c' : Ch}

theorem Same.refl (w : World) : Same w w := ⟨rfl, rfl, rfl, Nat.le_refl _⟩
theorem Same.trans {a b c : World} (h : Same a b) (k : Same b c) : Same a c := ⟨k.os.trans h.os, k.tape.trans h.tape, k.output.trans h.output, Nat.le_trans h.size k.size⟩
theorem Same.of_below {n : Nat} (h : Below n w w') : Same w w' := ⟨h.os, h.tape, h.output, h.size⟩

theorem hp_lt {b : Nat} {o : Obj} (h : hp w b = some o) : b < w.heap.size := (Array.getElem?_eq_some_iff.1 h).1
theorem Mem.start (w : World) : Mem w (hp w) w [] :=
  ⟨Same.refl w, Heap.le_refl _, fun _ _ => False, by simp, fun _ _ _ _ h => h.elim, fun _ _ h => h.elim⟩

theorem Mem.hz_lt (hm : Mem w0 hz w L) {b : Nat} {o : Obj} (h : hz b = some o) : b < w.heap.size := hp_lt (hm.lez b o h)
theorem Mem.hz_new (hm : Mem w0 hz w L) {b : Nat} (h : w.heap.size ≤ b) : hz b = none := by
  cases e : hz b with
  | none => rfl
  | some o => exact absurd (hm.hz_lt e) (by omega)

theorem Mem.below (hm : Mem w0 (hp w0) w L) : Below w0.heap.size w0 w :=
  ⟨hm.same.os, hm.same.tape, hm.same.output, hm.same.size, fun k hk => by
    have h : hp w0 k = some w0.heap[k] := Array.getElem?_eq_getElem hk
    have := hm.lez k _ h
    unfold hp at this
    rw [this, Array.getElem?_eq_getElem hk]⟩

/-- What a frozen or old thing is, it is at the world at hand. -/
theorem Mem.now {α : Type} [GT α] (hm : Mem w0 hz w L) {cs : List Value} {x : α} (h : GT.rep hz cs x) : GT.rep (hp w) cs x := GT.mono hm.lez h

theorem Mem.get (hm : Mem w0 hz w L) (k : Nat) (hk : L[k]? = some c) : ∃ F, c.pr F (hp w) ∧ ∀ b, F b → b < w.heap.size ∧ hz b = none := by
  obtain ⟨Fs, h1, h2, h3⟩ := hm.chs
  exact ⟨Fs k, h1 k c hk, fun b hb => ⟨(h3 k b hb).2, (h3 k b hb).1⟩⟩

theorem Mem.upd (hm : Mem w0 hz w L) (k : Nat) (hk : L[k]? = some c) (hs : Same w w')
    (H : ∀ F, c.pr F (hp w) → (∀ b, F b → b < w.heap.size) → ∃ F', (∀ b, F' b → F b ∨ w.heap.size ≤ b) ∧ (∀ b, F' b → b < w'.heap.size) ∧ c'.pr F' (hp w') ∧
      ∀ b, b < w.heap.size → ¬ F b → w'.heap[b]? = w.heap[b]?) : Mem w0 hz w' (L.set k c') := by
  obtain ⟨Fs, h1, h2, h3⟩ := hm.chs
  obtain ⟨F', g1, g2, g3, g4⟩ := H (Fs k) (h1 k c hk) (fun b hb => (h3 k b hb).2)
  refine ⟨hm.same.trans hs, ?_, fun i => if i = k then F' else Fs i, ?_, ?_, ?_⟩
  · intro b o hb
    have hlt := hm.hz_lt hb
    have := hm.lez b o hb
    unfold hp at this ⊢
    rw [g4 b hlt (fun hF => by rw [(h3 k b hF).1] at hb; cases hb)]
    exact this
  · intro i d hi
    by_cases e : i = k
    · subst e
      have hl : i < L.length := (List.getElem?_eq_some_iff.1 hk).1
      rw [List.getElem?_set_self hl] at hi
      simp only [Option.some.injEq] at hi
      subst hi
      simpa using g3
    · rw [List.getElem?_set_ne (Ne.symm e)] at hi
      simp only [e, if_false]
      refine d.loc _ _ _ (h1 i d hi) fun b hb => ?_
      exact g4 b (h3 i b hb).2 (h2 i k b e hb)
  · intro i j b hij hi hj
    by_cases e : i = k
    · subst e
      simp only [if_true] at hi
      rw [if_neg (Ne.symm hij)] at hj
      rcases g1 b hi with h | h
      · exact h2 _ j b hij h hj
      · have := (h3 j b hj).2; omega
    · rw [if_neg e] at hi
      by_cases e2 : j = k
      · subst e2
        simp only [if_true] at hj
        rcases g1 b hj with h | h
        · exact h2 i _ b hij hi h
        · have := (h3 i b hi).2; omega
      · rw [if_neg e2] at hj
        exact h2 i j b hij hi hj
  · intro i b hi
    by_cases e : i = k
    · subst e
      simp only [if_true] at hi
      refine ⟨?_, g2 b hi⟩
      rcases g1 b hi with h | h
      · exact (h3 _ b h).1
      · exact hm.hz_new h
    · rw [if_neg e] at hi
      exact ⟨(h3 i b hi).1, Nat.lt_of_lt_of_le (h3 i b hi).2 hs.size⟩

/-- New memory, told by one chunk; all that was there is as it was. -/
theorem Mem.more (hm : Mem w0 hz w L) (hs : Same w w') (hb : ∀ b, b < w.heap.size → w'.heap[b]? = w.heap[b]?)
    (hc : ∃ F, (∀ b, F b → w.heap.size ≤ b ∧ b < w'.heap.size) ∧ c.pr F (hp w')) : Mem w0 hz w' (c :: L) := by
  obtain ⟨Fs, h1, h2, h3⟩ := hm.chs
  obtain ⟨F, f1, f2⟩ := hc
  refine ⟨hm.same.trans hs, ?_, fun i => match i with | 0 => F | i + 1 => Fs i, ?_, ?_, ?_⟩
  · intro b o ho
    have hlt := hm.hz_lt ho
    have := hm.lez b o ho
    unfold hp at this ⊢
    rw [hb b hlt]; exact this
  · intro i d hi
    cases i with
    | zero => simp at hi; subst hi; exact f2
    | succ i => simp at hi; exact d.loc _ _ _ (h1 i d hi) fun b hbF => hb b (h3 i b hbF).2
  · intro i j b hij hi hj
    cases i with
    | zero =>
      cases j with
      | zero => exact hij rfl
      | succ j => have := (f1 b hi).1; have := (h3 j b hj).2; omega
    | succ i =>
      cases j with
      | zero => have := (f1 b hj).1; have := (h3 i b hi).2; omega
      | succ j => exact h2 i j b (by omega) hi hj
  · intro i b hi
    cases i with
    | zero => exact ⟨hm.hz_new (f1 b hi).1, (f1 b hi).2⟩
    | succ i => exact ⟨(h3 i b hi).1, Nat.lt_of_lt_of_le (h3 i b hi).2 hs.size⟩

/-- Chunks are reordered, some left out. -/
theorem Mem.pick (hm : Mem w0 hz w L) (js : List Nat) (hn : js.Nodup) (hL : js.map (fun j => L[j]?) = L'.map some) : Mem w0 hz w L' := by
  obtain ⟨Fs, h1, h2, h3⟩ := hm.chs
  have hlen : js.length = L'.length := by have := congrArg List.length hL; simpa using this
  refine ⟨hm.same, hm.lez, fun i b => ∃ j, js[i]? = some j ∧ Fs j b, ?_, ?_, ?_⟩
  · intro i d hi
    have hil : i < js.length := by rw [hlen]; exact (List.getElem?_eq_some_iff.1 hi).1
    have e := congrArg (fun l => l[i]?) hL
    simp only [List.getElem?_map, hi, Option.map_some, List.getElem?_eq_getElem hil] at e
    simp only [Option.some.injEq] at e
    exact d.mono _ _ _ (h1 _ d e) fun b hb => ⟨js[i], List.getElem?_eq_getElem hil, hb⟩
  · rintro i k b hik ⟨j, hj, hjb⟩ ⟨j', hj', hjb'⟩
    refine h2 j j' b (fun e => hik ?_) hjb hjb'
    subst e
    have a1 := List.getElem?_eq_some_iff.1 hj
    have a2 := List.getElem?_eq_some_iff.1 hj'
    obtain ⟨p, hp'⟩ := a1
    obtain ⟨q, hq'⟩ := a2
    rcases Nat.lt_trichotomy i k with hlt | heq | hgt
    · exact absurd (hp'.trans hq'.symm) ((List.pairwise_iff_getElem.1 hn) i k p q hlt)
    · exact heq
    · exact absurd (hq'.trans hp'.symm) ((List.pairwise_iff_getElem.1 hn) k i q p hgt)
  · rintro i b ⟨j, _, hjb⟩
    exact h3 j b hjb

theorem Mem.imp (hm : Mem w0 hz w L) (k : Nat) (hk : L[k]? = some c) (H : ∀ F, c.pr F (hp w) → c'.pr F (hp w)) : Mem w0 hz w (L.set k c') :=
  hm.upd k hk (Same.refl w) fun F hF hlt => ⟨F, fun _ h => .inl h, hlt, H F hF, fun _ _ _ => rfl⟩

theorem Mem.below' (hm : Mem w0 hz w L) (hb : Below w.heap.size w w') : Mem w0 hz w' L := by
  have := hm.more (c := ⟨fun _ _ => True, fun _ _ _ _ _ => trivial, fun _ _ _ _ _ => trivial⟩) (Same.of_below hb) hb.block ⟨fun _ => False, fun _ h => h.elim, trivial⟩
  obtain ⟨h1, h3, Fs, g1, g2, g3⟩ := this
  exact ⟨h1, h3, fun i => Fs (i + 1), fun i d hi => g1 (i + 1) d (by simpa using hi), fun i j b hij => g2 (i + 1) (j + 1) b (by omega), fun i b => g3 (i + 1) b⟩

theorem Mem.drew (hm : Mem w0 hz w L) : Mem w0 hz w.drew L := ⟨⟨hm.same.os, hm.same.tape, hm.same.output, hm.same.size⟩, hm.lez, hm.chs⟩

theorem Mem.alloc (hm : Mem w0 hz w L) (cs : List Value) (T : TypeId) : Mem w0 hz (w.alloc (.cells cs.toArray T)) (blk w.heap.size cs T :: L) :=
  hm.more ⟨rfl, rfl, rfl, by simp⟩ (fun b hb => Below.heap_alloc w _ b hb)
    ⟨fun b => b = w.heap.size, fun b hb => by subst hb; simp, rfl, by simp only [hp]; exact heap_alloc_new w _⟩

/-- Chunk j's memory goes over to chunk k. -/
theorem Mem.merge {d : Ch} (hm : Mem w0 hz w L) (k j : Nat) (hkj : k ≠ j) (hk : L[k]? = some c) (hj : L[j]? = some d)
    (H : ∀ F G, c.pr F (hp w) → d.pr G (hp w) → (∀ b, F b → ¬ G b) → c'.pr (fun b => F b ∨ G b) (hp w)) : Mem w0 hz w ((L.set k c').set j ⟨fun _ _ => True, fun _ _ _ _ _ => trivial, fun _ _ _ _ _ => trivial⟩) := by
  obtain ⟨Fs, h1, h2, h3⟩ := hm.chs
  refine ⟨hm.same, hm.lez, fun i b => (i ≠ j ∧ Fs i b) ∨ (i = k ∧ Fs j b), ?_, ?_, ?_⟩
  · intro i e hi
    by_cases e1 : i = j
    · subst e1
      have hl : i < (L.set k c').length := by simpa using (List.getElem?_eq_some_iff.1 hj).1
      rw [List.getElem?_set_self hl] at hi
      simp only [Option.some.injEq] at hi
      subst hi
      trivial
    · rw [List.getElem?_set_ne (Ne.symm e1)] at hi
      by_cases e2 : i = k
      · subst e2
        have hl : i < L.length := (List.getElem?_eq_some_iff.1 hk).1
        rw [List.getElem?_set_self hl] at hi
        simp only [Option.some.injEq] at hi
        subst hi
        refine c'.mono _ _ _ (H _ _ (h1 i c hk) (h1 j d hj) (fun b => h2 i j b e1)) fun b hb => ?_
        rcases hb with hb | hb
        · exact .inl ⟨e1, hb⟩
        · exact .inr ⟨rfl, hb⟩
      · rw [List.getElem?_set_ne (Ne.symm e2)] at hi
        exact e.mono _ _ _ (h1 i e hi) fun b hb => .inl ⟨e1, hb⟩
  · rintro i i' b hii (⟨a1, a2⟩ | ⟨rfl, a2⟩) (⟨b1, b2⟩ | ⟨rfl, b2⟩)
    · exact h2 i i' b hii a2 b2
    · exact h2 i j b a1 a2 b2
    · exact h2 j i' b (Ne.symm b1) a2 b2
    · exact hii rfl
  · rintro i b (⟨_, hb⟩ | ⟨_, hb⟩)
    · exact h3 i b hb
    · exact h3 j b hb

theorem Mem.blk_cells {b : Nat} {cs : List Value} {T : TypeId} (hm : Mem w0 hz w L) (k : Nat) (hk : L[k]? = some (blk b cs T)) : w.heap[b]? = some (.cells cs.toArray T (0, 0)) ∧ b < w.heap.size := by
  obtain ⟨F, h1, h2⟩ := hm.get k hk
  exact ⟨h1.2, (h2 b h1.1).1⟩

theorem Mem.blk_cell {b i : Nat} {cs : List Value} {T : TypeId} {v : Value} (hm : Mem w0 hz w L) (k : Nat) (hk : L[k]? = some (blk b cs T)) (hi : cs[i]? = some v) : w.cell? ⟨b, i, none⟩ = some v := by
  have := (hm.blk_cells k hk).1
  simp [World.cell?, this, hi]

/-- A cell of a known block is written. -/
theorem Mem.blk_set {b i : Nat} {cs : List Value} {T : TypeId} {v : Value} (hm : Mem w0 hz w L) (k : Nat) (hk : L[k]? = some (blk b cs T)) : Mem w0 hz (w.setCell ⟨b, i, none⟩ v) (L.set k (blk b (cs.set i v) T)) :=
  hm.upd k hk ⟨rfl, rfl, rfl, by simp⟩ fun F hF hlt => ⟨F, fun _ h => .inl h, fun c hc => by simpa using hlt c hc, ⟨hF.1, by
    have := heap_setCell_same w b i cs.toArray T v hF.2
    simpa [hp] using this⟩, fun c _ hne => heap_setCell_other w _ c v (fun e => hne (by subst e; exact hF.1))⟩

/-- Some chunks are lent to a call: it sees all else as old memory; what it gives back comes ahead of the rest. -/
theorem Mem.take {L1 L2 : List Ch} (hm : Mem w0 hz w L) (js ks : List Nat) (hn : (js ++ ks).Nodup) (h1 : js.map (fun j => L[j]?) = L1.map some) (h2 : ks.map (fun j => L[j]?) = L2.map some) :
    ∃ hz', Heap.le hz hz' ∧ Mem w hz' w L1 ∧ (∀ {α : Type} [GT α] {cs : List Value} {x : α} (i : Nat), L2[i]? = some (ow cs x) → GT.rep hz' cs x) ∧ ∀ w' M, Mem w hz' w' M → Mem w0 hz w' (M ++ L2) := by
  classical
  have hmp := hm.pick (js ++ ks) hn (L' := L1 ++ L2) (by rw [List.map_append, List.map_append, h1, h2])
  clear h1 h2 hn hm
  obtain ⟨hs, hlez, Fs, f1, f2, f3⟩ := hmp
  have hcut : ∀ b, (if ∃ i, i < L1.length ∧ Fs i b then none else hp w b) = none ∨ ((¬ ∃ i, i < L1.length ∧ Fs i b) ∧ (if ∃ i, i < L1.length ∧ Fs i b then none else hp w b) = hp w b) := fun b => by
    by_cases h : ∃ i, i < L1.length ∧ Fs i b
    · exact .inl (if_pos h)
    · exact .inr ⟨h, if_neg h⟩
  have hle : Heap.le hz (fun b => if ∃ i, i < L1.length ∧ Fs i b then none else hp w b) := by
    intro b o hb
    show (if ∃ i, i < L1.length ∧ Fs i b then none else hp w b) = some o
    rw [if_neg]
    · exact hlez b o hb
    · rintro ⟨i, _, hF⟩
      rw [(f3 i b hF).1] at hb
      cases hb
  refine ⟨fun b => if ∃ i, i < L1.length ∧ Fs i b then none else hp w b, hle, ⟨Same.refl w, ?_, fun i b => i < L1.length ∧ Fs i b, ?_, ?_, ?_⟩, ?_, ?_⟩
  · intro b o hb
    rcases hcut b with h | ⟨_, h⟩
    · exact absurd (hb.symm.trans h) (by simp)
    · exact (hb.symm.trans h).symm
  · intro i c hi
    have hil : i < L1.length := (List.getElem?_eq_some_iff.1 hi).1
    exact c.mono _ _ _ (f1 i c (by rw [List.getElem?_append_left hil]; exact hi)) fun b hb => ⟨hil, hb⟩
  · rintro i j b hij ⟨_, hi⟩ ⟨_, hj⟩
    exact f2 i j b hij hi hj
  · rintro i b ⟨hi, hb⟩
    exact ⟨if_pos ⟨i, hi, hb⟩, (f3 i b hb).2⟩
  · intro α _ cs x i hi
    have hown := f1 (L1.length + i) _ (by rw [List.getElem?_append_right (by omega)]; simpa using hi)
    refine GT.own_rep (GT.own_loc (F := Fs (L1.length + i)) hown fun b hb => ?_)
    show (if ∃ i, i < L1.length ∧ Fs i b then none else hp w b) = hp w b
    rw [if_neg]
    rintro ⟨j, hj, hjb⟩
    exact f2 j (L1.length + i) b (by omega) hjb hb
  · intro w' M hM
    obtain ⟨gs, glez, Gs, g1, g2, g3⟩ := hM
    have hkeep : ∀ i b, L1.length ≤ i → Fs i b → hp w' b = hp w b := fun i b hi hb => by
      have hne : ¬ ∃ i, i < L1.length ∧ Fs i b := by
        rintro ⟨j, hj, hjb⟩
        exact f2 j i b (by omega) hjb hb
      have hlt := (f3 i b hb).2
      have hsome : hp w b = some w.heap[b] := Array.getElem?_eq_getElem hlt
      have := glez b w.heap[b] (by show (if ∃ i, i < L1.length ∧ Fs i b then none else hp w b) = _; rw [if_neg hne]; exact hsome)
      rw [this, hsome]
    refine ⟨hs.trans gs, Heap.le_trans hle glez, fun i b => if i < M.length then Gs i b else L1.length ≤ i - M.length + L1.length ∧ Fs (i - M.length + L1.length) b, ?_, ?_, ?_⟩
    · intro i c hi
      by_cases him : i < M.length
      · rw [List.getElem?_append_left him] at hi
        exact c.mono _ _ _ (g1 i c hi) fun b hb => by dsimp only; rw [if_pos him]; exact hb
      · rw [List.getElem?_append_right (by omega)] at hi
        have := f1 (L1.length + (i - M.length)) c (by rw [List.getElem?_append_right (by omega)]; simpa using hi)
        refine c.mono _ _ _ (c.loc _ _ _ this fun b hb => hkeep _ b (by omega) hb) fun b hb => ?_
        dsimp only
        rw [if_neg him]
        exact ⟨by omega, by rw [Nat.add_comm]; exact hb⟩
    · intro i j b hij hi hj
      try dsimp only at hi hj
      have cross : ∀ i j, i < M.length → Gs i b → L1.length ≤ j → Fs j b → False := fun i j _ hG hj hF => by
        have h3 := (g3 i b hG).1
        have hne : ¬ ∃ i, i < L1.length ∧ Fs i b := by
          rintro ⟨k, hk, hkb⟩
          exact f2 k j b (by omega) hkb hF
        rw [if_neg hne] at h3
        have hlt := (f3 j b hF).2
        have : hp w b = some w.heap[b] := Array.getElem?_eq_getElem hlt
        rw [this] at h3
        cases h3
      by_cases him : i < M.length
      · rw [if_pos him] at hi
        by_cases hjm : j < M.length
        · rw [if_pos hjm] at hj
          exact g2 i j b hij hi hj
        · rw [if_neg hjm] at hj
          exact cross i _ him hi hj.1 hj.2
      · rw [if_neg him] at hi
        by_cases hjm : j < M.length
        · rw [if_pos hjm] at hj
          exact cross j _ hjm hj hi.1 hi.2
        · rw [if_neg hjm] at hj
          exact f2 _ _ b (by omega) hi.2 hj.2
    · intro i b hi
      try dsimp only at hi
      by_cases him : i < M.length
      · rw [if_pos him] at hi
        have h3 := g3 i b hi
        refine ⟨?_, h3.2⟩
        cases hzb : hz b with
        | none => rfl
        | some o =>
          have := (hle b o hzb).symm.trans h3.1
          cases this
      · rw [if_neg him] at hi
        exact ⟨(f3 _ b hi.2).1, Nat.lt_of_lt_of_le (f3 _ b hi.2).2 gs.size⟩

/-- What a call hands back as new memory. -/
theorem Mem.give {M : List Ch} (hm : Mem w0 hz w L) (hM : Mem w (hp w) w' M) : Mem w0 hz w' (M ++ L) := by
  obtain ⟨gs, glez, Gs, g1, g2, g3⟩ := hM
  obtain ⟨hs, hlez, Fs, f1, f2, f3⟩ := hm
  have hkeep : ∀ i b, Fs i b → hp w' b = hp w b := fun i b hb => by
    have hlt := (f3 i b hb).2
    have hsome : hp w b = some w.heap[b] := Array.getElem?_eq_getElem hlt
    rw [glez b _ hsome, hsome]
  refine ⟨hs.trans gs, Heap.le_trans hlez glez, fun i b => if i < M.length then Gs i b else Fs (i - M.length) b, ?_, ?_, ?_⟩
  · intro i c hi
    by_cases him : i < M.length
    · rw [List.getElem?_append_left him] at hi
      exact c.mono _ _ _ (g1 i c hi) fun b hb => by dsimp only; rw [if_pos him]; exact hb
    · rw [List.getElem?_append_right (by omega)] at hi
      exact c.mono _ _ _ (c.loc _ _ _ (f1 _ c hi) fun b hb => hkeep _ b hb) fun b hb => by dsimp only; rw [if_neg him]; exact hb
  · intro i j b hij hi hj
    try dsimp only at hi hj
    have cross : ∀ i j, Gs i b → Fs j b → False := fun i j hG hF => by
      have hlt := (f3 j b hF).2
      have : hp w b = some w.heap[b] := Array.getElem?_eq_getElem hlt
      rw [(g3 i b hG).1] at this
      cases this
    by_cases him : i < M.length
    · rw [if_pos him] at hi
      by_cases hjm : j < M.length
      · rw [if_pos hjm] at hj; exact g2 i j b hij hi hj
      · rw [if_neg hjm] at hj; exact cross i _ hi hj
    · rw [if_neg him] at hi
      by_cases hjm : j < M.length
      · rw [if_pos hjm] at hj; exact cross j _ hj hi
      · rw [if_neg hjm] at hj; exact f2 _ _ b (by omega) hi hj
  · intro i b hi
    try dsimp only at hi
    by_cases him : i < M.length
    · rw [if_pos him] at hi
      have h3 := g3 i b hi
      refine ⟨?_, h3.2⟩
      cases hzb : hz b with
      | none => rfl
      | some o =>
        have := hlez b o hzb
        rw [h3.1] at this
        cases this
    · rw [if_neg him] at hi
      exact ⟨(f3 _ b hi).1, Nat.lt_of_lt_of_le (f3 _ b hi).2 gs.size⟩
end
end Go.Wk
