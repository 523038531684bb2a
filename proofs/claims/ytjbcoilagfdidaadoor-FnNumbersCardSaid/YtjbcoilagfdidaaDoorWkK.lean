/- A part of a proof: general laws of walks, no statement of the seat. -/
/- Frozen memory, lists whose elements lead to frozen memory, results that lead to arguments, pointers. -/
import Derived.Test.YtjbcoilagfdidaaDoorWkJ
namespace Go.Wk
open Go Go.RowKit

def triv : Ch := ⟨fun _ _ => True, fun _ _ _ _ _ => trivial, fun _ _ _ _ _ => trivial⟩

section
variable {w0 w w' : World} {hz hz' : Heap} {L : List Ch} {c : Ch}

theorem Mem.thaw (hle : Heap.le hz hz') (hm : Mem w0 hz' w L) : Mem w0 hz w L := by
  obtain ⟨hs, hlez, Fs, f1, f2, f3⟩ := hm
  refine ⟨hs, Heap.le_trans hle hlez, Fs, f1, f2, fun i b hb => ⟨?_, (f3 i b hb).2⟩⟩
  cases h : hz b with
  | none => rfl
  | some o =>
    have := hle b o h
    rw [(f3 i b hb).1] at this
    cases this

theorem fz_ow {α : Type} [GT α] {cs : List Value} {x : α} {h : Heap} (H : ∃ F, (ow cs x).pr F h) : GT.rep h cs x := let ⟨_, h1⟩ := H; GT.own_rep h1
theorem fz_blk {b T : Nat} {cs : List Value} {h : Heap} (H : ∃ F, (blk b cs T).pr F h) : h b = some (.cells cs.toArray T (0, 0)) := let ⟨_, h1⟩ := H; h1.2

theorem Mem.hz_cell {b i T : Nat} {cs : List Value} {fz : Nat × Nat} {v : Value} (hm : Mem w0 hz w L) (hb : hz b = some (.cells cs.toArray T fz)) (hi : cs[i]? = some v) : w.cell? ⟨b, i, none⟩ = some v := by
  have := hm.lez b _ hb
  unfold hp at this
  simp [World.cell?, this, hi]
end

/-! ### elements that lead to old memory -/
/-- Data of α that is read in the memory hz. -/
def Sh (_hz : Heap) (α : Type) : Type := α

instance {hz : Heap} {α : Type} [GT α] : GT (Sh hz α) where
  sz := GT.sz α
  rep _ cs x := GT.rep (α := α) hz cs x
  own _ _ cs x := GT.rep (α := α) hz cs x
  len := GT.len (α := α)
  mono := fun _ h => h
  own_rep := fun h => h
  own_loc := fun h _ => h
  own_mono := fun _ h => h
  one := GT.one (α := α)

/-- What can be read is owned, nothing being needed. -/
class Cheap (α : Type) [GT α] : Prop where
  own_of : ∀ {F h cs} {x : α}, GT.rep h cs x → GT.own F h cs x
instance {α : Type} [Flat α] : Cheap α := ⟨fun h => Flat.own_iff.2 (Flat.rep_iff.1 h)⟩
instance {hz : Heap} {α : Type} [GT α] : Cheap (Sh hz α) := ⟨fun h => h⟩

section
variable {α : Type} [GT α] {hz hz' h : Heap} {v : Value} {xs : List α} {F : Nat → Prop}

/-- Elements in a row of cells, told one by one. -/
inductive Els (hz : Heap) : List Value → List α → Prop
  | nil : Els hz [] []
  | cons {c cs : List Value} {x : α} {xs : List α} : GT.rep hz c x → Els hz cs xs → Els hz (c ++ cs) (x :: xs)

theorem Els.get {cs : List Value} {xs : List α} (he : Els hz cs xs) : cs.length = xs.length * GT.sz α ∧ ∀ (i : Nat) (x : α), xs[i]? = some x → GT.rep hz ((cs.drop (i * GT.sz α)).take (GT.sz α)) x := by
  induction he with
  | nil => exact ⟨by simp, fun i x hx => by simp at hx⟩
  | @cons c cs x xs h1 h2 ih =>
    have hl := GT.len h1
    refine ⟨by simp [hl, ih.1, Nat.add_mul, Nat.add_comm], fun i y hy => ?_⟩
    cases i with
    | zero => simp at hy; subst hy; simpa [hl] using h1
    | succ i =>
      have := ih.2 i y (by simpa using hy)
      rw [show (i + 1) * GT.sz α = c.length + i * GT.sz α by rw [Nat.add_mul, hl]; omega, List.drop_append, List.drop_eq_nil_of_le (by omega)]
      simpa using this

end

section
variable {α : Type} [GT α] [Cheap α] {P : Program} {a : Act} {w w0 : World} {hz : Heap} {L : List Ch} {o : Oper} {n : Nat} {l : Env} {v sv z : Value} {x y : Operand} {t e : TypeId} {xs ys : List α}

omit [Cheap α] in
theorem rep_srcC {w : World} (hr : GT.rep (hp w) [v] ys) : ∃ news, Src w (GT.sz α) ys.length v news ∧ ∀ (i : Nat) (x : α), ys[i]? = some x → GT.rep (hp w) ((news.drop (i * GT.sz α)).take (GT.sz α)) x := by
  rcases rep_list.1 hr with ⟨rfl | ⟨p, cap, rfl⟩, rfl⟩ | ⟨b, off, len, cap, rfl, hl, hc, hm, h3⟩
  · exact ⟨[], ⟨by simp, by simp, .inl ⟨rfl, rfl⟩⟩, fun i x hx => by simp at hx⟩
  · exact ⟨[], ⟨by simp, by simp, .inr ⟨p, cap, rfl, fun j u hu => by simp at hu⟩⟩, fun i x hx => by simp at hx⟩
  · subst hl
    obtain ⟨cs, g1, g2, g3, g4⟩ := sliceRep.cells (rep_list.1 hr)
    refine ⟨cs, ⟨g1, g2, .inr ⟨_, cap, rfl, fun j u hj => ?_⟩⟩, g4⟩
    obtain ⟨C, T, fz, e1, e2⟩ := g3 j u hj
    rw [add_none]
    simp only [hp] at e1
    simp [World.cell?, e1, e2]

end

/-- append of elements that lead to the call's own memory: they go over. -/
theorem e_appendD {α : Type} [GT α] {P : Program} {a : Act} {w w0 : World} {hz : Heap} {L : List Ch} {o : Oper} {n : Nat} {l : Env} {v sv z : Value} {x y : Operand} {t e : TypeId} {xs ys : List α} (k : Nat) (hT : ElemTy P t e (GT.sz α) z) (hf : Fr n l a) (hm : Mem w0 hz w L)
    (hk : L[k]? = some (both (ow [sv] xs) (ow [v] ys))) (ho : o.op = .call { callee := .builtin .append, args := #[x, y], argTypes := #[t, t] })
    (hx : ev l x = some sv) (hy : ev l y = some v) (hlen : xs.length + ys.length ≤ 2147483648) :
    Ef P a w o (fun v' w' => Mem w0 hz w' (L.set k (ow [v'] (xs ++ ys)))) := by
  have key : ∀ F G : Nat → Prop, (∀ b, F b → b < w.heap.size) → (∀ b, G b → b < w.heap.size) → (∀ b, F b → ¬ G b) → GT.own F (hp w) [sv] xs → GT.own G (hp w) [v] ys →
      ∃ v' w', (Builtin.append_ #[t, t] o.type #[sv, v]).run P w = .ok v' w' ∧ Same w w' ∧ (∀ b, b < w.heap.size → ¬ F b → w'.heap[b]? = w.heap[b]?) ∧
      ∃ F', (∀ b, F' b → F b ∨ G b ∨ w.heap.size ≤ b) ∧ (∀ b, F' b → b < w'.heap.size) ∧ sliceOwn F' (hp w') v' (xs ++ ys) := by
    intro F G hF hG hFG hx hy
    have hsrc : ∃ news, Src w (GT.sz α) ys.length v news ∧ ∃ fps : Nat → Nat → Prop, OwnEls fps (hp w) news ys ∧ (∀ i c, fps i c → G c) ∧ (∀ i j c, i ≠ j → fps i c → ¬ fps j c) := by
      rcases own_list.1 hy with ⟨rfl, rfl⟩ | ⟨b, off, len, cap, C, T, rfl, hb1, hb, hl, hc, hmx, hsz, fps, h1, h2, h3⟩
      · exact ⟨[], ⟨by simp, by simp, .inl ⟨rfl, rfl⟩⟩, fun _ _ => False, fun i x hx => by simp at hx, fun _ _ h => h.elim, fun _ _ _ _ h => h.elim⟩
      · subst hl
        have hfit : off + ys.length * GT.sz α ≤ C.size := by
          have := Nat.mul_le_mul_right (GT.sz α) hc
          omega
        refine ⟨seg C off (ys.length * GT.sz α), ⟨seg_len hfit, ?_, .inr ⟨_, cap, rfl, cells_of_seg hb⟩⟩, fps, ?_, fun i c hc => (h1 i c hc).1, h2⟩
        · intro u hu
          obtain ⟨j, hj, hju⟩ := List.mem_iff_getElem.1 hu
          have hsl := seg_len hfit
          have hpos : 0 < GT.sz α := by
            rcases Nat.eq_zero_or_pos (GT.sz α) with h | h
            · rw [hsl, h] at hj; omega
            · exact h
          have hi : j / GT.sz α < ys.length := (Nat.div_lt_iff_lt_mul hpos).2 (by omega)
          have h4 := h3 _ _ (List.getElem?_eq_getElem hi)
          rw [seg_seg (mul_lt_of hi)] at h4
          refine GT.one (GT.own_rep h4) u (List.mem_iff_getElem?.2 ⟨j % GT.sz α, ?_⟩)
          rw [List.getElem?_take_of_lt (Nat.mod_lt j hpos), List.getElem?_drop, show j / GT.sz α * GT.sz α + j % GT.sz α = j by rw [Nat.mul_comm]; exact Nat.div_add_mod j _, List.getElem?_eq_getElem hj, hju]
        · intro i y hy
          have h4 := h3 i y hy
          rwa [seg_seg (mul_lt_of (show i < ys.length from (List.getElem?_eq_some_iff.1 hy).1))] at h4
    obtain ⟨news, hsrc, fps, g1, g2, g3⟩ := hsrc
    obtain ⟨v', w', hr, hs, hout, F', f1, f2, f3⟩ := run_app (ty := o.type) hT (own_list.1 hx) hF hsrc rfl fps g1 (fun i c hc => ⟨fun hf => hFG c hf (g2 i c hc), hG c (g2 i c hc)⟩) g3 hlen
    exact ⟨v', w', hr, hs, hout, F', fun b hb => by
      rcases f1 b hb with h | ⟨i, h⟩ | h
      · exact .inl h
      · exact .inr (.inl (g2 i b h))
      · exact .inr (.inr h), f2, f3⟩
  obtain ⟨F0, ⟨F, G, a1, a2, a3, hF, hG⟩, hFw⟩ := hm.get k hk
  obtain ⟨v', w', hr, hs, hout, F', f1, f2, f3⟩ := key F G (fun b hb => (hFw b (a1 b hb)).1) (fun b hb => (hFw b (a2 b hb)).1) a3 hF hG
  refine ef_value (w' := w') (v := v') ?_ ?_
  · simp [execOp, ho, resolve, invoke, builtin, hf.eval hx, hf.eval hy, hr]
  · refine hm.upd k hk hs fun H0 ⟨H, I, b1, b2, b3, hH, hI⟩ hGw => ?_
    obtain ⟨v2, w2, hr2, hs2, hout2, F2, p1, p2, p3⟩ := key H I (fun b hb => hGw b (b1 b hb)) (fun b hb => hGw b (b2 b hb)) b3 hH hI
    rw [hr] at hr2
    simp only [Result.ok.injEq] at hr2
    obtain ⟨rfl, rfl⟩ := hr2
    refine ⟨F2, fun b hb => ?_, p2, own_list.2 p3, fun b hb hn => hout2 b hb (fun h => hn (b1 b h))⟩
    rcases p1 b hb with h | h | h
    · exact .inl (b1 b h)
    · exact .inl (b2 b h)
    · exact .inr h

/-! ### a call that sees only a part of the memory -/
/-- All that the caller's caller holds: untouched. -/
def junk (w0 : World) (hz : Heap) : Ch where
  pr F h := ∃ G : Nat → Prop, (∀ b, G b → F b) ∧ (∀ b, b < w0.heap.size → hz b = none → G b) ∧ ∀ b, G b → h b = hp w0 b
  loc F h h' := fun ⟨G, g1, g2, g3⟩ hh => ⟨G, g1, g2, fun b hb => (hh b (g1 b hb)).trans (g3 b hb)⟩
  mono F F' h := fun ⟨G, g1, g2, g3⟩ hF => ⟨G, fun b hb => hF b (g1 b hb), g2, g3⟩

theorem Mem.startA {w0 : World} {hz : Heap} (hle : Heap.le hz (hp w0)) : Mem w0 hz w0 [junk w0 hz] := by
  refine ⟨Same.refl _, hle, fun i b => i = 0 ∧ b < w0.heap.size ∧ hz b = none, ?_, ?_, ?_⟩
  · intro i c hi
    cases i with
    | zero =>
      simp at hi
      subst hi
      exact ⟨fun b => b < w0.heap.size ∧ hz b = none, fun b hb => ⟨rfl, hb.1, hb.2⟩, fun b h1 h2 => ⟨h1, h2⟩, fun _ _ => rfl⟩
    | succ i => simp at hi
  · rintro i j b hij ⟨rfl, _⟩ ⟨rfl, _⟩
    exact hij rfl
  · rintro i b ⟨_, h1, h2⟩
    exact ⟨h2, h1⟩

theorem Mem.giveA {w0 w w' : World} {hz hz' : Heap} {L M : List Ch} (hm : Mem w0 hz w L) (hle : Heap.le hz hz') (hM : Mem w hz' w' (junk w hz :: M)) : Mem w0 hz' w' (M ++ L) := by
  obtain ⟨gs, glez, Gs, g1, g2, g3⟩ := hM
  obtain ⟨hs, hlez, Fs, f1, f2, f3⟩ := hm
  obtain ⟨G, j1, j2, j3⟩ := g1 0 _ rfl
  have hG : ∀ i b, Fs i b → G b := fun i b hb => j2 b (f3 i b hb).2 (f3 i b hb).1
  have hkeep : ∀ i b, Fs i b → hp w' b = hp w b := fun i b hb => j3 b (hG i b hb)
  refine ⟨hs.trans gs, glez, fun i b => if i < M.length then Gs (i + 1) b else Fs (i - M.length) b, ?_, ?_, ?_⟩
  · intro i c hi
    by_cases him : i < M.length
    · rw [List.getElem?_append_left him] at hi
      exact c.mono _ _ _ (g1 (i + 1) c (by simpa using hi)) fun b hb => by dsimp only; rw [if_pos him]; exact hb
    · rw [List.getElem?_append_right (by omega)] at hi
      exact c.mono _ _ _ (c.loc _ _ _ (f1 _ c hi) fun b hb => hkeep _ b hb) fun b hb => by dsimp only; rw [if_neg him]; exact hb
  · intro i j b hij hi hj
    try dsimp only at hi hj
    have cross : ∀ i j, Gs (i + 1) b → Fs j b → False := fun i j hGi hF => g2 (i + 1) 0 b (by omega) hGi (j1 b (hG j b hF))
    by_cases him : i < M.length
    · rw [if_pos him] at hi
      by_cases hjm : j < M.length
      · rw [if_pos hjm] at hj; exact g2 (i + 1) (j + 1) b (by omega) hi hj
      · rw [if_neg hjm] at hj; exact cross i _ hi hj
    · rw [if_neg him] at hi
      by_cases hjm : j < M.length
      · rw [if_pos hjm] at hj; exact cross j _ hj hi
      · rw [if_neg hjm] at hj; exact f2 _ _ b (by omega) hi hj
  · intro i b hi
    try dsimp only at hi
    by_cases him : i < M.length
    · rw [if_pos him] at hi; exact g3 _ b hi
    · rw [if_neg him] at hi
      have hgb := hG _ b hi
      exact ⟨(g3 0 b (j1 b hgb)).1, (g3 0 b (j1 b hgb)).2⟩

/-- As Mem.take; of all that stays behind it is told that it lies in what the call sees. -/
theorem Mem.take2 {w0 w : World} {hz : Heap} {L L1 L2 : List Ch} (hm : Mem w0 hz w L) (js ks : List Nat) (hn : (js ++ ks).Nodup) (h1 : js.map (fun j => L[j]?) = L1.map some) (h2 : ks.map (fun j => L[j]?) = L2.map some) :
    ∃ hz', Heap.le hz hz' ∧ Mem w hz' w L1 ∧ (∀ (i : Nat) (c : Ch), L2[i]? = some c → ∃ F, c.pr F hz') ∧ ∀ w' M, Mem w hz' w' M → Mem w0 hz w' (M ++ L2) := by
  classical
  have hmp := hm.pick (js ++ ks) hn (L' := L1 ++ L2) (by rw [List.map_append, List.map_append, h1, h2])
  clear h1 h2 hn hm
  obtain ⟨hs, hlez, Fs, f1, f2, f3⟩ := hmp
  have hcut : ∀ b, (if ∃ i, i < L1.length ∧ Fs i b then none else hp w b) = none ∨ ((¬ ∃ i, i < L1.length ∧ Fs i b) ∧ (if ∃ i, i < L1.length ∧ Fs i b then none else hp w b) = hp w b) := fun b => by
    by_cases h : ∃ i, i < L1.length ∧ Fs i b
    · exact .inl (if_pos h)
    · exact .inr ⟨h, if_neg h⟩
  have hle : Heap.le hz (fun b => if ∃ i, i < L1.length ∧ Fs i b then none else hp w b) := by
    intro b o hb
    show (if ∃ i, i < L1.length ∧ Fs i b then none else hp w b) = some o
    rw [if_neg]
    · exact hlez b o hb
    · rintro ⟨i, _, hF⟩
      rw [(f3 i b hF).1] at hb
      cases hb
  refine ⟨fun b => if ∃ i, i < L1.length ∧ Fs i b then none else hp w b, hle, ⟨Same.refl w, ?_, fun i b => i < L1.length ∧ Fs i b, ?_, ?_, ?_⟩, ?_, ?_⟩
  · intro b o hb
    rcases hcut b with h | ⟨_, h⟩
    · exact absurd (hb.symm.trans h) (by simp)
    · exact (hb.symm.trans h).symm
  · intro i c hi
    have hil : i < L1.length := (List.getElem?_eq_some_iff.1 hi).1
    exact c.mono _ _ _ (f1 i c (by rw [List.getElem?_append_left hil]; exact hi)) fun b hb => ⟨hil, hb⟩
  · rintro i j b hij ⟨_, hi⟩ ⟨_, hj⟩
    exact f2 i j b hij hi hj
  · rintro i b ⟨hi, hb⟩
    exact ⟨if_pos ⟨i, hi, hb⟩, (f3 i b hb).2⟩
  · intro i c hi
    have hown := f1 (L1.length + i) c (by rw [List.getElem?_append_right (by omega)]; simpa using hi)
    refine ⟨_, c.loc _ _ _ hown fun b hb => ?_⟩
    show (if ∃ i, i < L1.length ∧ Fs i b then none else hp w b) = hp w b
    rw [if_neg]
    rintro ⟨j, hj, hjb⟩
    exact f2 j (L1.length + i) b (by omega) hjb hb
  · intro w' M hM
    obtain ⟨gs, glez, Gs, g1, g2, g3⟩ := hM
    have hkeep : ∀ i b, L1.length ≤ i → Fs i b → hp w' b = hp w b := fun i b hi hb => by
      have hne : ¬ ∃ i, i < L1.length ∧ Fs i b := by
        rintro ⟨j, hj, hjb⟩
        exact f2 j i b (by omega) hjb hb
      have hlt := (f3 i b hb).2
      have hsome : hp w b = some w.heap[b] := Array.getElem?_eq_getElem hlt
      have := glez b w.heap[b] (by show (if ∃ i, i < L1.length ∧ Fs i b then none else hp w b) = _; rw [if_neg hne]; exact hsome)
      rw [this, hsome]
    refine ⟨hs.trans gs, Heap.le_trans hle glez, fun i b => if i < M.length then Gs i b else L1.length ≤ i - M.length + L1.length ∧ Fs (i - M.length + L1.length) b, ?_, ?_, ?_⟩
    · intro i c hi
      by_cases him : i < M.length
      · rw [List.getElem?_append_left him] at hi
        exact c.mono _ _ _ (g1 i c hi) fun b hb => by dsimp only; rw [if_pos him]; exact hb
      · rw [List.getElem?_append_right (by omega)] at hi
        have := f1 (L1.length + (i - M.length)) c (by rw [List.getElem?_append_right (by omega)]; simpa using hi)
        refine c.mono _ _ _ (c.loc _ _ _ this fun b hb => hkeep _ b (by omega) hb) fun b hb => ?_
        dsimp only
        rw [if_neg him]
        exact ⟨by omega, by rw [Nat.add_comm]; exact hb⟩
    · intro i j b hij hi hj
      try dsimp only at hi hj
      have cross : ∀ i j, i < M.length → Gs i b → L1.length ≤ j → Fs j b → False := fun i j _ hG hj hF => by
        have h3 := (g3 i b hG).1
        have hne : ¬ ∃ i, i < L1.length ∧ Fs i b := by
          rintro ⟨k, hk, hkb⟩
          exact f2 k j b (by omega) hkb hF
        rw [if_neg hne] at h3
        have hlt := (f3 j b hF).2
        have : hp w b = some w.heap[b] := Array.getElem?_eq_getElem hlt
        rw [this] at h3
        cases h3
      by_cases him : i < M.length
      · rw [if_pos him] at hi
        by_cases hjm : j < M.length
        · rw [if_pos hjm] at hj
          exact g2 i j b hij hi hj
        · rw [if_neg hjm] at hj
          exact cross i _ him hi hj.1 hj.2
      · rw [if_neg him] at hi
        by_cases hjm : j < M.length
        · rw [if_pos hjm] at hj
          exact cross j _ hjm hj hi.1 hi.2
        · rw [if_neg hjm] at hj
          exact f2 _ _ b (by omega) hi.2 hj.2
    · intro i b hi
      try dsimp only at hi
      by_cases him : i < M.length
      · rw [if_pos him] at hi
        have h3 := g3 i b hi
        refine ⟨?_, h3.2⟩
        cases hzb : hz b with
        | none => rfl
        | some o =>
          have := (hle b o hzb).symm.trans h3.1
          cases this
      · rw [if_neg him] at hi
        exact ⟨(f3 _ b hi.2).1, Nat.lt_of_lt_of_le (f3 _ b hi.2).2 gs.size⟩

end Go.Wk
