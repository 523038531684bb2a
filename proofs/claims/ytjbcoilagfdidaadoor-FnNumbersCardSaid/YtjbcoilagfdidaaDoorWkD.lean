/- A part of a proof: general laws of walks, no statement of the seat. -/
/- Slices that the call owns: read, written, made, appended to. -/
import Derived.Test.YtjbcoilagfdidaaDoorWkC
namespace Go.Wk
open Go Go.RowKit

theorem seg_eq {C D : Array Value} {o n : Nat} (hs : D.size = C.size) (h : ∀ j, o ≤ j → j < o + n → D[j]? = C[j]?) : seg D o n = seg C o n := by
  apply List.ext_getElem?
  intro j
  by_cases hj : j < n
  · rw [seg_get hj, seg_get hj, h _ (by omega) (by omega)]
  · simp [seg, List.getElem?_take, hj]

theorem seg_list {cs : List Value} {o n : Nat} : seg cs.toArray o n = (cs.drop o).take n := by simp [seg]

theorem seg_seg {C : Array Value} {o n i s : Nat} (h : i + s ≤ n) : seg C (o + i) s = ((seg C o n).drop i).take s := by
  apply List.ext_getElem?
  intro j
  by_cases hj : j < s
  · rw [seg_get hj, List.getElem?_take_of_lt hj, List.getElem?_drop, seg_get (by omega)]
    congr 1; omega
  · simp [seg, List.getElem?_take, hj]

theorem mul_lt_of {i j s : Nat} (h : i < j) : i * s + s ≤ j * s := by
  have := Nat.mul_le_mul_right s (show i + 1 ≤ j from h)
  rwa [Nat.add_mul, Nat.one_mul] at this

section
variable {α : Type} [GT α] {F : Nat → Prop} {h h' : Heap} {b off len cap : Nat} {xs : List α}

/-- One element is replaced. -/
theorem sliceOwn.put {C C' : Array Value} {T : TypeId} {i : Nat} {x' : α} {G : Nat → Prop} (ho : sliceOwn F h (.slice (some ⟨b, off, none⟩) len cap) xs) (hi : i < xs.length)
    (hC : h b = some (.cells C T (0, 0))) (hC' : h' b = some (.cells C' T (0, 0))) (hsz : C'.size = C.size) (hout : ∀ j, (j < off + i * GT.sz α ∨ off + i * GT.sz α + GT.sz α ≤ j) → C'[j]? = C[j]?)
    (hh : ∀ c, F c → c ≠ b → h' c = h c) (hG : ∀ c, G c → ¬ F c) (hx : GT.own G h' (seg C' (off + i * GT.sz α) (GT.sz α)) x') :
    sliceOwn (fun c => F c ∨ G c) h' (.slice (some ⟨b, off, none⟩) len cap) (xs.set i x') := by
  rcases ho with ⟨hv, _⟩ | ⟨b', off', len', cap', C0, T0, hv, hF, hb, hl, hc, hm, hs, fps, h1, h2, h3⟩
  · cases hv
  · simp only [Value.slice.injEq, Option.some.injEq, Addr.mk.injEq] at hv
    obtain ⟨⟨rfl, rfl, _⟩, rfl, rfl⟩ := hv
    rw [hC] at hb
    simp only [Option.some.injEq, Obj.cells.injEq] at hb
    obtain ⟨rfl, rfl, _⟩ := hb
    refine .inr ⟨_, _, _, _, C', T, rfl, .inl hF, hC', by simpa using hl, hc, hm, by rw [hsz]; exact hs, fun j => if j = i then G else fps j, ?_, ?_, ?_⟩
    · intro j c hj
      by_cases e : j = i
      · subst e; simp only [if_true] at hj; exact ⟨.inr hj, fun e => hG c hj (by rw [e]; exact hF)⟩
      · rw [if_neg e] at hj; exact ⟨.inl (h1 j c hj).1, (h1 j c hj).2⟩
    · intro j k c hjk hj hk
      by_cases e : j = i
      · subst e
        simp only [if_true] at hj
        rw [if_neg (Ne.symm hjk)] at hk
        exact hG c hj (h1 k c hk).1
      · rw [if_neg e] at hj
        by_cases e2 : k = i
        · subst e2; simp only [if_true] at hk; exact hG c hk (h1 j c hj).1
        · rw [if_neg e2] at hk; exact h2 j k c hjk hj hk
    · intro j y hy
      by_cases e : j = i
      · subst e
        rw [List.getElem?_set_self hi] at hy
        simp only [Option.some.injEq] at hy
        subst hy
        simpa using hx
      · rw [List.getElem?_set_ne (Ne.symm e)] at hy
        dsimp only
        rw [if_neg e, seg_eq hsz (C := C)]
        · exact GT.own_loc (h3 j y hy) fun c hcj => hh c (h1 j c hcj).1 (h1 j c hcj).2
        · intro q hq1 hq2
          refine hout q ?_
          rcases Nat.lt_or_gt_of_ne e with hlt | hgt
          · have := mul_lt_of (s := GT.sz α) hlt; omega
          · have := mul_lt_of (s := GT.sz α) hgt; omega

theorem sliceOwn.at (ho : sliceOwn F h (.slice (some ⟨b, off, none⟩) len cap) xs) {i : Nat} (hi : i < xs.length) :
    ∃ C T G, h b = some (.cells C T (0, 0)) ∧ F b ∧ len = xs.length ∧ off + i * GT.sz α + GT.sz α ≤ C.size ∧ (∀ c, G c → F c ∧ c ≠ b) ∧ GT.own G h (seg C (off + i * GT.sz α) (GT.sz α)) xs[i] := by
  rcases ho with ⟨hv, _⟩ | ⟨b', off', len', cap', C0, T0, hv, hF, hb, hl, hc, hm, hs, fps, h1, h2, h3⟩
  · cases hv
  · simp only [Value.slice.injEq, Option.some.injEq, Addr.mk.injEq] at hv
    obtain ⟨⟨rfl, rfl, _⟩, rfl, rfl⟩ := hv
    refine ⟨C0, T0, fps i, hb, hF, hl.symm, ?_, h1 i, h3 i _ (List.getElem?_eq_getElem hi)⟩
    have := mul_lt_of (s := GT.sz α) (show i < cap by omega)
    omega

/-- Elements in a row of cells. -/
def OwnEls (fps : Nat → Nat → Prop) (h : Heap) (cs : List Value) (xs : List α) : Prop :=
  ∀ (i : Nat) (x : α), xs[i]? = some x → GT.own (fps i) h ((cs.drop (i * GT.sz α)).take (GT.sz α)) x

/-- A fresh row that holds these elements. -/
theorem sliceOwn.fresh {C : Array Value} {T : TypeId} {fps : Nat → Nat → Prop} {cs : List Value} (hb : h b = some (.cells C T (0, 0))) (hl : xs.length = len) (hc : len ≤ cap) (hm : cap ≤ maxLen ∧ len ≤ 140737488355328) (hs : off + cap * GT.sz α ≤ C.size)
    (hcs : seg C off (len * GT.sz α) = cs) (hF : F b) (h1 : ∀ i c, fps i c → F c ∧ c ≠ b) (h2 : ∀ i j c, i ≠ j → fps i c → ¬ fps j c) (h3 : OwnEls fps h cs xs) :
    sliceOwn F h (.slice (some ⟨b, off, none⟩) len cap) xs := by
  refine .inr ⟨b, off, len, cap, C, T, rfl, hF, hb, hl, hc, hm, hs, fps, h1, h2, fun i x hx => ?_⟩
  have hi : i < len := by rw [← hl]; exact (List.getElem?_eq_some_iff.1 hx).1
  have := h3 i x hx
  subst hcs
  rwa [← seg_seg (mul_lt_of hi)] at this
end

section
variable {α : Type} [Flat α]
theorem flat_els {fps : Nat → Nat → Prop} {h : Heap} {cs : List Value} {xs : List α} (hcs : ∀ (i : Nat) (x : α), xs[i]? = some x → (cs.drop (i * GT.sz α)).take (GT.sz α) = Flat.enc x) : OwnEls fps h cs xs :=
  fun i x hx => Flat.own_iff.2 (hcs i x hx)
end

/-! ### append -/
/-- What is appended: m elements of s cells. -/
def Src (w : World) (s m : Nat) (x : Value) (news : List Value) : Prop :=
  news.length = m * s ∧ (∀ v ∈ news, v.oneCell' = true) ∧ ((x = .slice none 0 0 ∧ m = 0) ∨ ∃ ad c, x = .slice (some ad) m c ∧ ∀ (j : Nat) (u : Value), news[j]? = some u → w.cell? (ad.add j) = some u)

theorem Src.first {P : Program} {w w' : World} {s m : Nat} {x : Value} {news : List Value} (hs : Src w s m x news) (hw : w'.heap = w.heap) : (Builtin.firstCells s m x).run P w' = .ok news.toArray w' := by
  obtain ⟨h1, _, ⟨rfl, rfl⟩ | ⟨ad, c, rfl, h3⟩⟩ := hs
  · have : news = [] := List.eq_nil_of_length_eq_zero (by simpa using h1)
    subst this
    simp [Builtin.firstCells]
  · exact run_firstCells_some (P := P) w' s m ad m c news h1 (fun j v hj => by have := h3 j v hj; simpa [World.cell?, hw] using this)

theorem Src.len {P : Program} {w w' : World} {s m : Nat} {x : Value} {news : List Value} (hs : Src w s m x news) : (Builtin.lenOf x).run P w' = .ok m w' := by
  obtain ⟨h1, _, ⟨rfl, rfl⟩ | ⟨ad, c, rfl, h3⟩⟩ := hs <;> simp [Builtin.lenOf]

/-- An element type: its number, size in cells and bytes, its zero value. -/
structure ElemTy (P : Program) (t e s : Nat) (z : Value) : Prop where
  und : P.underlying t = some (.slice e)
  info : ∃ i, P.info? e = some i ∧ i.size = s ∧ i.bytes ≤ 65536 ∧ i.zero = some z
  zs : z.cells.size = s
  pos : 0 < s

theorem cells_of_seg {w : World} {b off n : Nat} {C : Array Value} {T : TypeId} {fz : Nat × Nat} (hb : w.heap[b]? = some (.cells C T fz)) : ∀ (j : Nat) (u : Value), (seg C off n)[j]? = some u → w.cell? ((⟨b, off, none⟩ : Addr).add j) = some u := by
  intro j u hj
  rw [add_none]
  exact (cellsAt_seg (h := hp w) (n := n) (o := off) hb).cell hj

section
variable {α : Type} [GT α] {P : Program} {w : World} {F : Nat → Prop} {sv x z : Value} {xs ys : List α} {t ty e m : Nat} {news : List Value}

theorem run_app (hT : ElemTy P t e (GT.sz α) z) (ho : sliceOwn F (hp w) sv xs) (hFw : ∀ b, F b → b < w.heap.size) (hS : Src w (GT.sz α) m x news) (hm : m = ys.length)
    (fps : Nat → Nat → Prop) (hE : OwnEls fps (hp w) news ys) (hf1 : ∀ i c, fps i c → ¬ F c ∧ c < w.heap.size) (hf2 : ∀ i j c, i ≠ j → fps i c → ¬ fps j c)
    (hlen : xs.length + m ≤ 2147483648) :
    ∃ v' w', (Builtin.append_ #[t, t] ty #[sv, x]).run P w = .ok v' w' ∧ Same w w' ∧ (∀ b, b < w.heap.size → ¬ F b → w'.heap[b]? = w.heap[b]?) ∧
      ∃ F', (∀ b, F' b → F b ∨ (∃ i, fps i b) ∨ w.heap.size ≤ b) ∧ (∀ b, F' b → b < w'.heap.size) ∧ sliceOwn F' (hp w') v' (xs ++ ys) := by
  obtain ⟨i, hi, hsz, hby, hz⟩ := hT.info
  have hpos := hT.pos
  have hnl := hS.1
  have hml : (2147483648 : Nat) ≤ maxLen := by simp [maxLen]
  -- the new row, where it must grow
  have grown : ∀ (olds : List Value) (old : Nat) (gps : Nat → Nat → Prop), old < xs.length + m → olds.length = xs.length * GT.sz α → OwnEls gps (hp w) olds xs → (∀ i c, gps i c → F c) → (∀ i j c, i ≠ j → gps i c → ¬ gps j c) →
      Same w (w.drew.alloc (.cells (olds.toArray ++ news.toArray ++ Builtin.zeroCells z.cells (grownCap w (xs.length + m) old e - (xs.length + m))) e)) ∧
      (∀ b, b < w.heap.size → ¬ F b → (w.drew.alloc (.cells (olds.toArray ++ news.toArray ++ Builtin.zeroCells z.cells (grownCap w (xs.length + m) old e - (xs.length + m))) e)).heap[b]? = w.heap[b]?) ∧
      ∃ F', (∀ b, F' b → F b ∨ (∃ i, fps i b) ∨ w.heap.size ≤ b) ∧ (∀ b, F' b → b < (w.drew.alloc (.cells (olds.toArray ++ news.toArray ++ Builtin.zeroCells z.cells (grownCap w (xs.length + m) old e - (xs.length + m))) e)).heap.size) ∧
        sliceOwn F' (hp (w.drew.alloc (.cells (olds.toArray ++ news.toArray ++ Builtin.zeroCells z.cells (grownCap w (xs.length + m) old e - (xs.length + m))) e))) (.slice (some ⟨w.heap.size, 0, none⟩) (xs.length + m) (grownCap w (xs.length + m) old e)) (xs ++ ys) := by
    intro olds old gps hold hol hoe hg1 hg2
    have hge := grownCap_ge w (xs.length + m) old e
    have hcm := grownCap_le_maxLen w (xs.length + m) old e (by omega)
    refine ⟨⟨rfl, rfl, rfl, by simp⟩, fun b hb _ => Below.heap_alloc w.drew _ b hb, fun b => F b ∨ (∃ i, fps i b) ∨ b = w.heap.size, ?_, ?_, ?_⟩
    · rintro b (hb | hb | hb)
      · exact .inl hb
      · exact .inr (.inl hb)
      · exact .inr (.inr (by omega))
    · rintro b (hb | ⟨i, hb⟩ | hb)
      · have := hFw b hb; simp; omega
      · have := (hf1 i b hb).2; simp; omega
      · subst hb; simp
    · have hnew : ∀ c, c < w.heap.size → hp (w.drew.alloc (.cells (olds.toArray ++ news.toArray ++ Builtin.zeroCells z.cells (grownCap w (xs.length + m) old e - (xs.length + m))) e)) c = hp w c :=
        fun c hc => Below.heap_alloc w.drew _ c hc
      refine sliceOwn.fresh (T := e) (C := olds.toArray ++ news.toArray ++ Builtin.zeroCells z.cells (grownCap w (xs.length + m) old e - (xs.length + m))) (cs := olds ++ news) (fps := fun i => if i < xs.length then gps i else fps (i - xs.length)) ?_ ?_ hge ⟨hcm, by omega⟩ ?_ ?_ ?_ ?_ ?_ ?_
      · exact heap_alloc_new w.drew _
      · simp [hm]
      · simp only [Array.size_append, List.size_toArray, size_zeroCells, hT.zs, hol, hnl, ← Nat.add_mul, Nat.zero_add]
        exact Nat.mul_le_mul_right _ (by omega)
      · have : (olds ++ news).length = (xs.length + m) * GT.sz α := by rw [List.length_append, hol, hnl, Nat.add_mul]
        rw [← this]
        simp only [seg, Array.toList_append, List.drop_zero]
        exact List.take_left
      · exact .inr (.inr rfl)
      · intro i c hic
        by_cases hix : i < xs.length
        · simp only [hix, if_true] at hic
          have := hg1 i c hic
          exact ⟨.inl this, fun e => by have := hFw c this; omega⟩
        · simp only [hix, if_false] at hic
          exact ⟨.inr (.inl ⟨_, hic⟩), fun e => by have := (hf1 _ c hic).2; omega⟩
      · intro i j c hij hic hjc
        by_cases hix : i < xs.length <;> by_cases hjx : j < xs.length <;> simp only [hix, hjx, if_true, if_false] at hic hjc
        · exact hg2 i j c hij hic hjc
        · exact (hf1 _ c hjc).1 (hg1 i c hic)
        · exact (hf1 _ c hic).1 (hg1 j c hjc)
        · exact hf2 _ _ c (by omega) hic hjc
      · intro i y hy
        by_cases hix : i < xs.length
        · rw [List.getElem?_append_left hix] at hy
          simp only [hix, if_true]
          have h1 := hoe i y hy
          have hd : ((olds ++ news).drop (i * GT.sz α)).take (GT.sz α) = (olds.drop (i * GT.sz α)).take (GT.sz α) := by
            have := mul_lt_of (s := GT.sz α) hix
            rw [List.drop_append_of_le_length (by omega), List.take_append_of_le_length (by simp; omega)]
          rw [hd]
          exact GT.own_loc h1 fun c hc => hnew c (hFw c (hg1 i c hc))
        · rw [List.getElem?_append_right (by omega)] at hy
          simp only [hix, if_false]
          have h1 := hE _ y hy
          have hd : (olds ++ news).drop (i * GT.sz α) = news.drop ((i - xs.length) * GT.sz α) := by
            have e1 : i * GT.sz α = olds.length + (i - xs.length) * GT.sz α := by
              rw [hol, ← Nat.add_mul]; congr 1; omega
            rw [e1, List.drop_append, List.drop_eq_nil_of_le (by omega)]
            simp
          rw [hd]
          exact GT.own_loc h1 fun c hc => hnew c (hf1 _ c hc).2
  rcases ho with ⟨rfl, rfl⟩ | ⟨b, off, len, cap, C, T, rfl, hF, hb, hl, hc, hcm, hCs, gps, g1, g2, g3⟩
  · by_cases h0 : m = 0
    · subst h0
      have hy : ys = [] := List.eq_nil_of_length_eq_zero hm.symm
      subst hy
      have hn : news = [] := List.eq_nil_of_length_eq_zero (by simpa using hnl)
      subst hn
      refine ⟨.slice none 0 0, w, ?_, Same.refl w, fun _ _ _ => rfl, F, fun _ h => .inl h, hFw, .inl ⟨rfl, rfl⟩⟩
      have e1 := hS.len (P := P) (w' := w)
      have e2 := hS.first (P := P) (w' := w) rfl
      simp [Builtin.append_, run_underlying hT.und, sizeOf, typeInfo, hi, hsz, e1, e2]
    · obtain ⟨_, _, hx⟩ := hS
      rcases hx with ⟨_, hx⟩ | ⟨ad, c, rfl, hx⟩
      · exact absurd hx h0
      · have hr := run_append_nil (P := P) w t ty e i z hT.und hi hz ad m c news (by rw [hsz]; exact hnl) hx (by omega) (by omega) (by
          have : m * i.bytes ≤ 2147483648 * 65536 := Nat.mul_le_mul (by simpa using hlen) hby
          omega)
        have hg := grown [] 0 (fun _ _ => False) (by simp; omega) (by simp) (by intro i x hx; simp at hx) (by simp) (by simp)
        simp only [List.length_nil, Nat.zero_add, Array.empty_append, List.nil_append] at hg
        exact ⟨_, _, hr, hg⟩
  · subst hl
    by_cases hroom : xs.length + m ≤ cap
    · have e1 := hS.len (P := P) (w' := w)
      have e2 := hS.first (P := P) (w' := w) rfl
      have hfit : off + xs.length * GT.sz α + news.length ≤ C.size := by
        rw [hnl, Nat.add_assoc, ← Nat.add_mul]
        have := Nat.mul_le_mul_right (GT.sz α) hroom
        omega
      have hst := run_storeCells_at P b (off + xs.length * GT.sz α) T news 0 C w hb (by simpa using hfit) hS.2.1
      simp only [Nat.add_zero] at hst
      refine ⟨.slice (some ⟨b, off, none⟩) (xs.length + m) cap, w.setRow b (C.toList.take (off + xs.length * GT.sz α) ++ news ++ C.toList.drop (off + xs.length * GT.sz α + news.length)).toArray, ?_, ?_, ?_, fun c => F c ∨ ∃ i, fps i c, ?_, ?_, ?_⟩
      · simp [Builtin.append_, run_underlying hT.und, sizeOf, typeInfo, hi, hsz, e1, e2, hroom, add_none, hst]
      · exact ⟨rfl, rfl, rfl, by simp⟩
      · intro c _ hne
        exact setRow_other w b c _ (fun e => hne (by subst e; exact hF))
      · rintro c (hc | hc)
        · exact .inl hc
        · exact .inr (.inl hc)
      · rintro c (hc | ⟨i, hc⟩)
        · simpa using hFw c hc
        · simpa using (hf1 i c hc).2
      · have hnew : ∀ c, c ≠ b → hp (w.setRow b (C.toList.take (off + xs.length * GT.sz α) ++ news ++ C.toList.drop (off + xs.length * GT.sz α + news.length)).toArray) c = hp w c :=
          fun c hc => setRow_other w b c _ hc
        have hsize : (C.toList.take (off + xs.length * GT.sz α) ++ news ++ C.toList.drop (off + xs.length * GT.sz α + news.length)).toArray.size = C.size := by
          simp; omega
        refine sliceOwn.fresh (T := T) (C := (C.toList.take (off + xs.length * GT.sz α) ++ news ++ C.toList.drop (off + xs.length * GT.sz α + news.length)).toArray) (cs := seg C off (xs.length * GT.sz α) ++ news) (fps := fun i => if i < xs.length then gps i else fps (i - xs.length)) ?_ ?_ hroom ⟨hcm.1, by omega⟩ ?_ ?_ ?_ ?_ ?_ ?_
        · exact setRow_heap w b C _ T _ hb
        · simp [hm]
        · rw [hsize]; exact hCs
        · rw [Nat.add_mul, ← hnl]
          simp only [seg]
          have hlt : (C.toList.take (off + xs.length * GT.sz α)).length = off + xs.length * GT.sz α := by simp; omega
          rw [List.append_assoc, List.drop_append_of_le_length (by omega), List.drop_take]
          have hl2 : (List.take (off + xs.length * GT.sz α - off) (List.drop off C.toList)).length = xs.length * GT.sz α := by simp; omega
          rw [List.take_append, hl2, List.take_of_length_le (by omega)]
          simp [Nat.add_sub_cancel_left]
        · exact .inl hF
        · intro i c hic
          by_cases hix : i < xs.length
          · simp only [hix, if_true] at hic
            exact ⟨.inl (g1 i c hic).1, (g1 i c hic).2⟩
          · simp only [hix, if_false] at hic
            exact ⟨.inr ⟨_, hic⟩, fun e => (hf1 _ c hic).1 (by rw [e]; exact hF)⟩
        · intro i j c hij hic hjc
          by_cases hix : i < xs.length <;> by_cases hjx : j < xs.length <;> simp only [hix, hjx, if_true, if_false] at hic hjc
          · exact g2 i j c hij hic hjc
          · exact (hf1 _ c hjc).1 (g1 i c hic).1
          · exact (hf1 _ c hic).1 (g1 j c hjc).1
          · exact hf2 _ _ c (by omega) hic hjc
        · have hsl : (seg C off (xs.length * GT.sz α)).length = xs.length * GT.sz α := seg_len (by omega)
          intro i y hy
          by_cases hix : i < xs.length
          · rw [List.getElem?_append_left hix] at hy
            simp only [hix, if_true]
            have h1 := g3 i y hy
            have hle := mul_lt_of (s := GT.sz α) hix
            rw [seg_seg hle] at h1
            rw [List.drop_append_of_le_length (by omega), List.take_append_of_le_length (by simp [hsl]; omega)]
            exact GT.own_loc h1 fun c hc => hnew c (g1 i c hc).2
          · rw [List.getElem?_append_right (by omega)] at hy
            simp only [hix, if_false]
            have h1 := hE _ y hy
            have hd : (seg C off (xs.length * GT.sz α) ++ news).drop (i * GT.sz α) = news.drop ((i - xs.length) * GT.sz α) := by
              have e1 : i * GT.sz α = (seg C off (xs.length * GT.sz α)).length + (i - xs.length) * GT.sz α := by
                rw [hsl, ← Nat.add_mul]; congr 1; omega
              rw [e1, List.drop_append, List.drop_eq_nil_of_le (by omega)]
              simp
            rw [hd]
            exact GT.own_loc h1 fun c hc => hnew c (fun e => (hf1 _ c hc).1 (by rw [e]; exact hF))
    · have hsl : (seg C off (xs.length * GT.sz α)).length = xs.length * GT.sz α := seg_len (by
        have := Nat.mul_le_mul_right (GT.sz α) hc; omega)
      obtain ⟨_, _, hx⟩ := hS
      rcases hx with ⟨_, hx⟩ | ⟨ad, c, rfl, hx⟩
      · omega
      · have hr := run_append_grow (P := P) w t ty e i z hT.und hi hz ⟨b, off, none⟩ xs.length cap (seg C off (xs.length * GT.sz α)) (by rw [hsz]; exact hsl) (cells_of_seg hb) ad m c news (by rw [hsz]; exact hnl) hx (by omega) (by omega) (growslice_fits (by omega) (by
          have : (xs.length + m) * i.bytes ≤ 2147483648 * 65536 := Nat.mul_le_mul hlen hby
          omega))
        have hg := grown (seg C off (xs.length * GT.sz α)) cap gps (by omega) hsl (fun i y hy => by
          have h1 := g3 i y hy
          rwa [seg_seg (mul_lt_of (show i < xs.length from (List.getElem?_eq_some_iff.1 hy).1))] at h1) (fun i c hic => (g1 i c hic).1) g2
        exact ⟨_, _, hr, hg⟩
end
end Go.Wk
