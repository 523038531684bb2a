/- A part of a proof: general laws of walks, no statement of the seat. -/
/- make, literals, append and stores, for data without references. -/
import Derived.Test.YtjbcoilagfdidaaDoorWkE
namespace Go.Wk
open Go Go.RowKit

/-- A list's element at an integer. -/
def getI {α : Type} (xs : List α) (j : Int) : Option α := if 0 ≤ j then xs[j.toNat]? else none
/-- A list with another element at an integer. -/
def setI {α : Type} (xs : List α) (j : Int) (x : α) : Option (List α) := if 0 ≤ j ∧ j.toNat < xs.length then some (xs.set j.toNat x) else none
/-- Lists put together, if they are not too long. -/
def appM {α : Type} (xs ys : List α) : Option (List α) := if xs.length + ys.length ≤ 2147483648 then some (xs ++ ys) else none
/-- As many zero values. -/
def makeM {α : Type} (z : α) (n : Int) : Option (List α) := if 0 ≤ n ∧ n ≤ 2147483648 then some (List.replicate n.toNat z) else none

theorem getI_some {α : Type} {xs : List α} {j : Int} {x : α} : getI xs j = some x ↔ 0 ≤ j ∧ xs[j.toNat]? = some x := by
  unfold getI; by_cases h : 0 ≤ j <;> simp [h]
theorem appM_some {α : Type} {xs ys zs : List α} : appM xs ys = some zs ↔ xs.length + ys.length ≤ 2147483648 ∧ xs ++ ys = zs := by
  unfold appM; by_cases h : xs.length + ys.length ≤ 2147483648 <;> simp only [h, if_true, if_false, Option.some.injEq, true_and, false_and]; simp
theorem makeM_some {α : Type} {z : α} {n : Int} {ys : List α} : makeM z n = some ys ↔ (0 ≤ n ∧ n ≤ 2147483648) ∧ List.replicate n.toNat z = ys := by
  unfold makeM; by_cases h : 0 ≤ n ∧ n ≤ 2147483648 <;> simp only [h, if_true, if_false, Option.some.injEq, true_and, false_and]; simp

section
variable {α : Type} [GT α] {sv : Value} {xs : List α} {h : Heap}
theorem ro_get (hr : GT.rep h [sv] xs) {i : Nat} {x : α} (hx : xs[i]? = some x) :
    ∃ b off cap, sv = .slice (some ⟨b, off, none⟩) xs.length cap ∧ i < xs.length ∧ ∃ cs, CellsAt h b (off + i * GT.sz α) cs ∧ GT.rep h cs x := by
  obtain ⟨hi, rfl⟩ := List.getElem?_eq_some_iff.1 hx
  obtain ⟨b, off, cap, h1, cs, h2, h3⟩ := ro_at hr hi
  exact ⟨b, off, cap, h1, hi, cs, h2, h3⟩
theorem ro_get' {b off len cap : Nat} (hr : GT.rep h [.slice (some ⟨b, off, none⟩) len cap] xs) {i : Nat} {x : α} (hx : xs[i]? = some x) :
    i < len ∧ ∃ cs, CellsAt h b (off + i * GT.sz α) cs ∧ GT.rep h cs x := by
  obtain ⟨b', off', cap', h1, hi, cs, h2, h3⟩ := ro_get hr hx
  simp only [Value.slice.injEq, Option.some.injEq, Addr.mk.injEq] at h1
  obtain ⟨⟨rfl, rfl, _⟩, rfl, rfl⟩ := h1
  exact ⟨hi, cs, h2, h3⟩
end

theorem madeCells_seg {z : Array Value} {n s i : Nat} (hz : z.size = s) (hi : i < n) : seg (madeCells z (n * s)) (0 + i * s) s = z.toList := by
  apply List.ext_getElem?
  intro j
  by_cases hj : j < s
  · rw [seg_get hj]
    have h1 := mul_lt_of (s := s) hi
    have h2 : 0 + i * s + j < n * s := by omega
    have h3 : (0 + i * s + j) % z.size = j := by rw [hz, Nat.zero_add, Nat.mul_comm, Nat.mul_add_mod]; exact Nat.mod_eq_of_lt hj
    have h4 : j < z.size := by omega
    simp only [madeCells, Array.getElem?_map]
    rw [Array.getElem?_eq_getElem (by simpa using h2)]
    simp only [Array.getElem_range, Option.map_some, h3]
    simp [h4]
  · simp [seg, List.getElem?_take, hj]
    omega

section
variable {α : Type} [GT α] {P : Program} {a : Act} {w w0 : World} {hz : Heap} {L : List Ch} {o : Oper} {n : Nat} {l : Env} {v sv z : Value} {x y c : Operand} {t e s T : TypeId} {xs : List α}

theorem e_make {x0 : α} {kl kc : IntKind} {ln cp : Int} (hT : ElemTy P t e (GT.sz α) z) (h0 : ∀ h, GT.own (fun _ => False) h z.cells.toList x0) (hf : Fr n l a) (hm : Mem w0 hz w L) (ho : o.op = .makeSlice t x y)
    (hx : ev l x = some (.int kl ln)) (hy : ev l y = some (.int kc cp)) (hl0 : 0 ≤ ln) (hlc : ln ≤ cp) (hc : cp ≤ 2147483648) :
    Ef P a w o (fun v w' => Mem w0 hz w' (ow [v] (List.replicate ln.toNat x0) :: L)) := by
  obtain ⟨i, hi, hsz, hby, hz'⟩ := hT.info
  have hbc : (i.bytes : Int) * cp ≤ 281474976710656 := by
    obtain ⟨m, rfl⟩ := Int.eq_ofNat_of_zero_le (show 0 ≤ cp by omega)
    have : i.bytes * m ≤ 65536 * 2147483648 := Nat.mul_le_mul hby (by omega)
    have h2 : ((i.bytes * m : Nat) : Int) ≤ 281474976710656 := by omega
    rwa [Int.natCast_mul] at h2
  have hr := run_make (P := P) w t e i z hT.und hi hz' kl kc ln cp hl0 hlc hbc (by omega)
  rw [hsz] at hr
  refine ef_value (w' := w.alloc (.cells (madeCells z.cells (cp.toNat * GT.sz α)) e)) (v := .slice (some ⟨w.heap.size, 0, none⟩) ln.toNat cp.toNat) (by simp [execOp, ho, hf.eval hx, hf.eval hy, hr]) ?_
  refine hm.more ⟨rfl, rfl, rfl, by simp⟩ (fun b hb => Below.heap_alloc w _ b hb) ⟨fun b => b = w.heap.size, fun b hb => by subst hb; simp, ?_⟩
  refine own_list.2 (sliceOwn.fresh (T := e) (C := madeCells z.cells (cp.toNat * GT.sz α)) (fps := fun _ _ => False) (heap_alloc_new w _) (by simp) (by omega) ⟨by simp [maxLen]; omega, by omega⟩ (by simp [size_madeCells]) rfl rfl (fun _ _ h => h.elim) (fun _ _ _ _ h => h.elim) ?_)
  intro j y hj
  have hjl : j < ln.toNat := by have := (List.getElem?_eq_some_iff.1 hj).1; simpa using this
  have hy : y = x0 := by
    rw [List.getElem?_replicate] at hj
    simp [hjl] at hj
    exact hj.symm
  subst hy
  rw [← seg_seg (mul_lt_of hjl), show (0 : Nat) + j * GT.sz α = 0 + j * GT.sz α from rfl, madeCells_seg hT.zs (by omega)]
  exact h0 _

theorem e_build {len : Nat} {parts : Array (Nat × Operand)} {vs : Array (Nat × Value)} {cs : List Value} (hT : ElemTy P t e s z) (hf : Fr n l a) (hm : Mem w0 hz w L) (ho : o.op = .buildSlice t len parts)
    (hv : (parts.toList.map fun p => (ev l p.2).map fun v => (p.1, v)) = vs.toList.map some) (hfill : Instr.fill (fun i => some (i * s, s)) ((Array.range (len * s)).map (z.cells[· % z.cells.size]!)) vs.toList = some cs.toArray) (hlen : Nat.ble 1 (len * s) = true) (hle : Nat.ble (len * s) 16777216 = true) :
    Ef P a w o (fun v w' => ∃ b, v = .slice (some ⟨b, 0, none⟩) len len ∧ Mem w0 hz w' (blk b cs e :: L)) := by
  obtain ⟨i, hi, hsz, hby, hz'⟩ := hT.info
  have h1 := Nat.le_of_ble_eq_true hlen
  have h2 := Nat.le_of_ble_eq_true hle
  have hparts : (parts.map fun p => (p.1, a.eval p.2)) = vs := by
    apply Array.ext'
    rw [Array.toList_map]
    have : ∀ (ps : List (Nat × Operand)) (us : List (Nat × Value)), (ps.map fun p => (ev l p.2).map fun v => (p.1, v)) = us.map some → ps.map (fun p => (p.1, a.eval p.2)) = us := by
      intro ps
      induction ps with
      | nil => intro us h; cases us <;> simp_all
      | cons p ps ih =>
        intro us h
        cases us with
        | nil => simp at h
        | cons u us =>
          simp only [List.map_cons, List.cons.injEq] at h
          obtain ⟨ha, hb⟩ := h
          cases hp : ev l p.2 with
          | none => simp [hp] at ha
          | some v =>
            simp only [hp, Option.map_some, Option.some.injEq] at ha
            simp [hf.eval hp, ha, ih us hb]
    exact this _ _ hv
  refine ef_value (w' := w.alloc (.cells cs.toArray e)) (v := .slice (some ⟨w.heap.size, 0, none⟩) len len) ?_ ⟨_, rfl, hm.alloc cs e⟩
  have hn0 : ¬ len * s = 0 := by omega
  have hn1 : ¬ 16777216 < len * s := by omega
  simp only [execOp, ho, Instr.buildSlice, Sem.run_bind, run_underlying hT.und, Result.andThen_ok, hparts]
  simp [sizeOf, typeInfo, hi, hsz, hn0, hn1, zeroValue, hz', hfill, newRow]
end

section
variable {α : Type} [Flat α] {P : Program} {a : Act} {w w0 : World} {hz : Heap} {L : List Ch} {o : Oper} {n : Nat} {l : Env} {v sv z : Value} {x y c : Operand} {t e s T : TypeId} {xs ys : List α}

theorem flat_drop : ∀ {xs : List α} {i : Nat} {x : α}, xs[i]? = some x → ((xs.flatMap Flat.enc).drop (i * GT.sz α)).take (GT.sz α) = Flat.enc x
  | [], i, x, h => by simp at h
  | y :: ys, i, x, h => by
    have hl : (Flat.enc y).length = GT.sz α := GT.len (h := fun _ => none) (Flat.rep_iff.2 rfl)
    cases i with
    | zero => simp at h; subst h; simp [hl]
    | succ i =>
      have := flat_drop (xs := ys) (i := i) (x := x) (by simpa using h)
      rw [List.flatMap_cons, show (i + 1) * GT.sz α = (Flat.enc y).length + i * GT.sz α by rw [hl, Nat.add_mul]; omega, List.drop_append, List.drop_eq_nil_of_le (by omega)]
      simpa using this

theorem flat_length : ∀ (xs : List α), (xs.flatMap Flat.enc).length = xs.length * GT.sz α
  | [] => by simp
  | y :: ys => by
    have hl : (Flat.enc y).length = GT.sz α := GT.len (h := fun _ => none) (Flat.rep_iff.2 rfl)
    simp [flat_length ys, hl, Nat.add_mul, Nat.add_comm]

theorem flat_one (xs : List α) : ∀ v ∈ xs.flatMap Flat.enc, v.oneCell' = true := by
  intro v hv
  obtain ⟨x, _, hx⟩ := List.mem_flatMap.1 hv
  exact GT.one (h := fun _ => none) (Flat.rep_iff.2 rfl) v hx

/-- A literal's row, as a slice of the call's own. -/
theorem Mem.lit {b len : Nat} {cs : List Value} (hm : Mem w0 hz w L) (k : Nat) (hk : L[k]? = some (blk b cs e)) (hcs : xs.flatMap Flat.enc = cs) (hl : xs.length = len) (hmx : Nat.ble len 16777216 = true) :
    Mem w0 hz w (L.set k (ow [.slice (some ⟨b, 0, none⟩) len len] xs)) := by
  have h2 := Nat.le_of_ble_eq_true hmx
  refine hm.imp k hk fun F hF => ?_
  subst hcs
  refine own_list.2 (sliceOwn.fresh (T := e) (C := (xs.flatMap Flat.enc).toArray) (fps := fun _ _ => False) hF.2 hl (Nat.le_refl _) ⟨by simp [maxLen]; omega, by omega⟩ (by simp only [List.size_toArray, Nat.zero_add]; rw [flat_length, hl]; exact Nat.le_refl _) rfl hF.1 (fun _ _ h => h.elim) (fun _ _ _ _ h => h.elim) ?_)
  refine flat_els fun i y hy => ?_
  have : seg (xs.flatMap Flat.enc).toArray 0 (len * GT.sz α) = xs.flatMap Flat.enc := by
    rw [seg_list, List.drop_zero, List.take_of_length_le]
    rw [flat_length, hl]; exact Nat.le_refl _
  rw [this]
  exact flat_drop hy

theorem rep_src {w : World} (hr : GT.rep (hp w) [v] xs) : Src w (GT.sz α) xs.length v (xs.flatMap Flat.enc) := by
  refine ⟨flat_length xs, flat_one xs, ?_⟩
  rcases rep_list.1 hr with ⟨rfl | ⟨p, cap, rfl⟩, rfl⟩ | ⟨b, off, len, cap, rfl, hl, hc, hm, h3⟩
  · exact .inl ⟨rfl, rfl⟩
  · exact .inr ⟨p, cap, rfl, fun j u hu => by simp at hu⟩
  · subst hl
    refine .inr ⟨_, cap, rfl, ?_⟩
    obtain ⟨cs, g1, _, g3, g4⟩ := sliceRep.cells (rep_list.1 hr)
    have : xs.flatMap Flat.enc = cs := by
      apply List.ext_getElem?
      intro j
      by_cases hj : j < xs.length * GT.sz α
      · have hpos : 0 < GT.sz α := by
          rcases Nat.eq_zero_or_pos (GT.sz α) with h | h
          · simp [h] at hj
          · exact h
        have hi : j / GT.sz α < xs.length := (Nat.div_lt_iff_lt_mul hpos).2 hj
        have e1 := flat_drop (List.getElem?_eq_getElem hi)
        have e2 := Flat.rep_iff.1 (g4 _ _ (List.getElem?_eq_getElem hi))
        have e3 := congrArg (fun l => l[j % GT.sz α]?) (e1.trans e2.symm)
        have hlt := Nat.mod_lt j hpos
        simp only [List.getElem?_take_of_lt hlt, List.getElem?_drop] at e3
        rwa [show j / GT.sz α * GT.sz α + j % GT.sz α = j by rw [Nat.mul_comm]; exact Nat.div_add_mod j _] at e3
      · rw [List.getElem?_eq_none (by rw [flat_length]; omega), List.getElem?_eq_none (by omega)]
    rw [this]
    intro j u hj
    obtain ⟨C, T, fz, e1, e2⟩ := g3 j u hj
    rw [add_none]
    simp only [hp] at e1
    simp [World.cell?, e1, e2]

/-- append, the source being any slice that can be read. -/
theorem e_append (k : Nat) (hT : ElemTy P t e (GT.sz α) z) (hf : Fr n l a) (hm : Mem w0 hz w L) (hk : L[k]? = some (ow [sv] xs)) (hys : GT.rep (hp w) [v] ys) (ho : o.op = .call { callee := .builtin .append, args := #[x, y], argTypes := #[t, t] })
    (hx : ev l x = some sv) (hy : ev l y = some v) (hlen : xs.length + ys.length ≤ 2147483648) :
    Ef P a w o (fun v' w' => Mem w0 hz w' (L.set k (ow [v'] (xs ++ ys)))) := by
  obtain ⟨F, hF, hFw⟩ := hm.get k hk
  obtain ⟨v', w', hr, hs, hout, F', f1, f2, f3⟩ := run_app (ty := o.type) hT (own_list.1 hF) (fun b hb => (hFw b hb).1) (rep_src hys) rfl (fun _ _ => False) (flat_els fun i x hx => flat_drop hx) (fun _ _ h => h.elim) (fun _ _ _ _ h => h.elim) hlen
  refine ef_value (w' := w') (v := v') ?_ ?_
  · simp [execOp, ho, resolve, invoke, builtin, hf.eval hx, hf.eval hy, hr]
  · refine hm.upd k hk hs fun G hG hGw => ?_
    obtain ⟨v2, w2, hr2, hs2, hout2, F2, p1, p2, p3⟩ := run_app (ty := o.type) hT (own_list.1 hG) hGw (rep_src hys) rfl (fun _ _ => False) (flat_els fun i x hx => flat_drop hx) (fun _ _ h => h.elim) (fun _ _ _ _ h => h.elim) hlen
    rw [hr] at hr2
    simp only [Result.ok.injEq] at hr2
    obtain ⟨rfl, rfl⟩ := hr2
    refine ⟨F2, fun b hb => ?_, p2, own_list.2 p3, hout2⟩
    rcases p1 b hb with h | ⟨_, h⟩ | h
    · exact .inl h
    · exact h.elim
    · exact .inr h

theorem splice_get {cs vs : List Value} {o j : Nat} (ho : o + vs.length ≤ cs.length) : (splice cs o vs)[j]? = if o ≤ j ∧ j < o + vs.length then vs[j - o]? else cs[j]? := by
  unfold splice
  have hl : (cs.take o).length = o := by simp; omega
  by_cases h1 : j < o
  · rw [if_neg (by omega), List.append_assoc, List.getElem?_append_left (by omega), List.getElem?_take_of_lt h1]
  · by_cases h2 : j < o + vs.length
    · rw [if_pos (by omega), List.append_assoc, List.getElem?_append_right (by omega), hl, List.getElem?_append_left (by omega)]
    · rw [if_neg (by omega), List.getElem?_append_right (by simp; omega), List.getElem?_drop]
      congr 1
      simp; omega

theorem splice_length {cs vs : List Value} {o : Nat} (ho : o + vs.length ≤ cs.length) : (splice cs o vs).length = cs.length := by
  simp [splice]; omega

/-- A part of an element is written. -/
theorem Mem.setRow {b off len cap i j : Nat} {x0 x1 : α} {vs : List Value} {C : Array Value} {T' : TypeId} (k : Nat) (hm : Mem w0 hz w L) (hk : L[k]? = some (ow [.slice (some ⟨b, off, none⟩) len cap] xs)) (hx : xs[i]? = some x0)
    (hj : j + vs.length ≤ GT.sz α) (he : splice (Flat.enc x0) j vs = Flat.enc x1) (hC : w.heap[b]? = some (.cells C T' (0, 0))) :
    Mem w0 hz (w.setRow b (splice C.toList (off + i * GT.sz α + j) vs).toArray) (L.set k (ow [.slice (some ⟨b, off, none⟩) len cap] (xs.set i x1))) := by
  obtain ⟨hi, hxi⟩ := List.getElem?_eq_some_iff.1 hx
  refine hm.upd k hk ⟨rfl, rfl, rfl, by simp⟩ fun F hF hFw => ?_
  have ho := own_list.1 hF
  obtain ⟨C2, T2, G, q1, q2, q3, q4, q5, q6⟩ := ho.at hi
  have : hp w b = some (.cells C T' (0, 0)) := hC
  rw [this] at q1
  simp only [Option.some.injEq, Obj.cells.injEq] at q1
  obtain ⟨rfl, rfl, _⟩ := q1
  have hl0 : (Flat.enc x0).length = GT.sz α := GT.len (h := fun _ => none) (Flat.rep_iff.2 rfl)
  have hle : off + i * GT.sz α + j + vs.length ≤ C.toList.length := by simp; omega
  have hb' := setRow_heap w b C (splice C.toList (off + i * GT.sz α + j) vs).toArray T' (0, 0) hC
  refine ⟨F, fun _ h => .inl h, fun c hc => by simpa using hFw c hc, ?_, fun c _ hne => setRow_other w b c _ (fun e => hne (by subst e; exact q2))⟩
  have hput := sliceOwn.put (h' := hp (w.setRow b (splice C.toList (off + i * GT.sz α + j) vs).toArray)) (G := fun _ => False) (x' := x1) ho hi hC hb' (by simp [splice_length hle]) (by
    intro q hq
    simp only [List.getElem?_toArray, splice_get hle]
    rw [if_neg (by omega)]
    simp) (fun c _ hne => setRow_other w b c _ hne) (fun _ h => h.elim) (Flat.own_iff.2 (by
      rw [← he]
      apply List.ext_getElem?
      intro q
      have hseg := Flat.own_iff.1 q6
      by_cases hq : q < GT.sz α
      · rw [seg_get hq, List.getElem?_toArray, splice_get hle, splice_get (by omega)]
        have e0 : (Flat.enc x0)[q]? = C[off + i * GT.sz α + q]? := by rw [← hxi, ← hseg, seg_get hq]
        by_cases hc : j ≤ q ∧ q < j + vs.length
        · rw [if_pos (by omega), if_pos hc]; congr 1; omega
        · rw [if_neg (by omega), if_neg hc, e0]; simp
      · rw [List.getElem?_eq_none (by simp [seg]; omega), List.getElem?_eq_none (by rw [splice_length (by omega)]; omega)]))
  exact own_list.2 (by
    rcases hput with hput | ⟨b1, off1, len1, cap1, C1, T1, e1, e2, e3⟩
    · exact .inl hput
    · obtain ⟨r1, r2, r3, r4, r5, fps, r6, r7, r8⟩ := e3
      exact .inr ⟨b1, off1, len1, cap1, C1, T1, e1, by simpa using e2, r1, r2, r3, r4, r5, fps, fun i c hc => by simpa using r6 i c hc, r7, r8⟩)

theorem e_setElem {b off len cap i j : Nat} {x0 x1 : α} {vs : List Value} {ty : TypeId} (k : Nat) (hf : Fr n l a) (hm : Mem w0 hz w L) (hk : L[k]? = some (ow [.slice (some ⟨b, off, none⟩) len cap] xs)) (hx0 : xs[i]? = some x0)
    (ho : o.op = .store ty x y) (hs : ∀ w, (sizeOf ty).run P w = .ok vs.length w) (hx : ev l x = some (.pointer (some ⟨b, off + i * GT.sz α + j, none⟩))) (hy : ev l y = some v) (hv : v.cells = vs.toArray) (h1 : ∀ u ∈ vs, u.oneCell' = true)
    (hj : Nat.ble (j + vs.length) (GT.sz α) = true) (he : splice (Flat.enc x0) j vs = Flat.enc x1) :
    Ef P a w o (fun _ w' => Mem w0 hz w' (L.set k (ow [.slice (some ⟨b, off, none⟩) len cap] (xs.set i x1)))) := by
  have hj' := Nat.le_of_ble_eq_true hj
  obtain ⟨hi, hxi⟩ := List.getElem?_eq_some_iff.1 hx0
  obtain ⟨F, hF, hFw⟩ := hm.get k hk
  obtain ⟨C, T', G, q1, q2, q3, q4, q5, q6⟩ := (own_list.1 hF).at hi
  have hst := run_storeCells_at P b (off + i * GT.sz α + j) T' vs 0 C w q1 (by simp; omega) h1
  refine ef_skip (w' := w.setRow b (splice C.toList (off + i * GT.sz α + j) vs).toArray) ?_ (Mem.setRow k hm hk hx0 hj' he q1)
  simp [execOp, ho, hf.eval hx, hf.eval hy, Instr.storeAt, Instr.sureAddr, storeVar, hv, hs, hst, splice]
end
end Go.Wk
