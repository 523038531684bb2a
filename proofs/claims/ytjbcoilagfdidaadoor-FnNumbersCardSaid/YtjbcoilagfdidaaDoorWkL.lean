/- A part of a proof: general laws of walks, no statement of the seat. -/
/- Pointers held against nil; min and max; slice expressions; copy. -/
import Derived.Test.YtjbcoilagfdidaaDoorWkK
import Derived.Laws.Pointers
namespace Go.Wk
open Go Go.RowKit

section
variable {P : Program} {l : Env} {w : World} {o : Oper} {x y : Operand} {t t' e : TypeId} {p : Option Addr}
def minI (i j : Int) : Int := if j < i then j else i
def maxI (i j : Int) : Int := if i < j then j else i
theorem minI_eq (i j : Int) : minI i j = min i j := by unfold minI; split <;> omega
theorem y_min {k : IntKind} {i j : Int} {tys : Array TypeId} (ho : o.op = .call { callee := .builtin .min, args := #[x, y], argTypes := tys }) (hx : ev l x = some (.int k i)) (hy : ev l y = some (.int k j)) : Yl P l w o (.int k (minI i j)) := fun n a hf => by
  simp [execOp, ho, resolve, invoke, builtin, hf.eval hx, hf.eval hy, Builtin.min_, Builtin.min2, minI]
end

/-! ### slice expressions -/
/-- A part of a list. -/
def subM {α : Type} (xs : List α) (lo hi : Int) : Option (List α) := if 0 ≤ lo ∧ lo ≤ hi ∧ hi ≤ (xs.length : Int) then some ((xs.take hi.toNat).drop lo.toNat) else none
theorem subM_some {α : Type} {xs ys : List α} {lo hi : Int} : subM xs lo hi = some ys ↔ (0 ≤ lo ∧ lo ≤ hi ∧ hi ≤ (xs.length : Int)) ∧ (xs.take hi.toNat).drop lo.toNat = ys := by
  unfold subM; by_cases h : 0 ≤ lo ∧ lo ≤ hi ∧ hi ≤ (xs.length : Int) <;> simp only [h, if_true, if_false, Option.some.injEq, true_and, false_and, and_self]; simp

def subV (s : Nat) (v : Value) (lo hi : Nat) : Value := match v with
  | .slice p _ cap => .slice (if cap = lo then p else p.map (·.add (lo * s))) (hi - lo) (cap - lo)
  | v => v

theorem sub_get {α : Type} {xs : List α} {lo hi i : Nat} {x : α} (h : ((xs.take hi).drop lo)[i]? = some x) : lo + i < hi ∧ xs[lo + i]? = some x := by
  rw [List.getElem?_drop] at h
  have hlt := (List.getElem?_eq_some_iff.1 h).1
  simp at hlt
  rw [List.getElem?_take_of_lt (by omega)] at h
  exact ⟨by omega, h⟩

section
variable {α : Type} [GT α] {h : Heap} {v : Value} {xs : List α} {lo hi : Nat} {F : Nat → Prop}

theorem rep_cap (hr : GT.rep h [v] xs) : ∃ p cap, v = .slice p xs.length cap ∧ xs.length ≤ cap := by
  rcases rep_list.1 hr with ⟨rfl | ⟨p, cap, rfl⟩, rfl⟩ | ⟨b, off, len, cap, hv, hl, hc, hm, h3⟩
  · exact ⟨none, 0, rfl, by simp⟩
  · exact ⟨some p, cap, rfl, by simp⟩
  · exact ⟨_, cap, by rw [hl]; exact hv, by omega⟩

theorem rep_subV (hr : GT.rep h [v] xs) (h1 : lo ≤ hi) (h2 : hi ≤ xs.length) : GT.rep h [subV (GT.sz α) v lo hi] ((xs.take hi).drop lo) := by
  refine rep_list.2 ?_
  rcases rep_list.1 hr with ⟨rfl | ⟨p, cap, rfl⟩, rfl⟩ | ⟨b, off, len, cap, rfl, hl, hc, hm, h3⟩
  · simp at h2
    have : lo = 0 := by omega
    subst h2; subst this
    exact .inl ⟨.inl rfl, by simp⟩
  · simp at h2
    have : lo = 0 := by omega
    subst h2; subst this
    refine .inl ⟨.inr ?_, by simp⟩
    simp only [subV]
    split
    · exact ⟨_, _, rfl⟩
    · exact ⟨_, _, rfl⟩
  · by_cases he : lo = hi
    · subst he
      refine .inl ⟨.inr ?_, by simp⟩
      simp only [subV, Nat.sub_self]
      split
      · exact ⟨_, _, rfl⟩
      · exact ⟨_, _, rfl⟩
    · have hne : cap ≠ lo := by omega
      simp only [subV, hne, if_false, Option.map_some, add_none]
      refine .inr ⟨b, off + lo * GT.sz α, hi - lo, cap - lo, rfl, by simp; omega, by omega, ⟨by omega, by omega⟩, fun i x hx => ?_⟩
      obtain ⟨_, hx'⟩ := sub_get hx
      have := h3 _ x hx'
      rwa [Nat.add_mul, ← Nat.add_assoc] at this

end

section
variable {α : Type} [GT α] {P : Program} {l : Env} {h : Heap} {o : Oper} {x yl yh : Operand} {t e : TypeId} {v : Value} {xs : List α} {lo hi : Int} {kl kh : IntKind}

theorem run_sub (hT : SliceTy P t e (GT.sz α)) {p : Option Addr} {len cap : Nat} (w : World) (low high : Option Value) (l1 h1 : Nat)
    (hl : (low = none ∧ l1 = 0) ∨ ∃ k, low = some (.int k (l1 : Int))) (hh : (high = none ∧ h1 = len) ∨ ∃ k, high = some (.int k (h1 : Int))) (h2 : l1 ≤ h1) (h3 : h1 ≤ len) (h4 : len ≤ cap) :
    (Instr.slice t (.slice p len cap) low high none).run P w = .ok (subV (GT.sz α) (.slice p len cap) l1 h1) w := by
  have hsz := hT.size
  have e1 : h1 ≤ cap := by omega
  rcases hl with ⟨rfl, rfl⟩ | ⟨kl, rfl⟩ <;> rcases hh with ⟨rfl, rfl⟩ | ⟨kh, rfl⟩ <;>
    simp [Instr.slice, Instr.sliceBounds, Instr.sliceBound, run_underlying hT.und, asIntOf, e1, h2, h4, hsz, subV]

theorem y_slcH (hT : SliceTy P t e (GT.sz α)) (hr : GT.rep h [v] xs) (ho : o.op = .slice t x none (some yh) none) (hx : ev l x = some v) (hh : ev l yh = some (.int kh hi)) (hb : (0 : Int) ≤ 0 ∧ 0 ≤ hi ∧ hi ≤ (xs.length : Int)) (w : World) :
    Yl P l w o (subV (GT.sz α) v (0 : Int).toNat hi.toNat) := fun n a hf => by
  obtain ⟨p, cap, rfl, hc⟩ := rep_cap hr
  obtain ⟨h1, rfl⟩ := Int.eq_ofNat_of_zero_le hb.2.1
  have := run_sub (α := α) (P := P) hT (p := p) (len := xs.length) (cap := cap) w none (some (.int kh h1)) 0 h1 (.inl ⟨rfl, rfl⟩) (.inr ⟨_, rfl⟩) (by omega) (by omega) hc
  simp [execOp, ho, hf.eval hx, hf.eval hh, Instr.sliceAt, run_underlying hT.und, this]
end

/-! ### slice expressions of strings -/
def Str.sub (s : Str) (lo hi : Nat) : Str := ⟨(s.b.take hi).drop lo, by have := s.h; simp; omega⟩
def subS (s : Str) (lo hi : Int) : Option Str := if 0 ≤ lo ∧ lo ≤ hi ∧ hi ≤ (s.b.length : Int) then some (s.sub lo.toNat hi.toNat) else none
section
variable {P : Program} {l : Env} {o : Oper} {x yl yh : Operand} {t : TypeId} {s : Str} {lo hi : Int} {kl kh : IntKind}
end

/-! ### copy -/
/-- A list into which another is copied from lo to hi. -/
def copyL {α : Type} (xs ys : List α) (lo hi : Nat) : List α := xs.take lo ++ ys.take (min ys.length (hi - lo)) ++ xs.drop (lo + min ys.length (hi - lo))
theorem copyL_length {α : Type} {xs ys : List α} {lo hi : Nat} (h1 : lo ≤ hi) (h2 : hi ≤ xs.length) : (copyL xs ys lo hi).length = xs.length := by
  simp [copyL]; omega

section
variable {α : Type} [GT α] [Cheap α] {P : Program} {a : Act} {w w0 : World} {hz : Heap} {L : List Ch} {o : Oper} {n : Nat} {l : Env} {v sv z : Value} {x y : Operand} {t e : TypeId} {xs ys : List α} {lo hi : Nat}

theorem e_copy (k : Nat) (hT : SliceTy P t e (GT.sz α)) (hpos : 0 < GT.sz α) (hf : Fr n l a) (hm : Mem w0 hz w L) (hk : L[k]? = some (ow [sv] xs)) (hys : GT.rep (hp w) [v] ys) (ho : o.op = .call { callee := .builtin .copy, args := #[x, y], argTypes := #[t, t] })
    (hx : ev l x = some (subV (GT.sz α) sv lo hi)) (hy : ev l y = some v) (h1 : lo ≤ hi) (h2 : hi ≤ xs.length) :
    Ef P a w o (fun r w' => r = .int .i64 ((min ys.length (hi - lo) : Nat) : Int) ∧ Mem w0 hz w' (L.set k (ow [sv] (copyL xs ys lo hi)))) := by
  obtain ⟨news, hsrc, hel⟩ := rep_srcC hys
  obtain ⟨F, hF, hFw⟩ := hm.get k hk
  have hlen := hsrc.len (P := P) (w' := w)
  rcases own_list.1 hF with ⟨rfl, rfl⟩ | ⟨b, off, len, cap, C, T, rfl, hb1, hb, hl, hc, hmx, hsz, fps, g1, g2, g3⟩
  · simp at h2
    subst h2
    have h0 : lo = 0 := by omega
    subst h0
    have hnil : copyL ([] : List α) ys 0 0 = [] := by simp [copyL]
    rw [hnil]
    have hfirst : (Builtin.firstCells (GT.sz α) 0 v).run P w = .ok #[] w := by
      obtain ⟨q1, _, ⟨rfl, q2⟩ | ⟨ad, c, rfl, q3⟩⟩ := hsrc
      · simp [Builtin.firstCells]
      · have := run_firstCells_some (P := P) w (GT.sz α) 0 ad ys.length c [] (by simp) (by simp)
        simpa using this
    refine ef_value (w' := w) (v := .int .i64 0) ?_ ⟨by simp, by
      rw [show L.set k (ow [Value.slice none 0 0] ([] : List α)) = L from by
        apply List.ext_getElem?
        intro i
        by_cases e : i = k
        · subst e; rw [List.getElem?_set_self (List.getElem?_eq_some_iff.1 hk).1, hk]
        · rw [List.getElem?_set_ne (Ne.symm e)]]
      exact hm⟩
    simp [execOp, ho, resolve, invoke, builtin, hf.eval hx, hf.eval hy, subV, Builtin.copy_, run_underlying hT.und, hlen, hT.size, hfirst, goInt]
  · subst hl
    have hbb : w.heap[b]? = some (.cells C T (0, 0)) := hb
    have hfirst : ∀ m, m ≤ ys.length → (Builtin.firstCells (GT.sz α) m v).run P w = .ok (news.take (m * GT.sz α)).toArray w := by
      intro m hm2
      obtain ⟨q1, _, ⟨rfl, q2⟩ | ⟨ad, c, rfl, q3⟩⟩ := hsrc
      · have : m = 0 := by omega
        subst this
        simp [Builtin.firstCells]
      · refine run_firstCells_some (P := P) w (GT.sz α) m ad ys.length c _ ?_ (fun j u hj => q3 j u ?_)
        · rw [List.length_take, q1]
          have := Nat.mul_le_mul_right (GT.sz α) hm2
          omega
        · have hlt := (List.getElem?_eq_some_iff.1 hj).1
          rw [List.length_take] at hlt
          rwa [List.getElem?_take_of_lt (by omega)] at hj
    have hmin : min ys.length (hi - lo) ≤ ys.length := Nat.min_le_left _ _
    have hnl : (news.take (min ys.length (hi - lo) * GT.sz α)).length = min ys.length (hi - lo) * GT.sz α := by
      rw [List.length_take, hsrc.1]
      have := Nat.mul_le_mul_right (GT.sz α) hmin
      omega
    by_cases hcl : cap = lo
    · have h3 : hi = lo := by omega
      subst h3
      have hm0 : min ys.length (hi - hi) = 0 := by simp
      have hcp : copyL xs ys hi hi = xs := by simp [copyL]
      rw [hcp]
      have hf0 := hfirst 0 (by omega)
      simp only [Nat.zero_mul, List.take_zero] at hf0
      have hst : ∀ ad : Addr, (storeCells ad []).run P w = .ok () w := fun ad => by simp [storeCells]
      refine ef_value (w' := w) (v := .int .i64 0) ?_ ⟨by simp, by
        rw [show L.set k (ow [Value.slice (some ⟨b, off, none⟩) xs.length cap] xs) = L from by
          apply List.ext_getElem?
          intro i
          by_cases e : i = k
          · subst e; rw [List.getElem?_set_self (List.getElem?_eq_some_iff.1 hk).1, hk]
          · rw [List.getElem?_set_ne (Ne.symm e)]]
        exact hm⟩
      simp [execOp, ho, resolve, invoke, builtin, hf.eval hx, hf.eval hy, subV, Builtin.copy_, run_underlying hT.und, hlen, hT.size, hcl, hf0, hst, goInt]
    · have hle : off + lo * GT.sz α + (news.take (min ys.length (hi - lo) * GT.sz α)).length ≤ C.size := by
        rw [hnl, Nat.add_assoc, ← Nat.add_mul]
        have := Nat.mul_le_mul_right (GT.sz α) (show lo + min ys.length (hi - lo) ≤ cap by omega)
        omega
      have hst := run_storeCells_at P b (off + lo * GT.sz α) T (news.take (min ys.length (hi - lo) * GT.sz α)) 0 C w hbb (by simpa using hle) (fun u hu => hsrc.2.1 u (List.mem_of_mem_take hu))
      simp only [Nat.add_zero] at hst
      refine ef_value (w' := w.setRow b (splice C.toList (off + lo * GT.sz α) (news.take (min ys.length (hi - lo) * GT.sz α))).toArray) (v := .int .i64 ((min ys.length (hi - lo) : Nat) : Int)) ?_ ⟨rfl, ?_⟩
      · simp only [execOp, ho, resolve, invoke, builtin]
        simp [hf.eval hx, hf.eval hy, subV, Builtin.copy_, run_underlying hT.und, hlen, hT.size, hcl, hfirst _ hmin, hst, goInt, add_none, splice]
      · refine hm.upd k hk ⟨rfl, rfl, rfl, by simp⟩ fun G hG hGw => ?_
        rcases own_list.1 hG with ⟨hv, _⟩ | ⟨b', off', len', cap', C', T', hv, hb1', hb', hl', hc', hmx', hsz', fps', g1', g2', g3'⟩
        · cases hv
        simp only [Value.slice.injEq, Option.some.injEq, Addr.mk.injEq] at hv
        obtain ⟨⟨rfl, rfl, _⟩, rfl, rfl⟩ := hv
        rw [hb] at hb'
        simp only [Option.some.injEq, Obj.cells.injEq] at hb'
        obtain ⟨rfl, rfl, _⟩ := hb'
        refine ⟨G, fun _ h => .inl h, fun c hc => by simpa using hGw c hc, ?_, fun c _ hne => setRow_other w b c _ (fun e => hne (by subst e; exact hb1'))⟩
        have hle2 : off + lo * GT.sz α + (news.take (min ys.length (hi - lo) * GT.sz α)).length ≤ C.toList.length := by simpa using hle
        refine own_list.2 (.inr ⟨b, off, xs.length, cap, (splice C.toList (off + lo * GT.sz α) (news.take (min ys.length (hi - lo) * GT.sz α))).toArray, T, rfl, hb1', setRow_heap w b C _ T _ hbb, copyL_length h1 h2, hc, hmx, by simp [splice_length hle2]; exact hsz, fun i c => (i < lo ∨ lo + min ys.length (hi - lo) ≤ i) ∧ fps' i c, fun i c hc => g1' i c hc.2, fun i j c hij hi hj => g2' i j c hij hi.2 hj.2, fun i u hu => ?_⟩)
        have hi1 : i < xs.length := by have := (List.getElem?_eq_some_iff.1 hu).1; rwa [copyL_length h1 h2] at this
        by_cases hin : lo ≤ i ∧ i < lo + min ys.length (hi - lo)
        · have hu' : ys[i - lo]? = some u := by
            have hlo : (xs.take lo).length = lo := by simp; omega
            unfold copyL at hu
            rw [List.append_assoc, List.getElem?_append_right (by omega), hlo, List.getElem?_append_left (by simp; omega), List.getElem?_take_of_lt (by omega)] at hu
            exact hu
          have hr := hel _ u hu'
          have hseg : seg (splice C.toList (off + lo * GT.sz α) (news.take (min ys.length (hi - lo) * GT.sz α))).toArray (off + i * GT.sz α) (GT.sz α) = (news.drop ((i - lo) * GT.sz α)).take (GT.sz α) := by
            apply List.ext_getElem?
            intro q
            by_cases hq : q < GT.sz α
            · rw [seg_get hq, List.getElem?_toArray, splice_get hle2, List.getElem?_take_of_lt hq, List.getElem?_drop]
              have e1 : i * GT.sz α = lo * GT.sz α + (i - lo) * GT.sz α := by rw [← Nat.add_mul]; congr 1; omega
              have e2 := mul_lt_of (s := GT.sz α) (show i - lo < min ys.length (hi - lo) by omega)
              rw [if_pos (by omega), List.getElem?_take_of_lt (by omega)]
              congr 1
              omega
            · rw [List.getElem?_eq_none (by simp [seg]; omega), List.getElem?_eq_none (by simp; omega)]
          rw [hseg]
          exact Cheap.own_of (GT.mono (fun c o hco => hco) (by
            have := hr
            exact (GT.own_rep (GT.own_loc (F := fun _ => False) (Cheap.own_of this) (fun _ h => h.elim)))))
        · have hu' : xs[i]? = some u := by
            have hlo : (xs.take lo).length = lo := by simp; omega
            unfold copyL at hu
            by_cases hil : i < lo
            · rw [List.append_assoc, List.getElem?_append_left (by omega), List.getElem?_take_of_lt hil] at hu
              exact hu
            · rw [List.getElem?_append_right (by simp; omega), List.getElem?_drop] at hu
              rw [← hu]
              congr 1
              simp; omega
          have hown := g3' i u hu'
          have hseg : seg (splice C.toList (off + lo * GT.sz α) (news.take (min ys.length (hi - lo) * GT.sz α))).toArray (off + i * GT.sz α) (GT.sz α) = seg C (off + i * GT.sz α) (GT.sz α) := by
            apply List.ext_getElem?
            intro q
            by_cases hq : q < GT.sz α
            · rw [seg_get hq, List.getElem?_toArray, splice_get hle2, seg_get hq, if_neg]
              · simp
              · rw [hnl]
                rintro ⟨a1, a2⟩
                rcases Nat.lt_or_ge i lo with h | h
                · have := mul_lt_of (s := GT.sz α) h; omega
                · have hge : lo + min ys.length (hi - lo) ≤ i := by omega
                  have := Nat.mul_le_mul_right (GT.sz α) hge
                  rw [Nat.add_mul] at this
                  omega
            · rw [List.getElem?_eq_none (by simp [seg]; omega), List.getElem?_eq_none (by simp [seg]; omega)]
          rw [hseg]
          refine GT.own_mono (F := fps' i) (fun c hc => ⟨by omega, hc⟩) (GT.own_loc hown fun c hc => setRow_other w b c _ (g1' i c hc).2)
end

section
variable {w0 w : World} {hz : Heap} {L : List Ch}
/-- Some cells of a known block. -/
theorem Mem.blk_part {b i : Nat} {cs ds : List Value} {T : TypeId} (hm : Mem w0 hz w L) (k : Nat) (hk : L[k]? = some (blk b cs T)) (hd : ds = (cs.drop i).take ds.length) : CellsAt (hp w) b i ds := by
  obtain ⟨C, T', fz, h1, h2⟩ := hm.blk_at k hk
  refine ⟨C, T', fz, h1, fun j v hj => ?_⟩
  have hlt := (List.getElem?_eq_some_iff.1 hj).1
  rw [hd, List.getElem?_take_of_lt hlt, List.getElem?_drop] at hj
  have := h2 _ v hj
  rwa [Nat.zero_add] at this
theorem CellsAt.part {h : Heap} {b o i : Nat} {cs ds : List Value} (hc : CellsAt h b o cs) (hd : ds = (cs.drop i).take ds.length) : CellsAt h b (o + i) ds := by
  refine hc.sub fun j v hj => ?_
  have hlt := (List.getElem?_eq_some_iff.1 hj).1
  rw [hd, List.getElem?_take_of_lt hlt, List.getElem?_drop] at hj
  exact hj
end

section
variable {w0 w : World} {hz : Heap} {L : List Ch} {α : Type} [GT α] {b off len cap i : Nat} {xs : List α} {x : α}
end

/-! ### literals whose elements lead to the call's own memory -/
section
variable {α : Type} [GT α] {w0 w : World} {hz : Heap} {L : List Ch}
/-- Elements in a row of cells, each with its own memory. -/
def els (cs : List Value) (xs : List α) : Ch where
  pr F h := cs.length = xs.length * GT.sz α ∧ ∃ fps : Nat → Nat → Prop, (∀ i c, fps i c → F c) ∧ (∀ i j c, i ≠ j → fps i c → ¬ fps j c) ∧ OwnEls fps h cs xs
  loc F h h' := fun ⟨hl, fps, h1, h2, h3⟩ hh => ⟨hl, fps, h1, h2, fun i x hx => GT.own_loc (h3 i x hx) fun c hc => hh c (h1 i c hc)⟩
  mono F F' h := fun ⟨hl, fps, h1, h2, h3⟩ hF => ⟨hl, fps, fun i c hc => hF c (h1 i c hc), h2, h3⟩

theorem Mem.els_nil (hm : Mem w0 hz w L) : Mem w0 hz w (els ([] : List Value) ([] : List α) :: L) :=
  hm.more (Same.refl w) (fun _ _ => rfl) ⟨fun _ => False, fun _ h => h.elim, by simp, fun _ _ => False, fun _ _ h => h, fun _ _ _ _ h => h.elim, fun i x hx => by simp at hx⟩

/-- An element more, ahead of the others. -/
theorem Mem.els_cons {c cs : List Value} {x : α} {xs : List α} (hm : Mem w0 hz w L) (k j : Nat) (hkj : k ≠ j) (hk : L[k]? = some (els cs xs)) (hj : L[j]? = some (ow c x)) :
    Mem w0 hz w ((L.set k (els (c ++ cs) (x :: xs))).set j triv) :=
  hm.merge k j hkj hk hj fun F G ⟨hl, fps, h1, h2, h3⟩ hG hFG => by
    have hc : c.length = GT.sz α := GT.len (GT.own_rep hG)
    refine ⟨by simp [hl, hc, Nat.add_mul, Nat.add_comm], fun i => match i with | 0 => G | i + 1 => fps i, ?_, ?_, ?_⟩
    · intro i c hi
      cases i with
      | zero => exact .inr hi
      | succ i => exact .inl (h1 i c hi)
    · intro i j c hij hi hj
      cases i with
      | zero =>
        cases j with
        | zero => exact hij rfl
        | succ j => exact hFG c (h1 j c hj) hi
      | succ i =>
        cases j with
        | zero => exact hFG c (h1 i c hi) hj
        | succ j => exact h2 i j c (by omega) hi hj
    · intro i y hy
      cases i with
      | zero =>
        simp at hy
        subst hy
        have hG' : GT.own G (hp w) c x := hG
        simpa [hc] using hG'
      | succ i =>
        have := h3 i y (by simpa using hy)
        rw [show (i + 1) * GT.sz α = c.length + i * GT.sz α by rw [Nat.add_mul, hc]; omega, List.drop_append, List.drop_eq_nil_of_le (by omega)]
        simpa using this

theorem Mem.lit_els {b len e : Nat} {cs : List Value} {xs : List α} (hm : Mem w0 hz w L) (k j : Nat) (hkj : k ≠ j) (hk : L[k]? = some (blk b cs e)) (hj : L[j]? = some (els cs xs)) (hl : xs.length = len) (hmx : Nat.ble len 16777216 = true) :
    Mem w0 hz w ((L.set k (ow [.slice (some ⟨b, 0, none⟩) len len] xs)).set j triv) := by
  have h2 := Nat.le_of_ble_eq_true hmx
  refine hm.merge k j hkj hk hj fun F G hF ⟨hcl, fps, g1, g2, g3⟩ hFG => ?_
  refine own_list.2 (.inr ⟨b, 0, len, len, cs.toArray, e, rfl, .inl hF.1, hF.2, hl, Nat.le_refl _, ⟨by simp [maxLen]; omega, by omega⟩, by rw [List.size_toArray, hcl, hl]; omega, fps, fun i c hc => ⟨.inr (g1 i c hc), fun h => hFG c (by rw [h]; exact hF.1) (g1 i c hc)⟩, g2, fun i x hx => ?_⟩)
  have := g3 i x hx
  rw [seg_list, Nat.zero_add]
  exact this
end

theorem yl_eq {P : Program} {l : Env} {w : World} {o : Oper} {u v : Value} (hv : v = u) (h : Yl P l w o u) : Yl P l w o v := by rw [hv]; exact h
theorem view_rep {α : Type} [GT α] {h : Heap} {v nv : Value} {xs ys : List α} {lo hi : Int} (hy : nv = subV (GT.sz α) v lo.toNat hi.toNat) (he : (xs.take hi.toNat).drop lo.toNat = ys) (hb : 0 ≤ lo ∧ lo ≤ hi ∧ hi ≤ (xs.length : Int)) (hr : GT.rep h [v] xs) : GT.rep h [nv] ys := by
  rw [hy, ← he]
  exact rep_subV hr (by omega) (by omega)
theorem subV_whole {α : Type} [GT α] {F : Nat → Prop} {h : Heap} {v : Value} {xs : List α} (hr : GT.own F h [v] xs) : subV (GT.sz α) v 0 xs.length = v := by
  rcases own_list.1 hr with ⟨rfl, rfl⟩ | ⟨b, off, len, cap, C, T, rfl, hF, hb, hl, hc, hm, hs, fps, g1, g2, g3⟩
  · rfl
  · simp only [subV, Nat.sub_zero, hl]
    split
    · rfl
    · simp [add_none]

theorem Mem.subV_whole {α : Type} [GT α] {w0 w : World} {hz : Heap} {L : List Ch} {v : Value} {xs : List α} (hm : Mem w0 hz w L) (k : Nat) (hk : L[k]? = some (ow [v] xs)) : subV (GT.sz α) v 0 xs.length = v :=
  let ⟨_, h, _⟩ := hm.get k hk
  Wk.subV_whole h

/-- As many zero values, with room for more. -/
def makeC {α : Type} (z : α) (n c : Int) : Option (List α) := if 0 ≤ n ∧ n ≤ c ∧ c ≤ 2147483648 then some (List.replicate n.toNat z) else none
section
variable {α β : Type} [GT α] [GT β] {w0 w : World} {hz : Heap} {L : List Ch}
end

section
variable {P : Program} {fn : Func} {R : Value → World → Prop} {a : Act} {w : World} {n : Nat} {l : Env} {v1 v2 v3 v4 : Value} {t1 t2 t3 t4 : Nat}
end

section
variable {α : Type} [GT α] {P : Program} {a : Act} {w w0 : World} {hz : Heap} {L : List Ch} {o : Oper} {n : Nat} {l : Env} {v sv z : Value} {x y : Operand} {t e : TypeId} {xs ys : List α} {lo hi : Nat}
end

/-- A number that fits. -/
def fitI (n : Int) : Option Unit := if n ≤ 9223372036854775807 then some () else none
theorem fitI_some {n : Int} {u : Unit} : fitI n = some u ↔ n ≤ 9223372036854775807 := by
  unfold fitI; by_cases h : n ≤ 9223372036854775807 <;> simp [h]
end Go.Wk
