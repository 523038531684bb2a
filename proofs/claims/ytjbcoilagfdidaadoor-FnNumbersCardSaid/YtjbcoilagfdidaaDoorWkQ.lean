/- A part of a proof: general laws of walks, no statement of the seat. -/
import Derived.Test.YtjbcoilagfdidaaDoorWkH
import Derived.ProofKit
import Derived.SizedLaws
import Derived.Deep.Slices
import Derived.Deep.Fields
/-! From the reading of an argument to the data it stands for; from the walk's end to the row's. -/
namespace Go.Wk
open Go Go.ChangeShapes Go.WideShapes Go.Deep Go.RowKit

/-- What reads at the type is data of α, of which R holds. -/
def Opn (P : Program) (α : Type) [GT α] (R : α → Prop) (t : TypeId) : Prop :=
  ∀ (H : Type) (enc : TypeId × Value → H) (w : World) (base : Nat) (spare : Nat → Bool) (held : Bool) (fuel : Nat) (cs : List Value) (d : DataW H) (ps : List MemPlace),
    DataW.trod enc P w base spare held fuel t cs = some (d, ps) → (∀ n ∈ d.weights P t, n ≤ reachBytes) → ∃ m : α, GT.rep (hp w) cs m ∧ R m

section
variable {P : Program} {t e : TypeId}

theorem op_u8 (ht : P.underlying t = some (.int .u8)) : Opn P UInt8 (fun _ => True) t := by
  intro H enc w base spare held fuel cs d ps h _
  cases fuel with
  | zero => simp [DataW.trod] at h
  | succ fuel =>
    unfold DataW.trod at h
    rw [ht] at h
    match cs, h with
    | [.int k n], h =>
      simp only at h
      split at h
      · rename_i hk
        obtain ⟨rfl, hw⟩ := hk
        simp [Lit.wf, IntKind.min, IntKind.max, IntKind.bits, IntKind.signed] at hw
        refine ⟨UInt8.ofNat n.toNat, ?_, trivial⟩
        show [Value.int .u8 n] = [.int .u8 ((UInt8.ofNat n.toNat).toNat : Int)]
        have : ((UInt8.ofNat n.toNat).toNat : Int) = n := by
          simp
          omega
        rw [this]
      · cases h

theorem weights_mem {H : Type} {ds : List (DataW H)} {d : DataW H} (hd : d ∈ ds) : ∀ n ∈ d.weights P e, n ∈ DataW.weightsAll P e ds := by
  induction ds with
  | nil => cases hd
  | cons x r ih =>
    intro n hn
    rw [DataW.weightsAll, List.mem_append]
    rcases List.mem_cons.1 hd with rfl | h
    · exact .inl hn
    · exact .inr (ih h n hn)

theorem cellsAt_of_cells {w : World} {base n : Nat} {a : Addr} {k : Nat} {cs : List Value} (hc : w.cells? base (a.add k) n = some cs) (hn : 0 < n) : CellsAt (hp w) a.block (a.off + k) cs := by
  obtain ⟨_, hl, h1⟩ := World.cells?_some hc
  have hb : ∀ i, ((a.add k).add i).block = a.block ∧ ((a.add k).add i).off = a.off + k + i := fun i => by
    unfold Addr.add
    by_cases h : k = 0 <;> by_cases h' : i = 0 <;> simp [h, h'] <;> omega
  have h0 : ∃ C T fz, hp w a.block = some (.cells C T fz) := by
    have := h1 0 hn
    rw [List.getElem?_eq_getElem (by omega)] at this
    unfold World.cell? at this
    rw [(hb 0).1] at this
    unfold hp
    split at this
    · rename_i c t fz he
      exact ⟨c, t, fz, he⟩
    · cases this
  obtain ⟨C, T, fz, hC⟩ := h0
  refine ⟨C, T, fz, hC, fun j v hj => ?_⟩
  have hjn : j < n := by rw [← hl]; exact (List.getElem?_eq_some_iff.1 hj).1
  have := h1 j hjn
  rw [hj] at this
  unfold World.cell? at this
  rw [(hb j).1] at this
  unfold hp at hC
  rw [hC] at this
  simp only at this
  split at this
  · cases this
  · rw [(hb j).2] at this
    exact this

section
variable {α β : Type} [GT α] [GT β] {R : α → Prop} {R2 : β → Prop}

theorem op_list (ht : P.underlying t = some (.slice e)) (hs : P.cellsOf e = GT.sz α) (hz : 0 < GT.sz α) (hb : 0 < P.bytesOf e) (he : Opn P α R e) :
    Opn P (List α) (fun l => l.length ≤ 140737488351232 ∧ ∀ x ∈ l, R x) t := by
  intro H enc w base spare held fuel cs d ps h hw
  rcases open_slice ht h with ⟨rfl, hx⟩ | ⟨a, len, cap, m, n, D, Pl, rfl, hb0, hl, hm, hmm, hx, hi⟩
  · exact ⟨[], rep_nil, by simp, by simp⟩
  · simp only [Prod.mk.injEq] at hx
    obtain ⟨rfl, rfl⟩ := hx
    have hlm : len ≤ m := by rw [hmm]; split <;> omega
    have hlen : len ≤ 140737488351232 := by
      have := hw _ (by rw [DataW.weights]; simp only [ht]; exact List.mem_cons_self)
      simp only [List.length_map, List.length_range] at this
      have h2 : reachBytes = 140737488351232 := rfl
      have h3 : (len + (m - len)) * 1 ≤ (len + (m - len)) * P.bytesOf e := Nat.mul_le_mul_left _ hb
      omega
    have hel : ∀ i, i < len → ∃ (x : α) (c : List Value), CellsAt (hp w) a.block (a.off + i * GT.sz α) c ∧ GT.rep (hp w) c x ∧ R x := by
      intro i hil
      obtain ⟨cs', hc, ht'⟩ := hi i (by omega)
      obtain ⟨x, hx1, hx2⟩ := he H enc w base spare held n cs' (D i) (Pl i) ht' (fun n hn => hw n (by
        rw [DataW.weights]; simp only [ht]
        refine List.mem_cons_of_mem _ (List.mem_append_left _ (weights_mem (List.mem_map.2 ⟨i, List.mem_range.2 hil, rfl⟩) n hn))))
      refine ⟨x, cs', ?_, hx1, hx2⟩
      rw [hs] at hc
      exact cellsAt_of_cells hc hz
    by_cases h0 : len = 0
    · subst h0
      exact ⟨[], rep_list.2 (.inl ⟨.inr ⟨a, cap, rfl⟩, rfl⟩), by simp, by simp⟩
    · have hspot : a = ⟨a.block, a.off, none⟩ := by
        obtain ⟨cs', hc, _⟩ := hi 0 (by omega)
        rw [hs, Nat.zero_mul, show a.add 0 = a from rfl] at hc
        obtain ⟨_, _, h1⟩ := World.cells?_some hc
        have h2 := h1 0 hz
        rw [show a.add 0 = a from rfl] at h2
        obtain ⟨_, hl0, _⟩ := World.cells?_some hc
        rw [List.getElem?_eq_getElem (by omega)] at h2
        unfold World.cell? at h2
        cases hsp : a.spot with
        | none => rw [← hsp]
        | some q =>
          rw [hsp] at h2
          split at h2 <;> simp at h2
      have hex : ∀ i, ∃ x : Option α, i < len → ∃ y, x = some y ∧ ∃ c, CellsAt (hp w) a.block (a.off + i * GT.sz α) c ∧ GT.rep (hp w) c y ∧ R y := fun i => by
        by_cases hil : i < len
        · obtain ⟨x, c, h1, h2, h3⟩ := hel i hil
          exact ⟨some x, fun _ => ⟨x, rfl, c, h1, h2, h3⟩⟩
        · exact ⟨none, fun h => absurd h hil⟩
      obtain ⟨f, hf⟩ := Classical.axiomOfChoice hex
      have hlist : ∀ k, k ≤ len → ∃ l : List α, l.length = k ∧ ∀ i, i < k → f i = l[i]? := by
        intro k
        induction k with
        | zero => exact fun _ => ⟨[], rfl, fun i hi => by omega⟩
        | succ k ih =>
          intro hk
          obtain ⟨l, h1, h2⟩ := ih (by omega)
          obtain ⟨y, hy, _⟩ := hf k (by omega)
          refine ⟨l ++ [y], by simp [h1], fun i hi => ?_⟩
          by_cases hik : i < k
          · rw [h2 i hik, List.getElem?_append_left (by omega)]
          · obtain rfl : i = k := by omega
            rw [hy, List.getElem?_append_right (by omega), h1]
            simp
      obtain ⟨l, hl1, hl2⟩ := hlist len (Nat.le_refl _)
      have hall : ∀ (i : Nat) (x : α), l[i]? = some x → (∃ c, CellsAt (hp w) a.block (a.off + i * GT.sz α) c ∧ GT.rep (hp w) c x) ∧ R x := fun i x hx => by
        have hil : i < len := by rw [← hl1]; exact (List.getElem?_eq_some_iff.1 hx).1
        obtain ⟨y, hy, c, h1, h2, h3⟩ := hf i hil
        rw [hl2 i hil, hx] at hy
        simp only [Option.some.injEq] at hy
        subst hy
        exact ⟨⟨c, h1, h2⟩, h3⟩
      refine ⟨l, rep_list.2 (.inr ⟨a.block, a.off, len, cap, by rw [← hspot], hl1, hl, ⟨hm, by omega⟩, fun i x hx => (hall i x hx).1⟩), by omega, fun x hx => ?_⟩
      obtain ⟨i, hi', rfl⟩ := List.mem_iff_getElem.1 hx
      exact (hall i _ (List.getElem?_eq_getElem hi')).2

/-- The fields of a row of cells, from an offset on. -/
def OpF (P : Program) (fs : List Field) (α : Type) [GT α] (R : α → Prop) (off : Nat) : Prop :=
  ∀ (H : Type) (enc : TypeId × Value → H) (w : World) (base : Nat) (spare : Nat → Bool) (held : Bool) (n : Nat) (cs : List Value) (xs : List (DataW H × List MemPlace)),
    xs.length = fs.length → (∀ (j : Nat) (f : Field), fs[j]? = some f → DataW.trod enc P w base spare held n f.type ((cs.drop f.offset).take (P.cellsOf f.type)) = xs[j]?) →
    (∀ n ∈ DataW.weightsEach P (fs.map (·.type)) (xs.map (·.1)), n ≤ reachBytes) → cs.length = off + GT.sz α → ∃ m : α, GT.rep (hp w) (cs.drop off) m ∧ R m

end

section
variable {H : Type} {enc : TypeId × Value → H} {w w' : World} {base b0 : Nat} {spare sp : Nat → Bool} {held : Bool} {d : DataW H} {ps : List MemPlace} {v : Value} {r : Reach}
variable {α : Type} [GT α] {R : α → Prop}

theorem arg_cells (hu : match P.underlying t with | some (.struct _) | some (.array _ _) => False | _ => True) (hv : Value.okWide P w r b0 t v) : v.cells.toList = [v] := by
  cases v <;> try rfl
  rename_i cs
  exfalso
  unfold Value.okWide at hv
  split at hv
  · rename_i h; rw [h] at hu; exact hu
  · rename_i h; rw [h] at hu; exact hu
  · revert hv
    simp only [Cell.okWide]
    cases P.underlying t with
    | none => simp [Cell.ok]
    | some d => cases d <;> simp [Cell.ok]

theorem op_arg (ho : Opn P α R t) (h : DataW.Trod enc P w base spare held t v d ps) (hw : ∀ n ∈ d.weights P t, n ≤ reachBytes) : ∃ m : α, GT.rep (hp w) v.cells.toList m ∧ R m := by
  obtain ⟨fuel, h⟩ := h
  exact ho H enc w base spare held fuel _ d ps h hw

theorem trodAll_stays (hl : laidOutB P = true) {ts : List TypeId} (hread : ∀ t ∈ ts, P.readableRec t = true ∧ t < P.types.size) : ∀ {vs : List Value} {ds : List (DataW H)} {ps : List MemPlace},
    DataW.TrodAll enc P w 0 (fun _ => true) true ts vs ds ps → (∀ p ∈ ps, w.sameAt w' p) → (∀ p ∈ ps, sp p.block = true) → DataW.TrodAll enc P w' 0 sp true ts vs ds ps := by
  induction ts with
  | nil =>
    intro vs ds ps h _ _
    obtain ⟨rfl, rfl, rfl⟩ := trodAll_nil h
    exact rfl
  | cons t ts ih =>
    intro vs ds ps h hs hsp
    obtain ⟨v, vs1, d, ds1, a, b, rfl, rfl, rfl, h1, h2⟩ := trodAll_cons h
    have hr := hread t List.mem_cons_self
    exact ⟨a, b, WideElems.Trod_stays hl hr.1 hr.2 h1 (fun p hp => hs p (List.mem_append_left _ hp)) (fun p hp => hsp p (List.mem_append_left _ hp)),
      ih (fun t ht => hread t (List.mem_cons_of_mem _ ht)) h2 (fun p hp => hs p (List.mem_append_right _ hp)) (fun p hp => hsp p (List.mem_append_right _ hp)), rfl⟩

end
end
end Go.Wk
