/- A part of a proof: general laws of walks, no statement of the seat. -/
/- Tables: what a row's list says of a package-level variable, as data. -/
import Derived.Test.YtjbcoilagfdidaaDoorWkQ
import Derived.OpenShut
import Derived.Deep.DeepHandedRow
import Derived.Lib.LaidTab
import Derived.OpenVars
namespace Go.Wk
open Go Go.ChangeShapes Go.WideShapes Go.Deep Go.RowKit

/-- What reads at the type as D m, is m. -/
def Opx (P : Program) (α : Type) [GT α] (D : (H : Type) → α → DataW H) (t : TypeId) : Prop :=
  ∀ (H : Type) (enc : TypeId × Value → H) (w : World) (base : Nat) (spare : Nat → Bool) (held : Bool) (fuel : Nat) (cs : List Value) (d : DataW H) (ps : List MemPlace),
    DataW.trod enc P w base spare held fuel t cs = some (d, ps) → (∀ n ∈ d.weights P t, n ≤ reachBytes) → ∃ m : α, GT.rep (hp w) cs m ∧ d = D H m

section
variable {P : Program} {t e : TypeId}
theorem opx_int (ht : P.underlying t = some (.int .i64)) : Opx P Int (fun _ n => .lit (.int .i64 n)) t := by
  intro H enc w base spare held fuel cs d ps h _
  cases fuel with
  | zero => simp [DataW.trod] at h
  | succ fuel =>
    unfold DataW.trod at h
    rw [ht] at h
    match cs, h with
    | [.int k n], h =>
      simp only at h
      split at h
      · rename_i hk
        obtain ⟨rfl, hw⟩ := hk
        simp only [Option.some.injEq, Prod.mk.injEq] at h
        exact ⟨n, rfl, h.1.symm⟩
      · cases h

section
variable {α β : Type} [GT α] [GT β] {D : (H : Type) → α → DataW H} {E : (H : Type) → β → DataW H} {Es : (H : Type) → β → List (DataW H)}

def OpxF (P : Program) (fs : List Field) (α : Type) [GT α] (Ds : (H : Type) → α → List (DataW H)) (off : Nat) : Prop :=
  ∀ (H : Type) (enc : TypeId × Value → H) (w : World) (base : Nat) (spare : Nat → Bool) (held : Bool) (n : Nat) (cs : List Value) (xs : List (DataW H × List MemPlace)),
    xs.length = fs.length → (∀ (j : Nat) (f : Field), fs[j]? = some f → DataW.trod enc P w base spare held n f.type ((cs.drop f.offset).take (P.cellsOf f.type)) = xs[j]?) →
    (∀ n ∈ DataW.weightsEach P (fs.map (·.type)) (xs.map (·.1)), n ≤ reachBytes) → cs.length = off + GT.sz α → ∃ m : α, GT.rep (hp w) (cs.drop off) m ∧ xs.map (·.1) = Ds H m

/-- A table that is an array: it can be read as a slice of all its places. -/
theorem table_rep {W : World} {name : String} {rest : List (String × DataW Unit)} {g n : Nat} {d : DataW Unit} {tab : List α} (hg : P.globalNamed name = some g) (hty : (P.globals[g]?).map (·.type) = some t) (ht : P.underlying t = some (.array n e))
    (hs : P.cellsOf e = GT.sz α) (ho : Opx P α D e) (hinj : ∀ a b, D Unit a = D Unit b → a = b) (hd : d = .agg (tab.map (D Unit))) (hn : tab.length = n) (hn2 : n ≤ 140737488355328) (hwt : (d.weights P t).all (· ≤ reachBytes) = true)
    (h : laidMet P ((name, d) :: rest) W) : GT.rep (hp W) [.slice (some ⟨g, 0, none⟩) n n] tab := by
  obtain ⟨ps, ⟨g', t', cs, fuel, p, q, hg', ht', hvar, hrd, _, _⟩, _⟩ := h
  obtain rfl := Option.some.inj (hg.symm.trans hg')
  obtain rfl := Option.some.inj (hty.symm.trans ht')
  obtain ⟨xs, m, _, hx, hcl, hxl, hxi⟩ := DataW.trod_array ht hrd
  simp only [Prod.mk.injEq] at hx
  obtain ⟨hx1, _⟩ := hx
  have hxe : tab.map (D Unit) = xs.map (·.1) := by
    rw [hd] at hx1
    simpa using hx1
  have hcell : ∃ T fz, hp W g = some (.cells cs T fz) := by
    simp only [World.var?, hg, Option.bind_some] at hvar
    unfold hp
    split at hvar
    · rename_i c T fz hc
      simp only [Option.some.injEq] at hvar
      subst hvar
      exact ⟨T, fz, hc⟩
    · cases hvar
  obtain ⟨T, fz, hC⟩ := hcell
  refine rep_list.2 (.inr ⟨g, 0, n, n, rfl, hn, Nat.le_refl _, ⟨by unfold maxLen; omega, hn2⟩, fun i x hi => ?_⟩)
  have hin : i < n := by rw [← hn]; exact (List.getElem?_eq_some_iff.1 hi).1
  have hread := hxi i hin
  rw [List.getElem?_eq_getElem (by omega)] at hread
  have hxd : (xs[i]'(by omega)).1 = D Unit x := by
    have := congrArg (fun l => l[i]?) hxe
    simp only [List.getElem?_map, hi, Option.map_some, List.getElem?_eq_getElem (show i < xs.length by omega), Option.some.injEq] at this
    exact this.symm
  have hmem : (xs[i]'(by omega)).1 ∈ xs.map (·.1) := List.mem_map.2 ⟨_, List.getElem_mem _, rfl⟩
  obtain ⟨y, hy1, hy2⟩ := ho Unit _ W 0 _ _ m _ _ _ hread (fun k hk => by
    have h1 : k ∈ d.weights P t := by
      rw [hd, DataW.weights]
      simp only [ht]
      rw [hxe]
      exact weights_mem hmem k hk
    simpa using List.all_eq_true.1 hwt k h1)
  have : y = x := hinj _ _ (hy2.symm.trans hxd)
  subst this
  rw [hs] at hy1
  refine ⟨_, ⟨cs, T, fz, hC, fun j v hj => ?_⟩, hy1⟩
  have hjs : j < GT.sz α := by
    have := (List.getElem?_eq_some_iff.1 hj).1
    simp at this
    omega
  rw [List.getElem?_take_of_lt hjs, List.getElem?_drop] at hj
  rw [Nat.zero_add, ← hj]
  simp
end
end

/-- The row's end for a law that names variables: it answers true; what came in and the variables read as they did. -/
theorem post_true_vars {H : Type} {enc : TypeId × Value → H} {P : Program} {f : Func} {s : ChangeSpec} {apart fresh handsOn : Bool} {W W' : World} {args : Array Value} {ds gs : List (DataW H)} {before : List MemPlace} {tb : TypeId}
    (hl : laidOutB P = true) (hread : ∀ t ∈ f.params.toList, P.readableRec t = true ∧ t < P.types.size) (hrt : f.resultTypes = #[tb]) (htb : P.underlying tb = some .bool) (hvr : varsRowed P s.vars = true)
    (hfn : s.fn H (ds ++ gs) = { results := [.lit (.bool true)], args := ds, vars := gs }) (hW : DataW.Whole enc P f.params.toList s.vars apart W args.toList ds gs before) (hb : Below W.heap.size W W') :
    s.post enc P f apart fresh handsOn false W args (.bool true) W' := by
  have hlt : ∀ p ∈ before, p.block < W.heap.size := fun p hp => hW.lt p hp
  obtain ⟨p, q, hA, hV, rfl, hz, hn⟩ := hW
  refine ⟨ds, gs, p ++ q, [], p, q, ⟨p, q, hA, hV, rfl, hz, hn⟩, ?_, ?_, ?_, World.keptBut_mono (fun x hx => ⟨hx, ?_⟩) (hb.frame _), fun h => by cases h⟩
  · rw [hfn, hrt]
    exact trodAll_mk1 (shut_bool htb _)
  · rw [hfn]
    exact trodAll_stays hl hread hA (fun x hx => hb.same (hlt x (List.mem_append_left _ hx))) (fun x hx => by simpa using hlt x (List.mem_append_left _ hx))
  · rw [hfn]
    exact Below.trodVars hl hb hvr hV
  · rcases List.mem_append.1 hx with h | h
    · exact .inr (.inl h)
    · exact .inr (.inr h)
end Go.Wk
