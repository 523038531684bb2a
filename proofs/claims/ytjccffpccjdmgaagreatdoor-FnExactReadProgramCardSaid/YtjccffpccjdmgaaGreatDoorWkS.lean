/- A part of a proof: general laws of walks, no statement of the seat. -/
import Derived.Test.YtjccffpccjdmgaaGreatDoorWkN
import Derived.Test.YtjccffpccjdmgaaGreatDoorWkA
import Derived.ProofKit
import Derived.SizedLaws
import Derived.Deep.Slices
import Derived.Deep.Fields
import Derived.JoinedCond
namespace Go.Wk
open Go
end Go.Wk
namespace Go.Wk
open Go Go.ChangeShapes Go.WideShapes Go.Deep Go.RowKit
def Opn (P : Program) (α : Type) [GT α] (R : α → Prop) (t : TypeId) : Prop :=
  ∀ (H : Type) (enc : TypeId × Value → H) (w : World) (base : Nat) (spare : Nat → Bool) (held : Bool) (fuel : Nat) (cs : List Value) (d : DataW H) (ps : List MemPlace),
    DataW.trod enc P w base spare held fuel t cs = some (d, ps) → (∀ n ∈ d.weights P t, n ≤ reachBytes) → ∃ m : α, GT.rep (hp w) cs m ∧ R m
section
variable {P : Program} {t e : TypeId}
theorem op_str (ht : P.underlying t = some .string) : Opn P Str (fun s => s.b.length ≤ 140737488351232) t := by
  intro H enc w base spare held fuel cs d ps h hw
  cases fuel with
  | zero => simp [DataW.trod] at h
  | succ fuel =>
    unfold DataW.trod at h
    rw [ht] at h
    match cs, h with
    | [.string s], h =>
      simp only at h
      split at h
      · simp only [Option.some.injEq, Prod.mk.injEq] at h
        obtain ⟨rfl, rfl⟩ := h
        have hl : s.data.toList.length ≤ 140737488351232 := hw s.data.toList.length (by simp [DataW.weights])
        refine ⟨⟨s.data.toList, by omega⟩, ?_, hl⟩
        show [Value.string s] = [.string ⟨s.data.toList.toArray⟩]
        simp
      · cases h
theorem weights_mem {H : Type} {ds : List (DataW H)} {d : DataW H} (hd : d ∈ ds) : ∀ n ∈ d.weights P e, n ∈ DataW.weightsAll P e ds := by
  induction ds with
  | nil => cases hd
  | cons x r ih =>
    intro n hn
    rw [DataW.weightsAll, List.mem_append]
    rcases List.mem_cons.1 hd with rfl | h
    · exact .inl hn
    · exact .inr (ih h n hn)
section
variable {α β : Type} [GT α] [GT β] {R : α → Prop} {R2 : β → Prop}
def OpF (P : Program) (fs : List Field) (α : Type) [GT α] (R : α → Prop) (off : Nat) : Prop :=
  ∀ (H : Type) (enc : TypeId × Value → H) (w : World) (base : Nat) (spare : Nat → Bool) (held : Bool) (n : Nat) (cs : List Value) (xs : List (DataW H × List MemPlace)),
    xs.length = fs.length → (∀ (j : Nat) (f : Field), fs[j]? = some f → DataW.trod enc P w base spare held n f.type ((cs.drop f.offset).take (P.cellsOf f.type)) = xs[j]?) →
    (∀ n ∈ DataW.weightsEach P (fs.map (·.type)) (xs.map (·.1)), n ≤ reachBytes) → cs.length = off + GT.sz α → ∃ m : α, GT.rep (hp w) (cs.drop off) m ∧ R m
end
section
variable {H : Type} {enc : TypeId × Value → H} {w w' : World} {base b0 : Nat} {spare sp : Nat → Bool} {held : Bool} {d : DataW H} {ps : List MemPlace} {v : Value} {r : Reach}
variable {α : Type} [GT α] {R : α → Prop}
theorem arg_cells (hu : match P.underlying t with | some (.struct _) | some (.array _ _) => False | _ => True) (hv : Value.okWide P w r b0 t v) : v.cells.toList = [v] := by
  cases v <;> try rfl
  rename_i cs
  exfalso
  unfold Value.okWide at hv
  split at hv
  · rename_i h; rw [h] at hu; exact hu
  · rename_i h; rw [h] at hu; exact hu
  · revert hv
    simp only [Cell.okWide]
    cases P.underlying t with
    | none => simp [Cell.ok]
    | some d => cases d <;> simp [Cell.ok]
theorem op_arg (ho : Opn P α R t) (h : DataW.Trod enc P w base spare held t v d ps) (hw : ∀ n ∈ d.weights P t, n ≤ reachBytes) : ∃ m : α, GT.rep (hp w) v.cells.toList m ∧ R m := by
  obtain ⟨fuel, h⟩ := h
  exact ho H enc w base spare held fuel _ d ps h hw
theorem trodAll_stays (hl : laidOutB P = true) {ts : List TypeId} (hread : ∀ t ∈ ts, P.readableRec t = true ∧ t < P.types.size) : ∀ {vs : List Value} {ds : List (DataW H)} {ps : List MemPlace},
    DataW.TrodAll enc P w 0 (fun _ => true) true ts vs ds ps → (∀ p ∈ ps, w.sameAt w' p) → (∀ p ∈ ps, sp p.block = true) → DataW.TrodAll enc P w' 0 sp true ts vs ds ps := by
  induction ts with
  | nil =>
    intro vs ds ps h _ _
    obtain ⟨rfl, rfl, rfl⟩ := trodAll_nil h
    exact rfl
  | cons t ts ih =>
    intro vs ds ps h hs hsp
    obtain ⟨v, vs1, d, ds1, a, b, rfl, rfl, rfl, h1, h2⟩ := trodAll_cons h
    have hr := hread t List.mem_cons_self
    exact ⟨a, b, WideElems.Trod_stays hl hr.1 hr.2 h1 (fun p hp => hs p (List.mem_append_left _ hp)) (fun p hp => hsp p (List.mem_append_left _ hp)),
      ih (fun t ht => hread t (List.mem_cons_of_mem _ ht)) h2 (fun p hp => hs p (List.mem_append_right _ hp)) (fun p hp => hsp p (List.mem_append_right _ hp)), rfl⟩
end
end
end Go.Wk
namespace Go.Wk
open Go Go.WideShapes Go.ChangeShapes Go.RowKit
def jf1 (P : Program) (f : FuncId) (fn : Func) (s : ChangeSpec) (c : OpenClaim) : Bool := c.wf (OpenSpec.ofChange s) && laidOutB P && mapsRowed P && fn.params.all (P.readableRec ·) && namedTie P c.named s.vars && (c.stops == []) && (P.stops == []) && (c.knobs == []) && (P.stopKnobs == [])
def jf2 (P : Program) (f : FuncId) (fn : Func) (s : ChangeSpec) (c : OpenClaim) : Bool := (c.inPlace == P.inPlace f) && (c.unfollowed == P.unfollowed f) && (c.recurses == P.recurses f) && (c.named == P.varsNamed f)
def jf3 (P : Program) (f : FuncId) (fn : Func) (s : ChangeSpec) (c : OpenClaim) : Bool := (c.maps == (fn.params.toList ++ s.plain.varTypes P).any (P.mapsRec ·)) && (c.ifaces == (fn.params.toList ++ s.plain.varTypes P).any (P.ifacesRec ·)) && (c.mapsOut == P.mapsAmong fn.resultTypes.toList) && (c.loops == (fn.params.toList ++ s.plain.varTypes P).any (P.loopsFrom ·)) && (c.wideKeys == (fn.params.toList ++ s.plain.varTypes P ++ fn.resultTypes.toList).any (P.wideKeysFrom ·)) && s.vars.all (P.varReadable ·) && fn.resultTypes.all (fun t => P.readableRec t && decide (t < P.types.size)) && (c.ifacesOut == fn.resultTypes.toList.any (P.ifacesRec ·)) && (c.loopsOut == fn.resultTypes.toList.any (P.loopsFrom ·)) && (c.plainKeys == P.plainKeys) && c.shortTexts.isNone
def jf4 (P : Program) (f : FuncId) (fn : Func) (s : ChangeSpec) (c : OpenClaim) : Bool := P.stopsHeard
def jf5 (P : Program) (f : FuncId) (fn : Func) (s : ChangeSpec) (c : OpenClaim) : Bool := P.mayEnter && (c.lifted == P.liftsFinal)
def jf6 (P : Program) (f : FuncId) (fn : Func) (s : ChangeSpec) (c : OpenClaim) : Bool := (P.make == some c.make) && (c.kinds == (if c.domain.isEmpty then [] else fn.params.toList.map fun t => match P.underlying t with | some (.int k) => some k | _ => none)) && (c.pinned == c.pinnedBy) && (c.veiled == (fn.params.toList ++ s.plain.varTypes P ++ fn.resultTypes.toList).any (P.veiledRec ·)) && c.veiledFits P fn.params.toList (fn.params.toList ++ s.plain.varTypes P ++ fn.resultTypes.toList)
end Go.Wk
namespace Go.Wk
open Go Lean.Order
theorem le_opt {α : Type} {a b : Option α} : PartialOrder.rel a b ↔ ∀ x, a = some x → b = some x := by
  constructor
  · intro h
    change FlatOrder.rel (b := none) a b at h
    cases h with
    | bot => intro x hx; cases hx
    | refl => exact fun _ h => h
  · intro h
    change FlatOrder.rel (b := none) a b
    cases a with
    | none => exact .bot
    | some x => rw [h x rfl]; exact .refl
universe u
variable {γ : Type u} [PartialOrder γ] {α β S X : Type}
@[partial_fixpoint_monotone]
theorem mono_obind (f : γ → Option α) (g : γ → α → Option β) (hf : monotone f) (hg : monotone g) : monotone fun x => Option.bind (f x) (g x) := fun x y h => le_opt.2 fun z hz => by
  obtain ⟨a, h1, h2⟩ := Option.bind_eq_some_iff.1 hz
  exact Option.bind_eq_some_iff.2 ⟨a, le_opt.1 (hf x y h) a h1, le_opt.1 (hg x y h a) z h2⟩
@[partial_fixpoint_monotone]
theorem mono_sumElim {A B : Type} (f : γ → A → Option β) (g : γ → B → Option β) (hf : monotone f) (hg : monotone g) : monotone fun x => Sum.elim (f x) (g x) := fun x y h s => by
  cases s with
  | inl a => exact hf x y h a
  | inr b => exact hg x y h b
@[partial_fixpoint_monotone]
theorem mono_oelim (o : Option α) (f : γ → Option β) (g : γ → α → Option β) (hf : monotone f) (hg : monotone g) : monotone fun x => Option.elim o (f x) (g x) := fun x y h => by
  cases o with
  | none => exact hf x y h
  | some a => exact hg x y h a
theorem forN_le {b1 b2 : Int → S → Option (S ⊕ X)} (h : ∀ i s z, b1 i s = some z → b2 i s = some z) : ∀ (k : Nat) (i : Int) (s : S) (z : S ⊕ X), forN b1 k i s = some z → forN b2 k i s = some z := by
  intro k
  induction k with
  | zero => intro i s z hz; exact hz
  | succ k ih =>
    intro i s z hz
    cases hb : b1 i s with
    | none => rw [forN] at hz; simp [hb] at hz
    | some r =>
      cases r with
      | inl s' => rw [forN_inl (h _ _ _ hb)]; rw [forN_inl hb] at hz; exact ih _ _ _ hz
      | inr x => rw [forN_inr (h _ _ _ hb)]; rw [forN_inr hb] at hz; exact hz
@[partial_fixpoint_monotone]
theorem mono_forN (f : γ → Int → S → Option (S ⊕ X)) (k : Nat) (i : Int) (s : S) (hf : monotone f) : monotone fun x => forN (f x) k i s := fun x y h =>
  le_opt.2 (forN_le (fun i s z hz => le_opt.1 (hf x y h i s) z hz) k i s)
theorem loopN_le {b1 b2 : S → Option (S ⊕ X)} (h : ∀ s z, b1 s = some z → b2 s = some z) : ∀ (n : Nat) (s : S) (z : X), loopN b1 n s = some z → loopN b2 n s = some z := by
  intro n
  induction n with
  | zero => intro s z hz; exact hz
  | succ n ih =>
    intro s z hz
    simp only [loopN] at hz ⊢
    cases hb : b1 s with
    | none => simp [hb] at hz
    | some r =>
      rw [h _ _ hb]
      cases r with
      | inl s' => simp only [hb] at hz ⊢; exact ih _ _ hz
      | inr x => simp only [hb] at hz ⊢; exact hz
@[partial_fixpoint_monotone]
theorem mono_loopM (f : γ → S → Option (S ⊕ X)) (s : S) (hf : monotone f) : monotone fun x => loopM (f x) s := fun x y h =>
  le_opt.2 fun z hz => by
    obtain ⟨n, hn⟩ := loopM_eq.1 hz
    exact loopM_eq.2 ⟨n, loopN_le (fun s z hz => le_opt.1 (hf x y h s) z hz) n s z hn⟩
section
variable {P : Program} {l : Env} {w : World} {o : Oper} {x : Operand} {t : TypeId} {i : Int}
theorem y_neg (ho : o.op = .unOp .neg t x) (hx : ev l x = some (.int .i64 i)) : Yl P l w o (.int .i64 (w64 (0 - i))) := fun n a hf => by
  simp [execOp, ho, hf.eval hx, Op.unary, Op.intArith, w64]
end
end Go.Wk
namespace Go.Wk
open Go Go.RowKit
def RtX (R : Value → World → Prop) (X : List PanicEntry → World → Prop) : Ending → World → Prop
  | .returned v, w => R v w
  | .panicked c, w => X c w
  | .outgrown, _ => False
def EfX (P : Program) (a : Act) (w : World) (o : Oper) (R : Value → World → Prop) (X : List PanicEntry → World → Prop) : Prop :=
  ∀ (K : Act → World → Prop) (Q : Exit → Act → World → Prop), (∀ v w', R v w' → K (a.put o.dst v) w') → (∀ c w', X c w' → Q (.panic c) a w') → o.wp P a w K Q
def ConX (P : Program) (f : FuncId) (args : List Value) (w : World) (R : Value → World → Prop) (X : List PanicEntry → World → Prop) : Prop := Calls P f args.toArray w (RtX R X)
def pch (T : TypeId) (e : Int) : List PanicEntry := [{ v := .iface T (.int .i64 e), recovered := false }]
section
variable {P : Program} {ops : Array Oper} {Q : Exit → Act → World → Prop} {a : Act} {w : World} {rest : List Oper} {o : Oper} {n : Nat} {l : Env} {d : Nat} {v : Value} {R : Value → World → Prop} {X : List PanicEntry → World → Prop}
section
variable {S : World → Prop} {ns : List Nat} {t : Ord} {i : Nat}
end
end
def encA (n : Nat) (arr : List Int) : List Value := (List.range n).map fun j => .int .i64 (arr.getD j 0)
def setA (n : Nat) (arr : List Int) (i : Nat) (x : Int) : List Int := (List.range n).map fun j => if j = i then x else arr.getD j 0
def idxA (n : Nat) (i : Int) : Option Int := if 0 ≤ i ∧ i.toNat < n then some i else none
section
variable {P : Program} {a : Act} {w w0 : World} {hz : Heap} {L : List Ch} {o : Oper} {n n' : Nat} {l : Env} {v : Value} {x y : Operand} {t e T : TypeId} {i : Int} {arr : List Int} {pre post : List Value} {b : Nat} {k : IntKind}
def normA (n : Nat) (arr : List Int) : List Int := (List.range n).map fun j => arr.getD j 0
theorem y_slcArr {b off : Nat} (ht : P.underlying t = some (.array n e)) (ho : o.op = .slice t x none none none) (hx : ev l x = some (.pointer (some ⟨b, off, none⟩))) (hs : ∀ w, (sizeOf e).run P w = .ok 1 w) :
    Yl P l w o (.slice (some ⟨b, off, none⟩) n n) := fun nn a hf => by
  by_cases h : n = 0
  · subst h
    simp [execOp, ho, hf.eval hx, Instr.sliceAt, run_underlying ht, Instr.sureAddr, Instr.sliceBounds, Instr.sliceBound, hs]
  · simp [execOp, ho, hf.eval hx, Instr.sliceAt, run_underlying ht, Instr.sureAddr, Instr.sliceBounds, Instr.sliceBound, hs, h, add_none]
end
section
open Lean.Order
universe u
variable {γ : Type u} [PartialOrder γ] {β : Type}
@[partial_fixpoint_monotone]
theorem mono_sumElimA {A B : Type} (f : γ → A → Option β) (g : γ → B → Option β) (s : A ⊕ B) (hf : monotone f) (hg : monotone g) : monotone fun x => Sum.elim (f x) (g x) s := fun x y h => by
  cases s with
  | inl a => exact hf x y h a
  | inr b => exact hg x y h b
end
end Go.Wk
