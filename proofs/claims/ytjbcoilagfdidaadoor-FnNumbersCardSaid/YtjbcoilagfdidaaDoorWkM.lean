/- A part of a proof: general laws of walks, no statement of the seat. -/
/- Regions that draw among several effects: a tree of orders. -/
import Derived.Test.YtjbcoilagfdidaaDoorWkL
namespace Go.Wk
open Go Go.RowKit

inductive Ord
  | fin
  | q (i : Nat) (t : Ord)
  | p (i : Nat) (t : Ord)
  | e (i : Nat) (t : Ord) (more : Ord)
  | nil

def Ord.choices : Ord → List Nat
  | .e i _ more => i :: more.choices
  | _ => []

/-- q: yields in every world that meets S; p: yields in every world; e: one of those that can come up. -/
def okT (md : Region.Mode) (ops : Array Oper) (ns ps : List Nat) : Ord → Nat → Bool → Array Bool → Bool
  | .fin, fuel, first, listed => first && fuel == 0 && (Region.ready md ops listed).isEmpty
  | .q _ _, 0, _, _ => false
  | .q i t, fuel + 1, first, listed => first && (Region.free md ops listed i && (Region.ready md ops listed).contains i &&
      ((List.range ops.size).all fun j => j == i || ns.contains j || ps.contains j || depN md ops ops.size j i || depN md ops ops.size i j)) && okT md ops ns ps t fuel true (listed.setIfInBounds i true)
  | .p _ _, 0, _, _ => false
  | .p i t, fuel + 1, first, listed => first && (Region.free md ops listed i && (Region.ready md ops listed).contains i && !ns.contains i) && okT md ops ns ps t fuel true (listed.setIfInBounds i true)
  | .e _ _ _, 0, _, _ => false
  | .e i t more, fuel + 1, first, listed => (!first || Region.ready md ops listed == i :: more.choices) && !ps.contains i && okT md ops ns ps t fuel true (listed.setIfInBounds i true) && okT md ops ns ps more (fuel + 1) false listed
  | .nil, _, first, _ => !first

section
variable {P : Program} {ops : Array Oper} {Q : Exit → Act → World → Prop} {md : Region.Mode} {S : World → Prop} {ns ps : List Nat}

/-- Whatever order is picked; behind the operations of ns the condition S holds, those of ps leave the world. -/
def wpAnyQ (P : Program) (md : Region.Mode) (ops : Array Oper) (Q : Exit → Act → World → Prop) (S : World → Prop) (ns ps : List Nat) : Nat → Array Bool → Act → World → Prop
  | 0, listed, a, w => Region.ready md ops listed = [] ∧ Q .normal a w
  | fuel + 1, listed, a, w =>
    (Region.ready md ops listed = [] → Q .normal a w) ∧
    ∀ i ∈ Region.ready md ops listed, wpOp P ops Q i (fun a' w' => ((ns.contains i = true → S w') ∧ (ps.contains i = true → w' = w)) ∧ wpAnyQ P md ops Q S ns ps fuel (listed.setIfInBounds i true) a' w') a w

theorem wpAny_of_Q : ∀ (fuel : Nat) (listed : Array Bool) (a : Act) (w : World), wpAnyQ P md ops Q S ns ps fuel listed a w → wpAny P md ops Q fuel listed a w
  | 0, _, _, _, h => h
  | fuel + 1, _, _, _, h => ⟨h.1, fun i hi => wpOp_mono (fun a' w' h' => wpAny_of_Q fuel _ a' w' h'.2) (h.2 i hi)⟩

theorem wpAnyQ_first {i : Nat} {oi : Oper} {v : Value} {S0 : World → Prop} (hi : ops[i]? = some oi) (hsel : ∀ (j : Nat) (o : Oper) cs b, ops[j]? = some o → o.op ≠ .select cs b)
    (hQ : ∀ c a w, Q (.panic c) (a.put oi.dst v) w → Q (.panic c) a w)
    (hnext : ∀ w, S0 w → ns.contains i = true → S w)
    (hns : ∀ j oj, ops[j]? = some oj → j ≠ i → (∀ n, depN md ops n j i = false) → (∀ n, depN md ops n i j = false) → ∀ w w', S0 w → (ns.contains j = true → S w') → (ps.contains j = true → w' = w) → S0 w') :
    ∀ (fuel : Nat) (listed : Array Bool) (a : Act) (w : World), Closed md ops listed →
      (∀ j oj, ops[j]? = some oj → j ≠ i → listed.getD j true = false → (∀ e ∈ oj.after, Region.binds md e = true → e.on ≠ i) → oi.apart ops oj = true) →
      i ∈ Region.ready md ops listed → YieldsIf P ops S0 oi v a → S0 w →
      wpAnyQ P md ops Q S ns ps fuel (listed.setIfInBounds i true) (a.put oi.dst v) w → wpAnyQ P md ops Q S ns ps (fuel + 1) listed a w := by
  intro fuel
  induction fuel with
  | zero =>
    intro listed a w _ _ hr hy hS H
    refine ⟨fun h => (by rw [h] at hr; cases hr), fun j hj => ?_⟩
    by_cases hji : j = i
    · subst hji; exact hy.wpOp hi hS ⟨⟨hnext w hS, fun _ => rfl⟩, H⟩
    · have := ready_mono hj hji
      rw [H.1] at this
      cases this
  | succ fuel ih =>
    intro listed a w hcl hfree hr hy hS H
    refine ⟨fun h => (by rw [h] at hr; cases hr), fun j hj => ?_⟩
    by_cases hji : j = i
    · subst hji; exact hy.wpOp hi hS ⟨⟨hnext w hS, fun _ => rfl⟩, H⟩
    · have h1 := H.2 j (ready_mono hj hji)
      obtain ⟨hjun, oj, hoj, hall⟩ := mem_ready.1 hj
      have hnot : ∀ e ∈ oj.after, Region.binds md e = true → e.on ≠ i := fun e he hb heq => by
        have h1 := hall e he hb
        have h0 := (mem_ready.1 hr).1
        rw [heq] at h1
        rcases Nat.lt_or_ge i listed.size with h' | h'
        · simp [h'] at h0 h1; rw [h0] at h1; cases h1
        · simp [Array.getElem?_eq_none h'] at h1
      have hin := hns j oj hoj hji (fun m => by
        cases hd : depN md ops m j i with
        | false => rfl
        | true =>
          have h1 := dep_listed hcl m j i (fun ok hok e he hb => by
            rw [hoj] at hok
            simp only [Option.some.injEq] at hok
            subst hok
            exact hall e he hb) hd
          have h0 := (mem_ready.1 hr).1
          rcases Nat.lt_or_ge i listed.size with h' | h'
          · simp [h'] at h0 h1; rw [h0] at h1; cases h1
          · simp [Array.getElem?_eq_none h'] at h1) (fun m => by
        cases hd : depN md ops m i j with
        | false => rfl
        | true =>
          obtain ⟨_, oi', hoi', hall'⟩ := mem_ready.1 hr
          have h1 := dep_listed hcl m i j (fun ok hok e he hb => by
            rw [hoi'] at hok
            simp only [Option.some.injEq] at hok
            subst hok
            exact hall' e he hb) hd
          rcases Nat.lt_or_ge j listed.size with h' | h'
          · simp [h'] at hjun h1; rw [hjun] at h1; cases h1
          · simp [Array.getElem?_eq_none h'] at h1)
      have h2 := wpOp_putIf hoj (hfree j oj hoj hji hjun hnot) (fun cs b => hsel i oi cs b hi) (fun cs b => hsel j oj cs b hoj) hQ hy h1
      have hfree' : ∀ k ok, ops[k]? = some ok → k ≠ i → (listed.setIfInBounds j true).getD k true = false →
          (∀ e ∈ ok.after, Region.binds md e = true → e.on ≠ i) → oi.apart ops ok = true := fun k ok hk hki hun hno => by
        refine hfree k ok hk hki ?_ hno
        by_cases hjk : j = k
        · subst hjk; exact hjun
        · rw [getD_set_ne true hjk] at hun; exact hun
      refine wpOp_mono (fun a' w' h3 => ⟨h3.2.1, ih (listed.setIfInBounds j true) a' w' (closed_set hcl hj) hfree' (ready_mono hr (Ne.symm hji)) h3.1 (hin w w' hS h3.2.1.1 h3.2.1.2) ?_⟩) h2
      rw [Array.setIfInBounds_comm _ _ hji]
      exact h3.2.2

def wpT (P : Program) (ops : Array Oper) (S : World → Prop) (ns : List Nat) (Q : Exit → Act → World → Prop) : Ord → Act → World → Prop
  | .fin, a, w => Q .normal a w
  | .q i t, a, w => ∃ o v, ops[i]? = some o ∧ YieldsIf P ops S o v a ∧ S w ∧ wpT P ops S ns Q t (a.put o.dst v) w
  | .p i t, a, w => ∃ o v, ops[i]? = some o ∧ YieldsIf P ops (fun _ => True) o v a ∧ wpT P ops S ns Q t (a.put o.dst v) w
  | .e i t more, a, w => wpOp P ops Q i (fun a' w' => (ns.contains i = true → S w') ∧ wpT P ops S ns Q t a' w') a w ∧ wpT P ops S ns Q more a w
  | .nil, _, _ => True

theorem put_defers (a : Act) (d : Option Nat) (v : Value) : (a.put d v).defers = a.defers := by cases d <;> rfl

theorem wpAnyQ_of_T (hs : Region.noSelect ops = true) (hQ : ∀ c (a a' : Act) w, a.defers = a'.defers → Q (.panic c) a w → Q (.panic c) a' w) : ∀ (t : Ord) (fuel : Nat) (listed : Array Bool) (a : Act) (w : World), Closed md ops listed →
    (okT md ops ns ps t fuel true listed = true → wpT P ops S ns Q t a w → wpAnyQ P md ops Q S ns ps fuel listed a w) ∧
    (∀ f, fuel = f + 1 → okT md ops ns ps t fuel false listed = true → wpT P ops S ns Q t a w → (∀ j ∈ t.choices, j ∈ Region.ready md ops listed) →
      ∀ j ∈ t.choices, wpOp P ops Q j (fun a' w' => ((ns.contains j = true → S w') ∧ (ps.contains j = true → w' = w)) ∧ wpAnyQ P md ops Q S ns ps f (listed.setIfInBounds j true) a' w') a w) := by
  intro t
  induction t with
  | fin =>
    intro fuel listed a w hcl
    refine ⟨fun h hw => ?_, fun f hf h => by simp [okT] at h⟩
    simp only [okT, Bool.true_and, Bool.and_eq_true, beq_iff_eq, List.isEmpty_iff] at h
    obtain ⟨rfl, h⟩ := h
    exact ⟨h, hw⟩
  | nil =>
    intro fuel listed a w hcl
    exact ⟨fun h => by simp [okT] at h, fun f hf h hw hr j hj => by simp [Ord.choices] at hj⟩
  | q i t ih =>
    intro fuel listed a w hcl
    cases fuel with
    | zero => exact ⟨fun h => by simp [okT] at h, fun f hf h => by simp [okT] at h⟩
    | succ fuel =>
      refine ⟨fun h hw => ?_, fun f hf h => by simp [okT] at h⟩
      obtain ⟨o, v, ho, hy, hS, hw⟩ := hw
      simp only [okT, Bool.true_and, Bool.and_eq_true] at h
      obtain ⟨⟨⟨h1, h2⟩, h3⟩, h4⟩ := h
      refine wpAnyQ_first ho (Region.noSelect_spec hs) (fun c a w h => hQ c _ _ w (put_defers _ _ _) h) (fun w h _ => h) ?_ fuel listed a w hcl (Region.free_spec ho h1) (by simpa using h2) hy hS ((ih fuel _ _ w (closed_set hcl (by simpa using h2))).1 h4 hw)
      intro j oj hj hji hno hno2 w w' hSw hn hp
      rw [List.all_eq_true] at h3
      have hlt : j < ops.size := (Array.getElem?_eq_some_iff.1 hj).1
      have := h3 j (List.mem_range.2 hlt)
      simp only [Bool.or_eq_true, beq_iff_eq] at this
      rcases this with (((h | h) | h) | h) | h
      · exact absurd h hji
      · exact hn h
      · rw [hp h]; exact hSw
      · rw [hno] at h
        cases h
      · rw [hno2] at h
        cases h
  | p i t ih =>
    intro fuel listed a w hcl
    cases fuel with
    | zero => exact ⟨fun h => by simp [okT] at h, fun f hf h => by simp [okT] at h⟩
    | succ fuel =>
      refine ⟨fun h hw => ?_, fun f hf h => by simp [okT] at h⟩
      obtain ⟨o, v, ho, hy, hw⟩ := hw
      simp only [okT, Bool.true_and, Bool.and_eq_true, Bool.not_eq_true'] at h
      obtain ⟨⟨⟨h1, h2⟩, h3⟩, h4⟩ := h
      exact wpAnyQ_first (S0 := fun _ => True) ho (Region.noSelect_spec hs) (fun c a w h => hQ c _ _ w (put_defers _ _ _) h) (fun w _ hn => by rw [h3] at hn; cases hn) (fun _ _ _ _ _ _ _ _ _ _ _ => trivial) fuel listed a w hcl (Region.free_spec ho h1) (by simpa using h2) hy trivial ((ih fuel _ _ w (closed_set hcl (by simpa using h2))).1 h4 hw)
  | e i t more ih1 ih2 =>
    intro fuel listed a w hcl
    cases fuel with
    | zero => exact ⟨fun h => by simp [okT] at h, fun f hf h => by simp [okT] at h⟩
    | succ fuel =>
      have chain : ∀ first, okT md ops ns ps (.e i t more) (fuel + 1) first listed = true → wpT P ops S ns Q (.e i t more) a w → (∀ j ∈ i :: more.choices, j ∈ Region.ready md ops listed) →
          ∀ j ∈ i :: more.choices, wpOp P ops Q j (fun a' w' => ((ns.contains j = true → S w') ∧ (ps.contains j = true → w' = w)) ∧ wpAnyQ P md ops Q S ns ps fuel (listed.setIfInBounds j true) a' w') a w := by
        intro first h hw hr j hj
        simp only [okT, Bool.and_eq_true, Bool.not_eq_true'] at h
        obtain ⟨⟨⟨_, h1⟩, h2⟩, h3⟩ := h
        rcases List.mem_cons.1 hj with rfl | hj
        · exact wpOp_mono (fun a' w' h' => ⟨⟨h'.1, fun hp => by rw [h1] at hp; cases hp⟩, (ih1 fuel _ a' w' (closed_set hcl (hr j List.mem_cons_self))).1 h2 h'.2⟩) hw.1
        · exact (ih2 (fuel + 1) listed a w hcl).2 fuel rfl h3 hw.2 (fun k hk => hr k (List.mem_cons_of_mem _ hk)) j hj
      refine ⟨fun h hw => ?_, fun f hf h hw hr j hj => ?_⟩
      · have h0 := h
        simp only [okT, Bool.not_true, Bool.false_or, Bool.and_eq_true, beq_iff_eq] at h0
        obtain ⟨⟨⟨h1, _⟩, _⟩, _⟩ := h0
        refine ⟨fun h0 => (by rw [h0] at h1; cases h1), fun j hj => ?_⟩
        have hj' : j ∈ i :: more.choices := by rw [← h1]; exact hj
        exact chain true h hw (fun k hk => by rw [h1]; exact hk) j hj'
      · obtain rfl : fuel = f := by omega
        exact chain false h hw hr j hj

def treeOk (ops : Array Oper) (ns ps : List Nat) (t : Ord) : Bool :=
  Region.noSelect ops && okT .any ops ns ps t ops.size true (Array.replicate ops.size false)

/-- The walk of a region that draws. -/
theorem wp_tree {id : Nat} {a : Act} {w : World} (t : Ord) (ns ps : List Nat) (S : World → Prop) (hm : P.follows .mixedOrders = true) (ht : treeOk ops ns ps t = true) (hQ : ∀ c a w, ¬ Q (.panic c) a w)
    (h : wpT P ops S ns Q t a w.drew) : (Code.region id ops true).wp P Q a w := by
  simp only [treeOk, Bool.and_eq_true] at ht
  obtain ⟨h1, h3⟩ := ht
  refine wp_region_any hm (wpAny_of_Q (S := S) (ns := ns) (ps := ps) _ _ _ _ ?_)
  exact (wpAnyQ_of_T h1 (fun c a a' w _ h => (hQ c a w h).elim) t _ _ a _ (fun k hk => by
    rw [Array.getD_eq_getD_getElem?, Array.getElem?_replicate] at hk
    split at hk <;> simp at hk)).1 h3 h

/-- The same, where a panic may leave the region. -/
theorem wp_treeX {id : Nat} {a : Act} {w : World} (t : Ord) (ns ps : List Nat) (S : World → Prop) (hm : P.follows .mixedOrders = true) (ht : treeOk ops ns ps t = true) (hQ : ∀ c (a a' : Act) w, a.defers = a'.defers → Q (.panic c) a w → Q (.panic c) a' w)
    (h : wpT P ops S ns Q t a w.drew) : (Code.region id ops true).wp P Q a w := by
  simp only [treeOk, Bool.and_eq_true] at ht
  obtain ⟨h1, h3⟩ := ht
  refine wp_region_any hm (wpAny_of_Q (S := S) (ns := ns) (ps := ps) _ _ _ _ ?_)
  exact (wpAnyQ_of_T h1 hQ t _ _ a _ (fun k hk => by
    rw [Array.getD_eq_getD_getElem?, Array.getElem?_replicate] at hk
    split at hk <;> simp at hk)).1 h3 h

variable {a : Act} {w : World} {o : Oper} {n : Nat} {l : Env} {d i : Nat} {v : Value} {R : Value → World → Prop} {t more : Ord}

end
end Go.Wk
