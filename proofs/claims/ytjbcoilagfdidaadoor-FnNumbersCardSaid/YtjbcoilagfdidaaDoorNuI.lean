/- A part of the proof of FnNumbersCardSaid. -/
import Derived.Test.YtjbcoilagfdidaaDoorNuH
/- The reference's run is that function. -/
namespace Go.Wk
open Go
namespace Unt
set_option maxRecDepth 10000

def mkS (u : Unit_) (n : Nat) (s : St) : l8Run := ⟨u, ⟨s.said, 0, 0, s.cells⟩, n, false, s.trace⟩
def stS (u : Unit_) (e : Int) (n : Nat) (s : St) : l8Run := ⟨u, ⟨s.said, e, 0, s.cells⟩, n, true, s.trace⟩
def toS (u : Unit_) : Res → Int × l8Run
  | .done v n s => (v, mkS u n s)
  | .stop e n s => (0, stS u e n s)

theorem stop_ok (u : Unit_) (e : Int) (n : Nat) (s : St) : pspec_l8Run__stop (mkS u n s) e = some (stS u e n s) := by
  unfold pspec_l8Run__stop mkS stS; simp
theorem take_succ (u : Unit_) (n : Nat) (s : St) (hn : n ≤ 60000) : pspec_l8Run__take (mkS u (n + 1) s) = some (true, mkS u n s) := by
  unfold pspec_l8Run__take mkS
  have : ¬ ((n + 1 : Nat) : Int) = 0 := by omega
  simp only [this, decide_false, Bool.false_eq_true, if_false, Option.bind_some]
  rw [w64_id (by omega) (by omega)]
  congr 3
  omega
theorem take_zero (u : Unit_) (s : St) : pspec_l8Run__take (mkS u 0 s) = some (false, stS u 3 0 s) := by
  unfold pspec_l8Run__take
  have : (mkS u 0 s).steps = 0 := rfl
  simp only [this, decide_true, if_true, stop_ok, Option.bind_some]
  rfl

theorem do_ok {op a b : Int} (h : 1 ≤ op ∧ op ≤ 10) (ha : V a) (hb : V b) : spec_l8Do op a b = some (doR op a b) := by
  have hab := mul_V ha hb
  obtain ⟨a0, a1⟩ := ha
  obtain ⟨b0, b1⟩ := hb
  unfold spec_l8Do spec_l5Two spec_l5Truth doR
  by_cases e1 : op = 1
  · simp [e1]
  by_cases e2 : op = 2
  · simp [e2]
  by_cases e10 : op = 10
  · by_cases q : a = 0 <;> simp [e10, q]
  by_cases e3 : op = 3
  · rw [w64_id (n := a + b) (by omega) (by omega)]; simp [e3]
  by_cases e4 : op = 4
  · rw [w64_id (n := a - b) (by omega) (by omega), w64_id (n := a - b + 256) (by omega) (by omega)]; simp [e4]
  by_cases e5 : op = 5
  · rw [w64_id (n := a * b) (by omega) (by omega)]; simp [e5]
  by_cases e8 : op = 8
  · by_cases q : a < b <;> simp [e8, q]
  by_cases e9 : op = 9
  · by_cases q : a = b <;> simp [e9, q]
  by_cases eb : b = 0
  · simp [e1, e2, e3, e4, e5, e8, e9, e10, eb]
  by_cases e6 : op = 6
  · have hq : (quoM a b) = some (w64 (a.tdiv b)) := by unfold quoM; simp [eb]
    have h1 : 0 ≤ a.tdiv b := Int.tdiv_nonneg a0 b0
    have h2 := Int.tdiv_le_self (a := a) b a0
    simp only [e6, hq, eb]
    rw [w64_id (n := a.tdiv b) (by omega) (by omega)]
    simp
  · have hq : (remM a b) = some (a.tmod b) := by unfold remM; simp [eb]
    simp [e1, e2, e3, e4, e5, e6, e8, e9, e10, hq, eb]

def CallEqS (u : Unit_) (k : Int) (N : Nat) (call : Nat → Int → List Int → St → Res) : Prop :=
  ∀ m k' args s, m < N → 0 ≤ k' → k' < k → (∀ v ∈ args, V v) → args.length ≤ 1048576 → GS s → s.said.length + m ≤ 200000 → s.trace.length + m + 1 ≤ 200000 →
    pspec_l8Run__code (mkS u m s) k' args = some (toS u (call m k' args s))

theorem sargsLoop {c : Code_} {regs : List Int} (hr : GR c regs) {x : Ins_} (ha : ∀ r ∈ x.args, 0 ≤ r ∧ r < c.regs) (hl : x.args.length ≤ 1048576) :
    forN (fun (i5_1 : Int) (xs5_1 : (List Int)) => (Option.bind (getI x.args i5_1) fun x5_1 => Option.bind (getI regs x5_1) fun x5_2 => Option.bind (appM xs5_1 ([x5_2] : List Int)) fun ys5_1 => some (.inl ys5_1) : Option (((List Int)) ⊕ (Empty)))) ((x.args.length : Int) - 0).toNat 0 ([] : List Int) = some (.inl (x.args.map (at_ regs))) := by
  rw [forN_loopL (xs := x.args) (fun (_ : Int) a (s : List Int) => if 0 ≤ a ∧ a < c.regs then Option.bind (appM s [at_ regs a]) fun ys => some (.inl ys) else none) (by
    intro l a r s h
    have hm := ha a (by rw [h]; simp)
    rw [if_pos hm, h, getI_mid, Option.bind_some, at_get hm.1 (by rw [hr.1]; exact hm.2)]; rfl)]
  have key : ∀ (l : List Int) (i : Int) (s : List Int), (∀ a ∈ l, 0 ≤ a ∧ a < c.regs) → s.length + l.length ≤ 1048576 → loopL (fun (_ : Int) a (s : List Int) => if 0 ≤ a ∧ a < c.regs then Option.bind (appM s [at_ regs a]) fun ys => some (Sum.inl ys) else none) l i s = some (.inl (s ++ l.map (at_ regs)) : List Int ⊕ Empty) := by
    intro l
    induction l with
    | nil => intro i s _ _; simp [loopL]
    | cons a l ih =>
      intro i s hh h
      simp only [List.length_cons] at h
      simp only [loopL, hh a (by simp), and_self, if_true, appM_ok (xs := s) (ys := [at_ regs a]) (by simp; omega), Option.bind_some]
      rw [ih _ _ (fun b hb => hh b (by simp [hb])) (by simp; omega)]
      simp
  rw [key x.args 0 [] ha (by simpa using hl)]
  simp

def toSI (u : Unit_) (rg : List Int) : RI → l8Run × List Int
  | .ok m regs s => (mkS u m s, regs)
  | .stop e m s => (stS u e m s, rg)

theorem ins_ok {u : Unit_} (hu : Ok u) {k : Int} {c : Code_} (hk : getI u.codes k = some c) {call : Nat → Int → List Int → St → Res} {x : Ins_} {n : Nat} {regs : List Int} {s : St}
    (hc : CallEqS u k (n + 1) call) (hx : IOk u k c x) (hr : GR c regs) (hs : GS s) (h1 : s.said.length + (n + 1) ≤ 200000) (h2 : s.trace.length + (n + 1) ≤ 200000) :
    ∃ rg, pspec_l8Run__ins (mkS u n s) x regs = some (toSI u rg (runI call [x] (n + 1) regs s)) := by
  rw [pspec_l8Run__ins]
  have hargs := par_small hu hk hx
  have hto : x.op ≠ 12 → x.op ≠ 13 → getI regs x.to = some (at_ regs x.to) := fun a b => at_get (hx.to a b).1 (by rw [hr.1]; exact (hx.to a b).2)
  have hreg : ∀ i : Int, 0 ≤ i → i < (x.args.length : Int) → Option.bind (getI x.args i) (fun x1_1 => Option.bind (getI regs x1_1) fun x1_2 => some x1_2) = some (at_ regs (at_ x.args i)) := fun i h0 h => by
    have ha := at_get (l := x.args) h0 h
    have := hx.args _ (List.mem_of_getElem? (getI_some.1 ha).2)
    rw [ha, Option.bind_some, at_get this.1 (by rw [hr.1]; exact this.2)]; rfl
  have hA : (if decide (0 < ((x.args.length : Int))) then Option.bind (getI x.args 0) fun x1_1 => Option.bind (getI regs x1_1) fun x1_2 => some x1_2 else some x.n_ : Option (Int)) = some (argA x regs) := by
    unfold argA
    by_cases q : 0 < x.args.length
    · rw [if_pos q, if_pos (by simpa using q), hreg 0 (by decide) (by omega)]
    · rw [if_neg q, if_neg (by simpa using q)]
  have hB : (if decide (1 < ((x.args.length : Int))) then Option.bind (getI x.args 1) fun x1_3 => Option.bind (getI regs x1_3) fun x1_4 => some x1_4 else some 0 : Option (Int)) = some (argB x regs) := by
    unfold argB
    by_cases q : 1 < x.args.length
    · rw [if_pos q, if_pos (by simp; omega), hreg 1 (by decide) (by omega)]
    · rw [if_neg q, if_neg (by simp; omega)]
  rw [hA, Option.bind_some, hB, Option.bind_some]
  have hpure : spec_l8Pure x.op = some (inB x.op 1 10) := by unfold spec_l8Pure; rw [l1In_ok]; rfl
  rw [hpure, Option.bind_some]
  by_cases e14 : x.op = 14
  · simp only [runI, effI_14 regs s e14]
    have hp : inB x.op 1 10 = false := by rw [e14]; rfl
    rw [hp, sargsLoop hr hx.args (by omega)]
    obtain ⟨c1, c2, c3⟩ := hx.call e14
    have := hc n x.n_ (x.args.map (at_ regs)) s (by omega) c1 c2 (fun v hv => by
      obtain ⟨a, _, rfl⟩ := List.mem_map.1 hv
      exact at_V hr.2 _) (by simp; omega) hs (by omega) (by omega)
    simp only [Bool.false_eq_true, if_false, e14, show decide ((14 : Int) = 13) = false by decide, decide_true, if_true, Option.bind_some, Sum.elim_inl, this, hto (by omega) (by omega)]
    cases call n x.n_ (x.args.map (at_ regs)) s with
    | done v m s' => exact ⟨[], rfl⟩
    | stop e m s' => exact ⟨regs.set x.to.toNat 0, rfl⟩
  obtain ⟨va, vb⟩ := arg_V hr hx e14
  have hpl := hx.plain e14
  have hop := hx.op
  refine ⟨regs, ?_⟩
  simp only [runI]
  unfold effI
  by_cases q1 : inB x.op 1 10 = true
  · have hop2 := inB_iff.1 q1
    rw [if_pos q1, if_pos q1, do_ok hop2 va vb, Option.bind_some]
    by_cases q2 : (doR x.op (argA x regs) (argB x regs)).2 = 0
    · simp only [q2, ne_eq, not_true_eq_false, decide_false, Bool.false_eq_true, if_false, if_true, hto (by omega) (by omega), Option.bind_some, Sum.elim_inl]
      rfl
    · simp only [q2, ne_eq, not_false_eq_true, decide_true, if_true, if_false, stop_ok, Option.bind_some, Sum.elim_inr]
      rfl
  rw [Bool.not_eq_true] at q1
  rw [q1]
  simp only [Bool.false_eq_true, if_false]
  by_cases e13 : x.op = 13
  · have happ := appM_ok (xs := s.said) (ys := [argA x regs]) (by simp; omega)
    have : (mkS u n s).out.said = s.said := rfl
    simp only [e13, decide_true, if_true, this, happ, Option.bind_some, Sum.elim_inl]
    rfl
  simp only [e13, e14, decide_false, Bool.false_eq_true, if_false]
  by_cases q3 : 16 ≤ argA x regs
  · simp only [q3, decide_true, if_true, stop_ok, Option.bind_some, Sum.elim_inl]
    rfl
  simp only [q3, decide_false, Bool.false_eq_true, if_false]
  have hcell : getI (mkS u n s).out.cells (argA x regs) = some (at_ s.cells (argA x regs)) := at_get va.1 (by
    have : (mkS u n s).out.cells.length = 16 := hs.1
    omega)
  by_cases e11 : x.op = 11
  · simp only [e11, decide_true, if_true, hcell, hto (by omega) (by omega), Option.bind_some, Sum.elim_inl]
    rfl
  · simp only [e11, decide_false, Bool.false_eq_true, if_false, hcell, Option.bind_some, Sum.elim_inl]
    rfl
end Unt
end Go.Wk
