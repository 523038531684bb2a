/- A part of the proof of FnNumbersCardSaid. -/
import Derived.Test.YtjbcoilagfdidaaDoorNuC
/- What a run of a unit is: a plain function. -/
namespace Go.Wk
open Go
namespace Unt
set_option maxRecDepth 10000

structure St where
  said : List Int
  cells : List Int
  trace : List Int

inductive Res
  | done (v : Int) (n : Nat) (s : St)
  | stop (e : Int) (n : Nat) (s : St)
inductive RI
  | ok (n : Nat) (regs : List Int) (s : St)
  | stop (e : Int) (n : Nat) (s : St)

def at_ (l : List Int) (i : Int) : Int := l.getD i.toNat 0
def argA (x : Ins_) (regs : List Int) : Int := if 0 < x.args.length then at_ regs (at_ x.args 0) else x.n_
def argB (x : Ins_) (regs : List Int) : Int := if 1 < x.args.length then at_ regs (at_ x.args 1) else 0
/-- What an op makes of values: the value, how it ends (0: well). -/
def doR (op a b : Int) : Int × Int :=
  if op = 1 ∨ op = 2 then (a, 0) else if op = 10 then (if a = 0 then 1 else 0, 0)
  else if op = 3 then ((a + b).tmod 256, 0) else if op = 4 then ((a - b + 256).tmod 256, 0) else if op = 5 then ((a * b).tmod 256, 0)
  else if op = 8 then (if a < b then 1 else 0, 0) else if op = 9 then (if a = b then 1 else 0, 0)
  else if b = 0 then (0, 1) else if op = 6 then (a.tdiv b, 0) else (a.tmod b, 0)

inductive Eff
  | set (v : Int)
  | say (v : Int)
  | put (i v : Int)
  | call
  | bad (e : Int)
def effI (x : Ins_) (regs : List Int) (s : St) : Eff :=
  if inB x.op 1 10 then if (doR x.op (argA x regs) (argB x regs)).2 = 0 then .set (doR x.op (argA x regs) (argB x regs)).1 else .bad (doR x.op (argA x regs) (argB x regs)).2
  else if x.op = 13 then .say (argA x regs) else if x.op = 14 then .call
  else if 16 ≤ argA x regs then .bad 2 else if x.op = 11 then .set (at_ s.cells (argA x regs)) else .put (argA x regs) (argB x regs)

/-- The instructions of a block, a step for each. -/
def runI (call : Nat → Int → List Int → St → Res) : List Ins_ → Nat → List Int → St → RI
  | [], n, regs, s => .ok n regs s
  | _ :: _, 0, _, s => .stop 3 0 s
  | x :: r, n + 1, regs, s => match effI x regs s with
    | .set v => runI call r n (regs.set x.to.toNat v) s
    | .say v => runI call r n regs { s with said := s.said ++ [v] }
    | .put i v => runI call r n regs { s with cells := s.cells.set i.toNat v }
    | .bad e => .stop e n s
    | .call => match call n x.n_ (x.args.map (at_ regs)) s with
      | .done v m s' => runI call r m (regs.set x.to.toNat v) s'
      | .stop e m s' => .stop e m s'

def phiSet : List Phi_ → List Int → List Int → List Int
  | f :: fs, v :: vs, r => phiSet fs vs (r.set f.to.toNat v)
  | _, _, r => r
def blkAt (c : Code_) (b : Int) : Block_ := c.blocks.getD b.toNat default
def phiVals (c : Code_) (src b : Int) (regs : List Int) : List Int := (blkAt c b).phis.map fun f => at_ regs (at_ f.args (idx src (predsL c b) 0))
def enter (c : Code_) (src b : Int) (regs : List Int) : List Int := phiSet (blkAt c b).phis (phiVals c src b regs) regs
def lastI (u : Unit_) : Int := (u.codes.length : Int) - 1
def tr (u : Unit_) (k : Int) (s : St) (b : Int) : St := if k = lastI u then { s with trace := s.trace ++ [b] } else s
def initR (c : Code_) (inn : List Int) : List Int := (inn.take c.regs.toNat) ++ List.replicate (c.regs.toNat - inn.length) 0
def nextB (x : Block_) (regs : List Int) : Int := if x.jump = 1 ∨ at_ regs x.on ≠ 0 then at_ x.next_ 0 else at_ x.next_ 1

/-- A code from a block on. -/
def exec (u : Unit_) : Nat → Nat → Int → Code_ → List Int → Int → St → Res
  | 0, n, _, _, _, _, s => .stop (-1) n s
  | g + 1, n, k, c, regs, b, s =>
    match runI (fun m k' args s => match getI u.codes k' with
      | some d => exec u g m k' d (initR d args) 0 (tr u k' s 0)
      | none => .stop (-1) m s) (blkAt c b).ins n regs s with
    | .stop e m s => .stop e m s
    | .ok 0 _ s => .stop 3 0 s
    | .ok (m + 1) regs s =>
      if (blkAt c b).jump = 3 then .done (at_ regs (blkAt c b).on) m s
      else exec u g m k c (enter c b (nextB (blkAt c b) regs) regs) (nextB (blkAt c b) regs) (tr u k s (nextB (blkAt c b) regs))

def callE (u : Unit_) (g : Nat) (m : Nat) (k' : Int) (args : List Int) (s : St) : Res :=
  match getI u.codes k' with
  | some d => exec u g m k' d (initR d args) 0 (tr u k' s 0)
  | none => .stop (-1) m s

theorem exec_succ (u : Unit_) (g n : Nat) (k : Int) (c : Code_) (regs : List Int) (b : Int) (s : St) : exec u (g + 1) n k c regs b s =
    match runI (callE u g) (blkAt c b).ins n regs s with
    | .stop e m s => .stop e m s
    | .ok 0 _ s => .stop 3 0 s
    | .ok (m + 1) regs s =>
      if (blkAt c b).jump = 3 then .done (at_ regs (blkAt c b).on) m s
      else exec u g m k c (enter c b (nextB (blkAt c b) regs) regs) (nextB (blkAt c b) regs) (tr u k s (nextB (blkAt c b) regs)) := by
  rw [exec]; rfl

/-! ### what holds all along -/
def V (x : Int) : Prop := 0 ≤ x ∧ x ≤ 255
def GR (c : Code_) (regs : List Int) : Prop := (regs.length : Int) = c.regs ∧ ∀ v ∈ regs, V v
def GS (s : St) : Prop := s.cells.length = 16 ∧ ∀ v ∈ s.cells, V v

theorem at_V {l : List Int} (h : ∀ v ∈ l, V v) (i : Int) : V (at_ l i) := by
  unfold at_
  rw [List.getD_eq_getElem?_getD]
  cases hi : l[i.toNat]? with
  | none => exact ⟨by decide, by decide⟩
  | some v => exact h v (List.mem_of_getElem? hi)
theorem set_V {l : List Int} (h : ∀ v ∈ l, V v) {i : Nat} {x : Int} (hx : V x) : ∀ v ∈ l.set i x, V v := fun v hv => by
  rcases List.mem_or_eq_of_mem_set hv with h1 | rfl
  · exact h v h1
  · exact hx
theorem V01 (p : Prop) [Decidable p] : V (if p then 1 else 0) := by split <;> exact ⟨by decide, by decide⟩
theorem tmod_V (a : Int) (h : 0 ≤ a) : V (a.tmod 256) := ⟨Int.tmod_nonneg _ h, by have := Int.tmod_lt_of_pos a (show (0 : Int) < 256 by decide); omega⟩
theorem doR_V {op a b : Int} (ha : V a) (hb : V b) (h0 : (doR op a b).2 = 0) : V (doR op a b).1 := by
  unfold doR at *
  split at h0 <;> rename_i h1
  · rw [if_pos h1]; exact ha
  rw [if_neg h1]
  split at h0 <;> rename_i h2
  · rw [if_pos h2]; exact V01 _
  rw [if_neg h2]
  split at h0 <;> rename_i h3
  · rw [if_pos h3]; exact tmod_V _ (by have := ha.1; have := hb.1; omega)
  rw [if_neg h3]
  split at h0 <;> rename_i h4
  · rw [if_pos h4]; exact tmod_V _ (by have := ha.1; have := hb.2; omega)
  rw [if_neg h4]
  split at h0 <;> rename_i h5
  · rw [if_pos h5]; exact tmod_V _ (Int.mul_nonneg ha.1 hb.1)
  rw [if_neg h5]
  split at h0 <;> rename_i h6
  · rw [if_pos h6]; exact V01 _
  rw [if_neg h6]
  split at h0 <;> rename_i h7
  · rw [if_pos h7]; exact V01 _
  rw [if_neg h7]
  split at h0 <;> rename_i h8
  · cases h0
  rw [if_neg h8]
  have hb0 : 0 < b := by have := hb.1; omega
  split <;> rename_i h9
  · refine ⟨Int.tdiv_nonneg ha.1 hb.1, ?_⟩
    have := Int.tdiv_le_self (a := a) b ha.1
    have := ha.2
    show a.tdiv b ≤ 255
    omega
  · refine ⟨Int.tmod_nonneg _ ha.1, ?_⟩
    have := Int.tmod_lt_of_pos a hb0
    have := hb.2
    show a.tmod b ≤ 255
    omega

/-- A unit that is valid, by its parts. -/
structure Ok (u : Unit_) : Prop where
  valid : unitB u = true
  small : Small u
theorem Ok.codes {u : Unit_} (h : Ok u) : 1 ≤ (u.codes.length : Int) ∧ (u.codes.length : Int) ≤ 4 := by
  have := h.valid
  simp only [unitB, Bool.and_eq_true, inB_iff] at this
  exact this.1
theorem Ok.code {u : Unit_} (h : Ok u) {k : Int} {c : Code_} (hk : getI u.codes k = some c) : codeB u k c = true := by
  have := h.valid
  simp only [unitB, Bool.and_eq_true] at this
  obtain ⟨h0, h1⟩ := getI_some.1 hk
  have h2 := allI_get this.2.1 k.toNat c h1
  rwa [show (0 : Int) + (k.toNat : Int) = k by omega] at h2
structure COk (u : Unit_) (k : Int) (c : Code_) : Prop where
  regs : 0 ≤ c.regs ∧ c.regs ≤ 300
  params : 0 ≤ c.params ∧ c.params ≤ c.regs ∧ c.params ≤ 3
  nb : 1 ≤ (c.blocks.length : Int) ∧ (c.blocks.length : Int) ≤ 160
  blocks : ∀ (b : Int) (x : Block_), getI c.blocks b = some x → blockB u k c b x = true
theorem Ok.cok {u : Unit_} (h : Ok u) {k : Int} {c : Code_} (hk : getI u.codes k = some c) : COk u k c := by
  have := h.code hk
  simp only [codeB, Bool.and_eq_true, inB_iff] at this
  refine ⟨this.1, ⟨this.2.1.1, by omega, by omega⟩, this.2.2.1, fun b x hx => ?_⟩
  obtain ⟨h0, h1⟩ := getI_some.1 hx
  have h2 := allI_get this.2.2.2 b.toNat x h1
  rwa [show (0 : Int) + (b.toNat : Int) = b by omega] at h2
structure BOk (u : Unit_) (k : Int) (c : Code_) (b : Int) (x : Block_) : Prop where
  jump : (x.jump = 1 ∧ x.next_.length = 1 ∧ x.on = 0) ∨ (x.jump = 2 ∧ x.next_.length = 2 ∧ 0 ≤ x.on ∧ x.on < c.regs) ∨ (x.jump = 3 ∧ x.next_.length = 0 ∧ 0 ≤ x.on ∧ x.on < c.regs)
  next : ∀ n ∈ x.next_, 1 ≤ n ∧ n < (c.blocks.length : Int)
  ins : ∀ i ∈ x.ins, insB u k c i = true
  phis : ∀ f ∈ x.phis, b ≠ 0 ∧ (0 ≤ f.to ∧ f.to < c.regs) ∧ f.args.length = (predsL c b).length ∧ ∀ r ∈ f.args, 0 ≤ r ∧ r < c.regs
theorem COk.bok {u : Unit_} {k : Int} {c : Code_} (h : COk u k c) {b : Int} {x : Block_} (hx : getI c.blocks b = some x) : BOk u k c b x := by
  have := h.blocks b x hx
  simp only [blockB, Bool.and_eq_true, decide_eq_true_eq, List.all_eq_true] at this
  obtain ⟨h1, h2, h3, h4, h5⟩ := this
  refine ⟨?_, fun n hn => ?_, h4, fun f hf => ?_⟩
  · unfold jumpN at h1
    by_cases e1 : x.jump = 1
    · rw [if_pos e1] at h1 h2
      exact .inl ⟨e1, by omega, by simpa using h2⟩
    rw [if_neg e1] at h1 h2
    rw [inB_iff] at h2
    by_cases e2 : x.jump = 2
    · rw [if_pos e2] at h1
      exact .inr (.inl ⟨e2, by omega, by omega, by omega⟩)
    rw [if_neg e2] at h1
    by_cases e3 : x.jump = 3
    · rw [if_pos e3] at h1
      exact .inr (.inr ⟨e3, by omega, by omega, by omega⟩)
    · rw [if_neg e3] at h1; omega
  · have := h3 n hn
    rw [inB_iff] at this; omega
  · have := h5 f hf
    simp only [phiB, regsB, Bool.and_eq_true, decide_eq_true_eq, List.all_eq_true, inB_iff] at this
    obtain ⟨q1, q2, q3, q4⟩ := this
    exact ⟨q1, by omega, q3, fun r hr => by have := q4 r hr; omega⟩
structure IOk (u : Unit_) (k : Int) (c : Code_) (x : Ins_) : Prop where
  op : 1 ≤ x.op ∧ x.op ≤ 14
  args : ∀ r ∈ x.args, 0 ≤ r ∧ r < c.regs
  to : x.op ≠ 12 → x.op ≠ 13 → 0 ≤ x.to ∧ x.to < c.regs
  call : x.op = 14 → 0 ≤ x.n_ ∧ x.n_ < k ∧ (x.args.length : Int) = parOf u x.n_
  plain : x.op ≠ 14 → (x.args.length : Int) = nargs x.op
  num : x.op = 1 → V x.n_
theorem iok {u : Unit_} {k : Int} {c : Code_} {x : Ins_} (h : insB u k c x = true) : IOk u k c x := by
  simp only [insB, regsB, Bool.and_eq_true, List.all_eq_true, inB_iff] at h
  obtain ⟨h1, h2, h3, h4⟩ := h
  refine ⟨h1, fun r hr => by have := h2 r hr; omega, fun a b => ?_, fun e => ?_, fun e => ?_, fun e => ?_⟩
  · have : makesB x.op = true := by simp [makesB, inB_iff, h1, a, b]
    rw [if_pos this, inB_iff] at h3; omega
  · rw [if_pos e] at h4
    simp only [Bool.and_eq_true, inB_iff, decide_eq_true_eq] at h4; omega
  · rw [if_neg e] at h4
    simp only [Bool.and_eq_true, decide_eq_true_eq] at h4; exact h4.1
  · rw [if_neg (by omega)] at h4
    simp only [Bool.and_eq_true] at h4
    have h5 := h4.2
    rw [if_pos e, inB_iff] at h5; exact h5

theorem blkAt_get {c : Code_} {b : Int} {x : Block_} (h : getI c.blocks b = some x) : blkAt c b = x := by
  obtain ⟨_, h1⟩ := getI_some.1 h
  unfold blkAt
  rw [List.getD_eq_getElem?_getD, h1]; rfl
theorem at_get {l : List Int} {i : Int} (h0 : 0 ≤ i) (h : i < (l.length : Int)) : getI l i = some (at_ l i) := by
  rw [getI_lt h0 h]
  unfold at_
  rw [List.getD_eq_getElem?_getD, List.getElem?_eq_getElem (by omega)]; rfl
end Unt
end Go.Wk
