/- A part of the proof of FnExactSameRunsSaid. -/
import Derived.Test.YtjbcoilagfdidaaGreatSrC
/- Plain laws of units: sizes, copies, comparisons. -/
namespace Go.Wk
open Go
namespace Unt
set_option maxRecDepth 10000

def nPhi (x : Phi_) : Nat := x.args.length
def nIns (x : Ins_) : Nat := x.args.length
def nPhiS (l : List Phi_) : Nat := l.length + sums nPhi l
def nInsS (l : List Ins_) : Nat := l.length + sums nIns l
def nBlock (b : Block_) : Nat := nPhiS b.phis + nInsS b.ins + b.next_.length
def nBlockS (l : List Block_) : Nat := l.length + sums nBlock l
def nCode (c : Code_) : Nat := nBlockS c.blocks
def nCodeS (l : List Code_) : Nat := l.length + sums nCode l
def nUnit (u : Unit_) : Nat := nCodeS u.codes

/-- What the reading says of the lengths. -/
def LPhi (x : Phi_) : Prop := x.args.length ≤ 140737488355328
def LIns (x : Ins_) : Prop := x.args.length ≤ 140737488355328
def LBlock (b : Block_) : Prop := b.phis.length ≤ 140737488355328 ∧ b.ins.length ≤ 140737488355328 ∧ b.next_.length ≤ 140737488355328 ∧ (∀ x ∈ b.phis, LPhi x) ∧ ∀ x ∈ b.ins, LIns x
def LCode (c : Code_) : Prop := c.blocks.length ≤ 140737488355328 ∧ ∀ b ∈ c.blocks, LBlock b
def LUnit (u : Unit_) : Prop := u.codes.length ≤ 140737488355328 ∧ ∀ c ∈ u.codes, LCode c

theorem szIntS_ok (l : List Int) (hl : l.length ≤ 140737488355328) {left : Int} (h0 : 0 ≤ left) (h1 : left ≤ 1048576) : laws_szIntS l left = some (if (l.length : Int) ≤ left then left - l.length else -1) := by
  unfold laws_szIntS
  rw [w64_id (by omega) (by omega)]
  by_cases q : left - (l.length : Int) < 0
  · simp only [q, decide_true, if_true]; rw [if_neg (by omega)]
  · simp only [q, decide_false, Bool.false_eq_true, if_false]; rw [if_pos (by omega)]
theorem lt0 {n l : Int} (h0 : 0 ≤ l) : (decide ((if n ≤ l then l - n else -1) < 0)) = !decide (n ≤ l) := by
  by_cases q : n ≤ l
  · have : ¬ l - n < 0 := by omega
    simp [q, this]
  · simp [q]
theorem szPhi_ok (x : Phi_) (hx : LPhi x) {left : Int} (h0 : 0 ≤ left) (h1 : left ≤ 1048576) : laws_szPhi x left = some (if (nPhi x : Int) ≤ left then left - nPhi x else -1) := by
  unfold laws_szPhi
  rw [szIntS_ok _ hx h0 h1, Option.bind_some, lt0 h0]
  by_cases q : (x.args.length : Int) ≤ left
  · simp [q, nPhi]
  · simp [q, nPhi]
theorem szIns_ok (x : Ins_) (hx : LIns x) {left : Int} (h0 : 0 ≤ left) (h1 : left ≤ 1048576) : laws_szIns x left = some (if (nIns x : Int) ≤ left then left - nIns x else -1) := by
  unfold laws_szIns
  rw [szIntS_ok _ hx h0 h1, Option.bind_some, lt0 h0]
  by_cases q : (x.args.length : Int) ≤ left
  · simp [q, nIns]
  · simp [q, nIns]
theorem szPhiS_ok (l : List Phi_) (hl : l.length ≤ 140737488355328) (hx : ∀ x ∈ l, LPhi x) {left : Int} (h0 : 0 ≤ left) (h1 : left ≤ 1048576) : laws_szPhiS l left = some (if (nPhiS l : Int) ≤ left then left - nPhiS l else -1) :=
  szList laws_szPhi nPhi hl (fun x h l a b => szPhi_ok x (hx x h) a b) h0 h1 (fun a x r s h => by rw [h, getI_mid]; rfl)
theorem szInsS_ok (l : List Ins_) (hl : l.length ≤ 140737488355328) (hx : ∀ x ∈ l, LIns x) {left : Int} (h0 : 0 ≤ left) (h1 : left ≤ 1048576) : laws_szInsS l left = some (if (nInsS l : Int) ≤ left then left - nInsS l else -1) :=
  szList laws_szIns nIns hl (fun x h l a b => szIns_ok x (hx x h) a b) h0 h1 (fun a x r s h => by rw [h, getI_mid]; rfl)
theorem szBlock_ok (x : Block_) (hx : LBlock x) {left : Int} (h0 : 0 ≤ left) (h1 : left ≤ 1048576) : laws_szBlock x left = some (if (nBlock x : Int) ≤ left then left - nBlock x else -1) := by
  obtain ⟨a1, a2, a3, a4, a5⟩ := hx
  unfold laws_szBlock
  rw [szPhiS_ok _ a1 a4 h0 h1, Option.bind_some, lt0 h0]
  by_cases q : (nPhiS x.phis : Int) ≤ left
  rotate_left
  · have : ¬ (nBlock x : Int) ≤ left := by unfold nBlock; omega
    simp [q, this]
  simp only [q, decide_true, Bool.not_true, Bool.false_eq_true, if_false, if_true]
  rw [szInsS_ok _ a2 a5 (by omega) (by omega), Option.bind_some, lt0 (by omega)]
  by_cases q2 : (nInsS x.ins : Int) ≤ left - nPhiS x.phis
  rotate_left
  · have : ¬ (nBlock x : Int) ≤ left := by unfold nBlock; omega
    simp [q2, this]
  simp only [q2, decide_true, Bool.not_true, Bool.false_eq_true, if_false, if_true]
  rw [szIntS_ok _ a3 (by omega) (by omega), Option.bind_some, lt0 (by omega)]
  by_cases q3 : (x.next_.length : Int) ≤ left - nPhiS x.phis - nInsS x.ins
  · have : (nBlock x : Int) ≤ left := by unfold nBlock; omega
    simp only [q3, this, decide_true, Bool.not_true, Bool.false_eq_true, if_false, if_true]
    congr 1
    unfold nBlock; omega
  · have : ¬ (nBlock x : Int) ≤ left := by unfold nBlock; omega
    simp [q3, this]
theorem szBlockS_ok (l : List Block_) (hl : l.length ≤ 140737488355328) (hx : ∀ x ∈ l, LBlock x) {left : Int} (h0 : 0 ≤ left) (h1 : left ≤ 1048576) : laws_szBlockS l left = some (if (nBlockS l : Int) ≤ left then left - nBlockS l else -1) :=
  szList laws_szBlock nBlock hl (fun x h l a b => szBlock_ok x (hx x h) a b) h0 h1 (fun a x r s h => by rw [h, getI_mid]; rfl)
theorem szCode_ok (x : Code_) (hx : LCode x) {left : Int} (h0 : 0 ≤ left) (h1 : left ≤ 1048576) : laws_szCode x left = some (if (nCode x : Int) ≤ left then left - nCode x else -1) := by
  unfold laws_szCode
  rw [szBlockS_ok _ hx.1 hx.2 h0 h1, Option.bind_some, lt0 h0]
  by_cases q : (nBlockS x.blocks : Int) ≤ left
  · simp [q, nCode]
  · simp [q, nCode]
theorem szCodeS_ok (l : List Code_) (hl : l.length ≤ 140737488355328) (hx : ∀ x ∈ l, LCode x) {left : Int} (h0 : 0 ≤ left) (h1 : left ≤ 1048576) : laws_szCodeS l left = some (if (nCodeS l : Int) ≤ left then left - nCodeS l else -1) :=
  szList laws_szCode nCode hl (fun x h l a b => szCode_ok x (hx x h) a b) h0 h1 (fun a x r s h => by rw [h, getI_mid]; rfl)
theorem szUnit_ok (x : Unit_) (hx : LUnit x) {left : Int} (h0 : 0 ≤ left) (h1 : left ≤ 1048576) : laws_szUnit x left = some (if (nUnit x : Int) ≤ left then left - nUnit x else -1) := by
  unfold laws_szUnit
  rw [szCodeS_ok _ hx.1 hx.2 h0 h1, Option.bind_some, lt0 h0]
  by_cases q : (nCodeS x.codes : Int) ≤ left
  · simp [q, nUnit]
  · simp [q, nUnit]

theorem sums_mem {α : Type} {f : α → Nat} {xs : List α} {x : α} (h : x ∈ xs) : f x ≤ sums f xs := by
  induction xs with
  | nil => cases h
  | cons y r ih =>
    rcases List.mem_cons.1 h with rfl | h
    · simp only [sums]; omega
    · have := ih h; simp only [sums]; omega

/-- Not too much in all. -/
def Fits (u : Unit_) : Prop := nUnit u ≤ 1048576
theorem Fits.codes {u : Unit_} (h : Fits u) : u.codes.length ≤ 1048576 := by unfold Fits nUnit nCodeS at h; omega
theorem Fits.code {u : Unit_} (h : Fits u) {c : Code_} (hc : c ∈ u.codes) : nBlockS c.blocks ≤ 1048576 := by
  have := sums_mem (f := nCode) hc
  have e : nCode c = nBlockS c.blocks := rfl
  unfold Fits nUnit nCodeS at h
  omega
theorem Fits.block {u : Unit_} (h : Fits u) {c : Code_} (hc : c ∈ u.codes) {b : Block_} (hb : b ∈ c.blocks) : nBlock b ≤ 1048576 := by
  have h1 := h.code hc
  have := sums_mem (f := nBlock) hb
  unfold nBlockS at h1
  omega
theorem Fits.small {u : Unit_} (h : Fits u) : Small u := fun c hc b hb => by
  have := h.block hc hb
  unfold nBlock nPhiS nInsS at this
  omega

theorem toIntS_ok (l : List Int) (h : l.length ≤ 1048576) : laws_toIntS l = some l :=
  toList (fun x => some x) (by omega) (fun _ _ => rfl) (fun a x r s h => by rw [h, getI_mid])
theorem toPhi_ok (x : Phi_) (h : x.args.length ≤ 1048576) : laws_toPhi x = some x := by unfold laws_toPhi; rw [toIntS_ok _ h]; rfl
theorem toIns_ok (x : Ins_) (h : x.args.length ≤ 1048576) : laws_toIns x = some x := by unfold laws_toIns; rw [toIntS_ok _ h]; rfl
theorem toPhiS_ok (l : List Phi_) (h : nPhiS l ≤ 1048576) : laws_toPhiS l = some l := by
  unfold nPhiS at h
  exact toList laws_toPhi (by omega) (fun x hx => toPhi_ok x (by have := sums_mem (f := nPhi) hx; have e : nPhi x = x.args.length := rfl; omega)) (fun a x r s h => by rw [h, getI_mid]; rfl)
theorem toInsS_ok (l : List Ins_) (h : nInsS l ≤ 1048576) : laws_toInsS l = some l := by
  unfold nInsS at h
  exact toList laws_toIns (by omega) (fun x hx => toIns_ok x (by have := sums_mem (f := nIns) hx; have e : nIns x = x.args.length := rfl; omega)) (fun a x r s h => by rw [h, getI_mid]; rfl)
theorem toBlock_ok (x : Block_) (h : nBlock x ≤ 1048576) : laws_toBlock x = some x := by
  unfold nBlock at h
  unfold laws_toBlock
  rw [toPhiS_ok _ (by omega), Option.bind_some, toInsS_ok _ (by omega), Option.bind_some, toIntS_ok _ (by omega)]; rfl
theorem toBlockS_ok (l : List Block_) (h : nBlockS l ≤ 1048576) : laws_toBlockS l = some l := by
  unfold nBlockS at h
  exact toList laws_toBlock (by omega) (fun x hx => toBlock_ok x (by have := sums_mem (f := nBlock) hx; omega)) (fun a x r s h => by rw [h, getI_mid]; rfl)
theorem toCode_ok (x : Code_) (h : nCode x ≤ 1048576) : laws_toCode x = some x := by unfold laws_toCode; rw [toBlockS_ok _ h]; rfl
theorem toUnit_ok (x : Unit_) (h : Fits x) : laws_toUnit x = some x := by
  unfold Fits nUnit nCodeS at h
  unfold laws_toUnit
  have : laws_toCodeS x.codes = some x.codes := toList laws_toCode (by omega) (fun y hy => toCode_ok y (by have := sums_mem (f := nCode) hy; omega)) (fun a x r s h => by rw [h, getI_mid]; rfl)
  rw [this]; rfl

theorem mid2 {α : Type} {xs ys : List α} {x y : α} {l r l' r' : List α} (h1 : xs = l ++ x :: r) (h2 : ys = l' ++ y :: r') (h3 : l.length = l'.length) : getI xs (l.length : Int) = some x ∧ getI ys (l.length : Int) = some y := by
  rw [h1, getI_mid, h3, h2, getI_mid]; exact ⟨rfl, rfl⟩
theorem eqIntS_ok (a b : List Int) : laws_eqIntS a b = some (decide (a = b)) :=
  eqList (fun x y => some (decide (x = y))) (fun _ _ _ _ => rfl) (fun l x r l' y r' s h1 h2 h3 => by
    rw [(mid2 h1 h2 h3).1, (mid2 h1 h2 h3).2]
    by_cases e : x = y <;> simp [e])
theorem eqPhi_ok (a b : Phi_) : laws_eqPhi a b = some (decide (a = b)) := by
  unfold laws_eqPhi
  rw [eqIntS_ok]
  cases a; cases b
  simp only [Phi_.mk.injEq]
  rename_i a1 a2 b1 b2
  by_cases h1 : a1 = b1 <;> by_cases h2 : a2 = b2 <;> simp [h1, h2]
theorem eqIns_ok (a b : Ins_) : laws_eqIns a b = some (decide (a = b)) := by
  unfold laws_eqIns
  rw [eqIntS_ok]
  cases a; cases b
  simp only [Ins_.mk.injEq]
  rename_i a1 a2 a3 a4 b1 b2 b3 b4
  by_cases h1 : a1 = b1 <;> by_cases h2 : a2 = b2 <;> by_cases h3 : a3 = b3 <;> by_cases h4 : a4 = b4 <;> simp [h1, h2, h3, h4]
theorem eqPhiS_ok (a b : List Phi_) : laws_eqPhiS a b = some (decide (a = b)) :=
  eqList laws_eqPhi (fun x _ y _ => eqPhi_ok x y) (fun l x r l' y r' s h1 h2 h3 => by rw [(mid2 h1 h2 h3).1, (mid2 h1 h2 h3).2]; rfl)
theorem eqInsS_ok (a b : List Ins_) : laws_eqInsS a b = some (decide (a = b)) :=
  eqList laws_eqIns (fun x _ y _ => eqIns_ok x y) (fun l x r l' y r' s h1 h2 h3 => by rw [(mid2 h1 h2 h3).1, (mid2 h1 h2 h3).2]; rfl)
theorem eqBlock_ok (a b : Block_) : laws_eqBlock a b = some (decide (a = b)) := by
  unfold laws_eqBlock
  rw [eqPhiS_ok, eqInsS_ok, eqIntS_ok]
  cases a; cases b
  simp only [Block_.mk.injEq]
  rename_i a1 a2 a3 a4 a5 b1 b2 b3 b4 b5
  by_cases h1 : a1 = b1 <;> by_cases h2 : a2 = b2 <;> by_cases h3 : a3 = b3 <;> by_cases h4 : a4 = b4 <;> by_cases h5 : a5 = b5 <;> simp [h1, h2, h3, h4, h5]
theorem eqBlockS_ok (a b : List Block_) : laws_eqBlockS a b = some (decide (a = b)) :=
  eqList laws_eqBlock (fun x _ y _ => eqBlock_ok x y) (fun l x r l' y r' s h1 h2 h3 => by rw [(mid2 h1 h2 h3).1, (mid2 h1 h2 h3).2]; rfl)
theorem eqCode_ok (a b : Code_) : laws_eqCode a b = some (decide (a = b)) := by
  unfold laws_eqCode
  rw [eqBlockS_ok]
  cases a; cases b
  simp only [Code_.mk.injEq]
  rename_i a1 a2 a3 b1 b2 b3
  by_cases h1 : a1 = b1 <;> by_cases h2 : a2 = b2 <;> by_cases h3 : a3 = b3 <;> simp [h1, h2, h3]
theorem eqCodeS_ok (a b : List Code_) : laws_eqCodeS a b = some (decide (a = b)) :=
  eqList laws_eqCode (fun x _ y _ => eqCode_ok x y) (fun l x r l' y r' s h1 h2 h3 => by rw [(mid2 h1 h2 h3).1, (mid2 h1 h2 h3).2]; rfl)
theorem eqUnit_ok (a b : Unit_) : laws_eqUnit a b = some (decide (a = b)) := by
  unfold laws_eqUnit
  rw [eqCodeS_ok]
  cases a; cases b
  simp only [Unit_.mk.injEq]
  rename_i a1 b1
  by_cases h1 : a1 = b1 <;> simp [h1]
end Unt
end Go.Wk
