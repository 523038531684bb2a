/- A part of a proof: general laws of walks, no statement of the seat. -/
/- General steps of a walk over a frame that is known by a list of its slots. -/
import Derived.WalkKit
namespace Go.Wk
open Go Go.RowKit

abbrev Env := List (Nat × Value)

def lk : Env → Nat → Option Value
  | [], _ => none
  | (k, v) :: r, t => bif Nat.beq k t then some v else lk r t

structure Fr (n : Nat) (l : Env) (a : Act) : Prop where
  size : a.tmps.size = n
  defers : a.defers = []
  get : ∀ t v, lk l t = some v → a.tmps[t]? = some v

section
variable {n : Nat} {l l' : Env} {a : Act} {d : Nat} {v : Value} {x : Operand}

theorem Fr.put (h : Fr n l a) (hd : Nat.blt d n = true) : Fr n ((d, v) :: l) (a.put (some d) v) := by
  have hd' : d < n := by simpa [Nat.blt_eq] using hd
  refine ⟨by simp [Act.put, h.size], h.defers, fun t u ht => ?_⟩
  simp only [lk] at ht
  by_cases e : d = t
  · subst e
    simp at ht
    subst ht
    simp [Act.put, h.size, hd']
  · have : Nat.beq d t = false := by
      cases hb : Nat.beq d t with
      | false => rfl
      | true => exact absurd (Nat.eq_of_beq_eq_true hb) e
    rw [this] at ht
    simp only [cond_false] at ht
    have := h.get t u ht
    simp [Act.put, e, this]

theorem Fr.put_none (h : Fr n l a) : Fr n l (a.put none v) := h

def ev (l : Env) : Operand → Option Value
  | .tmp t => lk l t
  | .const v => some v
  | .global g => some (.pointer (some ⟨g, 0, none⟩))
  | .func f => some (.func (.func f) #[] #[])

theorem Fr.eval (h : Fr n l a) (hx : ev l x = some v) : a.eval x = v := by
  cases x with
  | tmp t => simp only [ev] at hx; have := h.get t v hx; simp [Act.eval, Array.getD_eq_getD_getElem?, this]
  | const u => simp only [ev, Option.some.injEq] at hx; exact hx
  | global g => simp only [ev, Option.some.injEq] at hx; exact hx
  | func f => simp only [ev, Option.some.injEq] at hx; exact hx

def Sub : Env → Env → Prop
  | [], _ => True
  | p :: r, l => lk l p.1 = some p.2 ∧ Sub r l

theorem Sub.get : ∀ {l' l : Env}, Sub l' l → ∀ t v, lk l' t = some v → lk l t = some v
  | [], _, _, _, _, h => by simp [lk] at h
  | p :: r, l, ⟨h1, h2⟩, t, v, h => by
    simp only [lk] at h
    by_cases e : Nat.beq p.1 t = true
    · rw [e] at h
      simp only [cond_true, Option.some.injEq] at h
      rw [← Nat.eq_of_beq_eq_true e, ← h]; exact h1
    · rw [Bool.not_eq_true] at e; rw [e] at h
      exact Sub.get h2 t v h

theorem Fr.sub (h : Fr n l a) (hs : Sub l' l) : Fr n l' a := ⟨h.size, h.defers, fun t v ht => h.get t v (hs.get t v ht)⟩

theorem Fr.start {args : Array Value} {k : Nat} (hn : args.size + k = n) (hl : ∀ t v, lk l t = some v → args[t]? = some v) : Fr n l { tmps := args ++ Array.replicate k undef, defers := [] } := by
  refine ⟨by simp [hn], rfl, fun t v ht => ?_⟩
  have h := hl t v ht
  have : t < args.size := by
    rcases Nat.lt_or_ge t args.size with h' | h'
    · exact h'
    · simp [Array.getElem?_eq_none h'] at h
  rw [Array.getElem?_append_left this]
  exact h
end

/-- What an operation yields, the world left alone. -/
def Yl (P : Program) (l : Env) (w : World) (o : Oper) (v : Value) : Prop := ∀ n a, Fr n l a → (execOp a.eval o).run P w = .ok (.value v) w

section
variable {P : Program} {ops : Array Oper} {Q : Exit → Act → World → Prop} {a : Act} {w : World} {rest : List Oper} {o : Oper} {n : Nat} {l : Env} {d : Nat} {v : Value}

theorem wanted_none (hg : o.guard = none) : Region.wanted o (yielded ops a.tmps) = true := by simp [Region.wanted, hg]

theorem wanted_some {j dj : Nat} {b c : Bool} (hf : Fr n l a) (hg : o.guard = some (j, b)) (hj : (ops[j]?).bind (·.dst) = some dj) (hl : lk l dj = some (.bool c)) :
    Region.wanted o (yielded ops a.tmps) = (c == b) := by
  simp only [Region.wanted, hg, yielded, hj, Option.bind_some, hf.get dj _ hl]
  cases b <;> cases c <;> rfl

theorem wpList_go (hw : Region.wanted o (yielded ops a.tmps) = true) (h : o.wp P a w (wpList P ops Q rest) Q) : wpList P ops Q (o :: rest) a w := by
  unfold wpList
  rw [if_pos hw]
  exact .inl h

theorem wp_of_yl (hf : Fr n l a) (hy : Yl P l w o v) {K : Act → World → Prop} (h : K (a.put o.dst v) w) : o.wp P a w K Q := by
  unfold Oper.wp
  rw [hy n a hf]
  exact h

/-! ### what pure operations yield -/
variable {x y c : Operand} {vx vy : Value}

theorem y_move (ho : o.op = .move x) (hx : ev l x = some v) : Yl P l w o v := fun n a hf => by simp [execOp, ho, hf.eval hx]
theorem y_assign (ho : o.op = .assign x) (hx : ev l x = some v) : Yl P l w o v := fun n a hf => by simp [execOp, ho, hf.eval hx]
theorem y_pick_t (ho : o.op = .pick c x y) (hc : ev l c = some (.bool true)) (hx : ev l x = some v) : Yl P l w o v := fun n a hf => by
  simp [execOp, ho, hf.eval hc, hf.eval hx, asBool]
theorem y_pick_f (ho : o.op = .pick c x y) (hc : ev l c = some (.bool false)) (hx : ev l y = some v) : Yl P l w o v := fun n a hf => by
  simp [execOp, ho, hf.eval hc, hf.eval hx, asBool]
theorem y_not {b : Bool} {t : TypeId} (ho : o.op = .unOp .not t x) (hx : ev l x = some (.bool b)) : Yl P l w o (.bool (!b)) := fun n a hf => by
  simp [execOp, ho, hf.eval hx, Op.unary]
theorem y_extract {i : Nat} {vs : Array Value} (ho : o.op = .extract x i) (hx : ev l x = some (.tuple vs)) (hv : vs[i]? = some v) : Yl P l w o v := fun n a hf => by
  simp [execOp, ho, hf.eval hx, Instr.extract, hv]

section
variable {t t' : TypeId} {k : IntKind} {i j : Int}
theorem y_add (ho : o.op = .binOp .add t x y t') (hx : ev l x = some (.int k i)) (hy : ev l y = some (.int k j)) : Yl P l w o (.int k (k.wrap (i + j))) := fun n a hf => by
  simp [execOp, ho, hf.eval hx, hf.eval hy, binOp, eqGuard, Op.intArith]
theorem y_sub (ho : o.op = .binOp .sub t x y t') (hx : ev l x = some (.int k i)) (hy : ev l y = some (.int k j)) : Yl P l w o (.int k (k.wrap (i - j))) := fun n a hf => by
  simp [execOp, ho, hf.eval hx, hf.eval hy, binOp, eqGuard, Op.intArith]
theorem y_mul (ho : o.op = .binOp .mul t x y t') (hx : ev l x = some (.int k i)) (hy : ev l y = some (.int k j)) : Yl P l w o (.int k (k.wrap (i * j))) := fun n a hf => by
  simp [execOp, ho, hf.eval hx, hf.eval hy, binOp, eqGuard, Op.intArith]
theorem y_lss (ho : o.op = .binOp .lss t x y t') (hx : ev l x = some (.int k i)) (hy : ev l y = some (.int k j)) : Yl P l w o (.bool (decide (i < j))) := fun n a hf => by
  simp [execOp, ho, hf.eval hx, hf.eval hy, binOp, eqGuard, Op.intCmp]
theorem y_leq (ho : o.op = .binOp .leq t x y t') (hx : ev l x = some (.int k i)) (hy : ev l y = some (.int k j)) : Yl P l w o (.bool (decide (i ≤ j))) := fun n a hf => by
  simp [execOp, ho, hf.eval hx, hf.eval hy, binOp, eqGuard, Op.intCmp]
theorem y_gtr (ho : o.op = .binOp .gtr t x y t') (hx : ev l x = some (.int k i)) (hy : ev l y = some (.int k j)) : Yl P l w o (.bool (decide (j < i))) := fun n a hf => by
  simp [execOp, ho, hf.eval hx, hf.eval hy, binOp, eqGuard, Op.intCmp]
theorem y_geq (ho : o.op = .binOp .geq t x y t') (hx : ev l x = some (.int k i)) (hy : ev l y = some (.int k j)) : Yl P l w o (.bool (decide (j ≤ i))) := fun n a hf => by
  simp [execOp, ho, hf.eval hx, hf.eval hy, binOp, eqGuard, Op.intCmp]
theorem y_eql (ho : o.op = .binOp .eql t x y t') (hx : ev l x = some (.int k i)) (hy : ev l y = some (.int k j)) : Yl P l w o (.bool (decide (i = j))) := fun n a hf => by
  simp [execOp, ho, hf.eval hx, hf.eval hy, binOp, eqGuard, Op.intCmp]
  rfl
theorem y_neq (ho : o.op = .binOp .neq t x y t') (hx : ev l x = some (.int k i)) (hy : ev l y = some (.int k j)) : Yl P l w o (.bool (decide (i ≠ j))) := fun n a hf => by
  simp [execOp, ho, hf.eval hx, hf.eval hy, binOp, eqGuard, Op.intCmp]
  rfl
end
end
end Go.Wk
