/- A part of the proof of FnNumbersCardSaid. -/
import Derived.Test.YtjbcoilagfdidaaDoorNuF
/- The program's run is that function. -/
namespace Go.Wk
open Go
namespace Unt
set_option maxRecDepth 10000

def mkI (u : Unit_) (steps : Int) (n : Nat) (s : St) : running := ⟨u, steps, steps - n, s.said, s.cells, s.trace⟩
def toI (u : Unit_) (steps : Int) : Res → (Int × running) ⊕ (Int × running)
  | .done v n s => .inl (v, mkI u steps n s)
  | .stop e n s => .inr (e, mkI u steps n s)
def toII (u : Unit_) (steps : Int) (regs0 : List Int) : RI → (running × List Int) ⊕ (Int × running × List Int)
  | .ok n regs s => .inl (mkI u steps n s, regs)
  | .stop e n s => .inr (e, mkI u steps n s, regs0)

theorem runI_cons (call : Nat → Int → List Int → St → Res) (x : Ins_) (r : List Ins_) (n : Nat) (regs : List Int) (s : St) :
    runI call (x :: r) n regs s = match runI call [x] n regs s with
      | .ok m regs' s' => runI call r m regs' s'
      | .stop e m s' => .stop e m s' := by
  cases n with
  | zero => rfl
  | succ n =>
    simp only [runI]
    cases effI x regs s with
    | set v => rfl
    | say v => rfl
    | put i v => rfl
    | bad e => rfl
    | call =>
      simp only
      cases call n x.n_ (x.args.map (at_ regs)) s <;> rfl

theorem setA_eq {cells : List Int} (h : cells.length = 16) {i : Nat} (hi : i < 16) (x : Int) : setA 16 cells i x = cells.set i x := by
  apply List.ext_getElem?
  intro j
  unfold setA
  by_cases hj : j < 16
  · rw [List.getElem?_map, List.getElem?_range hj, Option.map_some, List.getElem?_set]
    by_cases e : i = j
    · subst e; rw [if_pos rfl, if_pos rfl, if_pos (by omega)]
    · rw [if_neg (Ne.symm e), if_neg e, List.getD_eq_getElem?_getD, List.getElem?_eq_getElem (by omega)]; rfl
  · rw [List.getElem?_eq_none (by simp; omega), List.getElem?_eq_none (by simp; omega)]

section
variable {u : Unit_} {steps : Int} (hst : steps ≤ 60000)
include hst
theorem tick_succ (n : Nat) (s : St) (hn : ((n + 1 : Nat) : Int) ≤ steps) : pimpl_running__tick (mkI u steps (n + 1) s) = some (.inl (mkI u steps n s)) := by
  unfold pimpl_running__tick mkI
  have : ¬ steps - ((n + 1 : Nat) : Int) = steps := by omega
  simp only [this, decide_false, Bool.false_eq_true, if_false, Option.bind_some, Sum.elim_inl]
  rw [w64_id (by omega) (by omega)]
  congr 3
  omega
omit hst in
theorem tick_zero (s : St) : pimpl_running__tick (mkI u steps 0 s) = some (.inr (3, mkI u steps 0 s)) := by
  unfold pimpl_running__tick mkI impl_stop
  simp
end

theorem arg_ok {c : Code_} {regs : List Int} (hr : GR c regs) {x : Ins_} (ha : ∀ r ∈ x.args, 0 ≤ r ∧ r < c.regs) {i : Int} (h0 : 0 ≤ i) (hi : i < (x.args.length : Int)) : pimpl_running__doIns_1 i regs x = some (at_ regs (at_ x.args i)) := by
  unfold pimpl_running__doIns_1
  rw [at_get h0 hi, Option.bind_some]
  have := ha _ (List.mem_of_getElem? (getI_some.1 (at_get h0 hi)).2)
  rw [at_get this.1 (by rw [hr.1]; exact this.2)]; rfl

theorem mul_V {a b : Int} (ha : V a) (hb : V b) : 0 ≤ a * b ∧ a * b ≤ 65025 := by
  refine ⟨Int.mul_nonneg ha.1 hb.1, ?_⟩
  have h1 : a * b ≤ 255 * b := Int.mul_le_mul_of_nonneg_right ha.2 hb.1
  have h2 := hb.2
  omega

theorem arith_ok {op a b : Int} (h : 3 ≤ op ∧ op ≤ 9) (ha : V a) (hb : V b) : impl_arith op a b = some ((doR op a b).1, decide ((doR op a b).2 = 0)) := by
  have hab := mul_V ha hb
  obtain ⟨a0, a1⟩ := ha
  obtain ⟨b0, b1⟩ := hb
  unfold impl_arith doR
  have h12 : ¬ (op = 1 ∨ op = 2) := by omega
  have h10 : ¬ op = 10 := by omega
  rw [if_neg h12, if_neg h10]
  by_cases e3 : op = 3
  · rw [w64_id (n := a + b) (by omega) (by omega)]; simp [e3]
  by_cases e4 : op = 4
  · rw [w64_id (n := a - b) (by omega) (by omega), w64_id (n := a - b + 256) (by omega) (by omega)]; simp [e4]
  by_cases e5 : op = 5
  · rw [w64_id (n := a * b) (by omega) (by omega)]; simp [e5]
  by_cases e8 : op = 8
  · by_cases q : a < b <;> simp [e8, impl_arith_1, q]
  by_cases e9 : op = 9
  · by_cases q : a = b <;> simp [e9, impl_arith_1, q]
  by_cases eb : b = 0
  · have : op = 6 ∨ op = 7 := by omega
    rcases this with e | e <;> simp [e, eb]
  by_cases e6 : op = 6
  · have hq : (quoM a b) = some (w64 (a.tdiv b)) := by unfold quoM; simp [eb]
    have h1 : 0 ≤ a.tdiv b := Int.tdiv_nonneg a0 b0
    have h2 := Int.tdiv_le_self (a := a) b a0
    simp only [e6, hq, eb]
    rw [w64_id (n := a.tdiv b) (by omega) (by omega)]
    simp
  · have e7 : op = 7 := by omega
    have hq : (remM a b) = some (a.tmod b) := by unfold remM; simp [eb]
    simp [e7, hq, eb]

theorem doR_end (op a b : Int) : (doR op a b).2 = 0 ∨ (doR op a b).2 = 1 := by
  unfold doR
  repeat' split
  all_goals simp

/-- The called codes' model. -/
def CallEq (u : Unit_) (steps : Int) (k : Int) (N : Nat) (call : Nat → Int → List Int → St → Res) : Prop :=
  ∀ m k' args s, m < N → 0 ≤ k' → k' < k → (∀ v ∈ args, V v) → args.length ≤ 1048576 → GS s → s.said.length + m ≤ 200000 → s.trace.length + m + 1 ≤ 200000 →
    pimpl_running__code (mkI u steps m s) k' args false = some (toI u steps (call m k' args s))

theorem cell_ok {m : running} {n : Int} (h : V n) : pimpl_running__cell m n = some (if 16 ≤ n then .inr 2 else .inl n) := by
  unfold pimpl_running__cell impl_stop
  by_cases q : 16 ≤ n
  · simp [q]
  · have : idxA 16 n = some n := by unfold idxA; rw [if_pos ⟨h.1, by omega⟩]
    simp [q, this]

theorem argsLoop {c : Code_} {regs : List Int} (hr : GR c regs) {x : Ins_} (ha : ∀ r ∈ x.args, 0 ≤ r ∧ r < c.regs) (hl : x.args.length ≤ 1048576) :
    forN (fun (i7_1 : Int) (xs7_1 : (List Int)) => (Option.bind (pimpl_running__doIns_1 i7_1 regs x) fun r7_1 => Option.bind (appM xs7_1 ([r7_1] : List Int)) fun ys7_1 => some (.inl ys7_1) : Option (((List Int)) ⊕ (Empty)))) ((x.args.length : Int) - 0).toNat 0 [] = some (.inl (x.args.map (at_ regs))) := by
  rw [forN_loopL (xs := x.args) (fun (_ : Int) a (s : List Int) => Option.bind (appM s [at_ regs a]) fun ys => some (.inl ys)) (by
    intro l a r s h
    have h1 : at_ x.args (l.length : Int) = a := by
      unfold at_; rw [List.getD_eq_getElem?_getD, h]; simp
    rw [arg_ok hr ha (by omega) (by rw [h]; simp; omega), h1]; rfl)]
  have key : ∀ (l : List Int) (i : Int) (s : List Int), s.length + l.length ≤ 1048576 → loopL (fun (_ : Int) a (s : List Int) => Option.bind (appM s [at_ regs a]) fun ys => some (Sum.inl ys)) l i s = some (.inl (s ++ l.map (at_ regs)) : List Int ⊕ Empty) := by
    intro l
    induction l with
    | nil => intro i s _; simp [loopL]
    | cons a l ih =>
      intro i s h
      simp only [List.length_cons] at h
      simp only [loopL, appM_ok (xs := s) (ys := [at_ regs a]) (by simp; omega), Option.bind_some]
      rw [ih _ _ (by simp; omega)]
      simp
  rw [key x.args 0 [] (by simpa using hl)]
  simp

theorem par_small {u : Unit_} (hu : Ok u) {k : Int} {c : Code_} (hk : getI u.codes k = some c) {x : Ins_} (hx : IOk u k c x) : x.args.length ≤ 3 := by
  by_cases h : x.op = 14
  · obtain ⟨h1, h2, h3⟩ := hx.call h
    have hkp := getI_pos hk
    obtain ⟨d, hd⟩ := getI_of (xs := u.codes) h1 (by omega)
    have := (hu.cok hd).params
    unfold parOf at h3
    rw [hd] at h3
    simp only at h3
    omega
  · have := hx.plain h
    unfold nargs at this
    split at this
    · omega
    · split at this <;> omega

theorem doIns_ok {u : Unit_} (hu : Ok u) {steps : Int} (hst : steps ≤ 60000) {k : Int} {c : Code_} (hk : getI u.codes k = some c) {call : Nat → Int → List Int → St → Res} {x : Ins_} {n : Nat} {regs : List Int} {s : St} (hn : (n : Int) ≤ steps)
    (hc : CallEq u steps k n call) (hx : IOk u k c x) (hr : GR c regs) (hs : GS s) (h1 : s.said.length + n ≤ 200000) (h2 : s.trace.length + n ≤ 200000) :
    pimpl_running__doIns (mkI u steps n s) x regs = some (toII u steps regs (runI call [x] n regs s)) := by
  rw [pimpl_running__doIns]
  cases n with
  | zero => rw [tick_zero]; rfl
  | succ n =>
    rw [tick_succ hst n s hn]
    simp only [Option.bind_some, Sum.elim_inl]
    have hargs := par_small hu hk hx
    have hto : x.op ≠ 12 → x.op ≠ 13 → getI regs x.to = some (at_ regs x.to) := fun a b => at_get (hx.to a b).1 (by rw [hr.1]; exact (hx.to a b).2)
    by_cases e14 : x.op = 14
    · simp only [runI, effI_14 regs s e14, e14]
      rw [argsLoop hr hx.args (by omega)]
      simp only [Option.bind_some, Sum.elim_inl]
      obtain ⟨c1, c2, c3⟩ := hx.call e14
      have := hc n x.n_ (x.args.map (at_ regs)) s (by omega) c1 c2 (fun v hv => by
        obtain ⟨a, _, rfl⟩ := List.mem_map.1 hv
        exact at_V hr.2 _) (by simp; omega) hs (by omega) (by omega)
      change Option.bind (Option.bind (Option.bind (Option.bind (Option.bind (Option.bind (Option.bind (pimpl_running__code (mkI u steps n s) x.n_ (x.args.map (at_ regs)) false) _) _) _) _) _) _) _ = _
      rw [this]
      cases call n x.n_ (x.args.map (at_ regs)) s with
      | done v m s' =>
        simp only [toI, Option.bind_some, Sum.elim_inl, hto (by omega) (by omega)]
        rfl
      | stop e m s' => rfl
    obtain ⟨va, vb⟩ := arg_V hr hx e14
    have hpl := hx.plain e14
    have hop := hx.op
    have g0 : 0 < x.args.length → pimpl_running__doIns_1 0 regs x = some (argA x regs) := fun h => by
      rw [arg_ok hr hx.args (by decide) (by omega)]; unfold argA; rw [if_pos h]
    have g1 : 1 < x.args.length → pimpl_running__doIns_1 1 regs x = some (argB x regs) := fun h => by
      rw [arg_ok hr hx.args (by decide) (by omega)]; unfold argB; rw [if_pos h]
    have he : inB x.op 1 10 = true → effI x regs s = if (doR x.op (argA x regs) (argB x regs)).2 = 0 then .set (doR x.op (argA x regs) (argB x regs)).1 else .bad (doR x.op (argA x regs) (argB x regs)).2 := fun h => by
      unfold effI; rw [if_pos h]
    by_cases e1 : x.op = 1
    · have hl : x.args.length = 0 := by rw [e1] at hpl; simpa [nargs] using hpl
      have hA : argA x regs = x.n_ := by unfold argA; rw [if_neg (by omega)]
      rw [e1] at he
      have he := he (by decide)
      simp [runI, he, e1, doR, hA, hto (by omega) (by omega), toII, mkI]
    by_cases e11 : x.op = 11
    · have hl : x.args.length = 1 := by rw [e11] at hpl; simp [nargs] at hpl; omega
      have hef : effI x regs s = if 16 ≤ argA x regs then .bad 2 else .set (at_ s.cells (argA x regs)) := by
        unfold effI; simp [e11, inB]
      by_cases q : 16 ≤ argA x regs
      · simp [runI, hef, e11, g0 (by omega), cell_ok va, q, toII, mkI]
      · simp [runI, hef, e11, g0 (by omega), cell_ok va, q, hto (by omega) (by omega), toII, mkI, at_]
    by_cases e12 : x.op = 12
    · have hl : x.args.length = 2 := by rw [e12] at hpl; simp [nargs] at hpl; omega
      have hef : effI x regs s = if 16 ≤ argA x regs then .bad 2 else .put (argA x regs) (argB x regs) := by
        unfold effI; simp [e12, inB]
      by_cases q : 16 ≤ argA x regs
      · simp [runI, hef, e12, g0 (by omega), cell_ok va, q, toII, mkI]
      · have hset := setA_eq hs.1 (i := (argA x regs).toNat) (by have := va.1; omega) (argB x regs)
        simp [runI, hef, e12, g0 (by omega), g1 (by omega), cell_ok va, q, toII, mkI, hset]
    by_cases e13 : x.op = 13
    · have hl : x.args.length = 1 := by rw [e13] at hpl; simp [nargs] at hpl; omega
      have hef : effI x regs s = .say (argA x regs) := by unfold effI; simp [e13, inB]
      have happ := appM_ok (xs := s.said) (ys := [argA x regs]) (by simp; omega)
      simp [runI, hef, e13, g0 (by omega), toII, mkI, happ]
    by_cases e2 : x.op = 2
    · have hl : x.args.length = 1 := by rw [e2] at hpl; simp [nargs] at hpl; omega
      rw [e2] at he
      have he := he (by decide)
      simp [runI, he, e2, doR, g0 (by omega), hto (by omega) (by omega), toII, mkI]
    by_cases e10 : x.op = 10
    · have hl : x.args.length = 1 := by rw [e10] at hpl; simp [nargs] at hpl; omega
      rw [e10] at he
      have he := he (by decide)
      have ha : impl_arith 11 (argA x regs) 0 = some (if argA x regs = 0 then 1 else 0, true) := by
        unfold impl_arith impl_arith_1
        by_cases q : argA x regs = 0 <;> simp [q]
      simp [runI, he, e10, doR, g0 (by omega), ha, hto (by omega) (by omega), toII, mkI]
    have hl : x.args.length = 2 := by
      unfold nargs at hpl
      rw [if_neg e1, if_neg (by omega)] at hpl
      omega
    have he := he (by rw [inB_iff]; omega)
    have ha := arith_ok (op := x.op) (by omega) va vb
    by_cases q : (doR x.op (argA x regs) (argB x regs)).2 = 0
    · rw [if_pos q] at he
      simp [runI, he, e1, e2, e10, e11, e12, e13, e14, g0 (by omega), g1 (by omega), ha, q, hto (by omega) (by omega), toII, mkI]
    · rw [if_neg q] at he
      have h1 : (doR x.op (argA x regs) (argB x regs)).2 = 1 := (doR_end _ _ _).resolve_left q
      simp [runI, he, e1, e2, e10, e11, e12, e13, e14, g0 (by omega), g1 (by omega), ha, h1, toII, mkI, impl_stop]
end Unt
end Go.Wk
