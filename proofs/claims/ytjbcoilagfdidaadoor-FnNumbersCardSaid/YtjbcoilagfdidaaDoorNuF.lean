/- A part of the proof of FnNumbersCardSaid. -/
import Derived.Test.YtjbcoilagfdidaaDoorNuE
/- A run keeps what holds. -/
namespace Go.Wk
open Go
namespace Unt
set_option maxRecDepth 10000

def Le (n : Nat) (s : St) (n' : Nat) (s' : St) : Prop := n' ≤ n ∧ s'.said.length + n' ≤ s.said.length + n ∧ s'.trace.length + n' ≤ s.trace.length + n
theorem Le.refl (n : Nat) (s : St) : Le n s n s := ⟨Nat.le_refl _, Nat.le_refl _, Nat.le_refl _⟩
theorem Le.trans {a b c : Nat} {s t r : St} (h : Le a s b t) (k : Le b t c r) : Le a s c r := ⟨Nat.le_trans k.1 h.1, Nat.le_trans k.2.1 h.2.1, Nat.le_trans k.2.2 h.2.2⟩

def ResOk (n : Nat) (s : St) : Res → Prop
  | .done v m s' => V v ∧ m < n ∧ GS s' ∧ Le n s m s'
  | .stop _ m s' => GS s' ∧ Le n s m s'
def RIOk (c : Code_) (n : Nat) (s : St) : RI → Prop
  | .ok m regs s' => GR c regs ∧ GS s' ∧ Le n s m s'
  | .stop _ m s' => GS s' ∧ Le n s m s'

theorem GR.set {c : Code_} {regs : List Int} (h : GR c regs) {i : Nat} {x : Int} (hx : V x) : GR c (regs.set i x) := ⟨by simpa using h.1, set_V h.2 hx⟩
theorem arg_V {c : Code_} {regs : List Int} (h : GR c regs) {u : Unit_} {k : Int} {x : Ins_} (hi : IOk u k c x) : x.op ≠ 14 → V (argA x regs) ∧ V (argB x regs) := fun h14 => by
  refine ⟨?_, ?_⟩
  · unfold argA
    by_cases q : 0 < x.args.length
    · rw [if_pos q]; exact at_V h.2 _
    · rw [if_neg q]
      refine hi.num ?_
      have := hi.plain h14
      unfold nargs at this
      by_cases e : x.op = 1
      · exact e
      · rw [if_neg e] at this
        split at this <;> omega
  · unfold argB
    by_cases q : 1 < x.args.length
    · rw [if_pos q]; exact at_V h.2 _
    · rw [if_neg q]; exact ⟨by decide, by decide⟩

theorem effI_14 {x : Ins_} (regs : List Int) (s : St) (h : x.op = 14) : effI x regs s = .call := by
  unfold effI; simp [h, inB]

theorem phiSet_len : ∀ (fs : List Phi_) (vs r : List Int), (phiSet fs vs r).length = r.length
  | [], _, _ => by simp [phiSet]
  | f :: fs, [], r => by simp [phiSet]
  | f :: fs, v :: vs, r => by simp [phiSet, phiSet_len fs vs]
theorem phiSet_V : ∀ (fs : List Phi_) (vs r : List Int), (∀ v ∈ r, V v) → (∀ v ∈ vs, V v) → ∀ v ∈ phiSet fs vs r, V v
  | [], _, _, h, _ => by simpa [phiSet] using h
  | f :: fs, [], r, h, _ => by simpa [phiSet] using h
  | f :: fs, v :: vs, r, h, hv => by
    simp only [phiSet]
    exact phiSet_V fs vs _ (set_V h (hv v (by simp))) (fun w hw => hv w (by simp [hw]))
theorem enter_GR {c : Code_} {regs : List Int} (h : GR c regs) (src b : Int) : GR c (enter c src b regs) := by
  refine ⟨by unfold enter; rw [phiSet_len]; exact h.1, phiSet_V _ _ _ h.2 fun v hv => ?_⟩
  unfold phiVals at hv
  obtain ⟨f, _, rfl⟩ := List.mem_map.1 hv
  exact at_V h.2 _
theorem init_GR {u : Unit_} {k : Int} {c : Code_} (hc : COk u k c) {inn : List Int} (hv : ∀ v ∈ inn, V v) : GR c (initR c inn) := by
  refine ⟨?_, fun v h => ?_⟩
  · unfold initR
    have := hc.regs
    simp only [List.length_append, List.length_take, List.length_replicate]
    omega
  · unfold initR at h
    rcases List.mem_append.1 h with h | h
    · exact hv v (List.mem_of_mem_take h)
    · rw [List.mem_replicate] at h
      rw [h.2]; exact ⟨by decide, by decide⟩

/-- What a called code gives back. -/
def CallOk (u : Unit_) (k : Int) (N : Nat) (call : Nat → Int → List Int → St → Res) : Prop :=
  ∀ m k' args s, m ≤ N → 0 ≤ k' → k' < k → (∀ v ∈ args, V v) → GS s → ResOk m s (call m k' args s)

theorem runI_ok {u : Unit_} {k : Int} {c : Code_} {call : Nat → Int → List Int → St → Res} : ∀ (r : List Ins_) (n : Nat) (regs : List Int) (s : St), CallOk u k n call → (∀ x ∈ r, IOk u k c x) → GR c regs → GS s → RIOk c n s (runI call r n regs s)
  | [], n, regs, s, _, _, hr, hs => ⟨hr, hs, Le.refl _ _⟩
  | x :: r, 0, regs, s, _, _, _, hs => ⟨hs, Le.refl _ _⟩
  | x :: r, n + 1, regs, s, hc, hi, hr, hs => by
    have hx := hi x (by simp)
    have hi' : ∀ y ∈ r, IOk u k c y := fun y hy => hi y (by simp [hy])
    have hc' : ∀ m, m ≤ n → CallOk u k m call := fun m hm a b d e h1 h2 h3 h4 h5 => hc a b d e (by omega) h2 h3 h4 h5
    have step : ∀ (s' : St) (res : RI), s'.said.length ≤ s.said.length + 1 → s'.trace.length ≤ s.trace.length + 1 → RIOk c n s' res → RIOk c (n + 1) s res := fun s' res h1 h2 h => by
      cases res with
      | ok m regs s2 => exact ⟨h.1, h.2.1, by have := h.2.2; unfold Le at *; omega⟩
      | stop e m s2 => exact ⟨h.1, by have := h.2; unfold Le at *; omega⟩
    by_cases h14 : x.op = 14
    · simp only [runI, effI_14 regs s h14]
      have hcall := hx.call h14
      have := hc n x.n_ (x.args.map (at_ regs)) s (by omega) hcall.1 hcall.2.1 (fun v hv => by
        obtain ⟨a, _, rfl⟩ := List.mem_map.1 hv
        exact at_V hr.2 _) hs
      cases hres : call n x.n_ (x.args.map (at_ regs)) s with
      | stop e m s' =>
        rw [hres] at this
        exact ⟨this.1, by have := this.2; unfold Le at *; omega⟩
      | done v m s' =>
        rw [hres] at this
        obtain ⟨h1, h2, h3, h4⟩ := this
        have := runI_ok r m (regs.set x.to.toNat v) s' (hc' m (by omega)) hi' (hr.set h1) h3
        simp only
        cases hq : runI call r m (regs.set x.to.toNat v) s' with
        | ok m2 regs2 s2 =>
          rw [hq] at this
          exact ⟨this.1, this.2.1, by have := this.2.2; unfold Le at *; omega⟩
        | stop e m2 s2 =>
          rw [hq] at this
          exact ⟨this.1, by have := this.2; unfold Le at *; omega⟩
    · obtain ⟨ha, hb⟩ := arg_V hr hx h14
      simp only [runI]
      unfold effI
      by_cases q1 : inB x.op 1 10 = true
      · rw [if_pos q1]
        by_cases q2 : (doR x.op (argA x regs) (argB x regs)).2 = 0
        · rw [if_pos q2]
          exact step s _ (by omega) (by omega) (runI_ok r n _ s (hc' n (by omega)) hi' (hr.set (doR_V ha hb q2)) hs)
        · rw [if_neg q2]
          exact ⟨hs, by unfold Le; omega⟩
      rw [if_neg q1]
      by_cases q2 : x.op = 13
      · rw [if_pos q2]
        exact step { s with said := s.said ++ [argA x regs] } _ (by simp) (by simp) (runI_ok r n _ _ (hc' n (by omega)) hi' hr hs)
      rw [if_neg q2, if_neg h14]
      by_cases q3 : 16 ≤ argA x regs
      · rw [if_pos q3]
        exact ⟨hs, by unfold Le; omega⟩
      rw [if_neg q3]
      by_cases q4 : x.op = 11
      · rw [if_pos q4]
        exact step s _ (by omega) (by omega) (runI_ok r n _ s (hc' n (by omega)) hi' (hr.set (at_V hs.2 _)) hs)
      · rw [if_neg q4]
        exact step { s with cells := s.cells.set (argA x regs).toNat (argB x regs) } _ (by simp) (by simp) (runI_ok r n _ _ (hc' n (by omega)) hi' hr ⟨by simpa using hs.1, set_V hs.2 hb⟩)

theorem tr_GS {u : Unit_} {k : Int} {s : St} {b : Int} (h : GS s) : GS (tr u k s b) := by
  unfold tr; split <;> exact h
theorem tr_callee {u : Unit_} {k : Int} {s : St} {b : Int} (h : k < lastI u) : tr u k s b = s := by
  unfold tr; rw [if_neg (by omega)]
theorem tr_len {u : Unit_} {k : Int} {s : St} {b : Int} : (tr u k s b).trace.length ≤ s.trace.length + 1 ∧ (tr u k s b).said = s.said := by
  unfold tr; split <;> simp

theorem next_in {u : Unit_} {k : Int} {c : Code_} {b : Int} {x : Block_} (h : BOk u k c b x) (h3 : x.jump ≠ 3) (regs : List Int) : nextB x regs ∈ x.next_ := by
  unfold nextB
  rcases h.jump with ⟨h1, h2, _⟩ | ⟨h1, h2, _⟩ | ⟨h1, _⟩
  · rw [if_pos (.inl h1)]
    exact (getI_some.1 (at_get (l := x.next_) (i := 0) (by decide) (by omega))) |>.2 |> List.mem_of_getElem?
  · split
    · exact (getI_some.1 (at_get (l := x.next_) (i := 0) (by decide) (by omega))) |>.2 |> List.mem_of_getElem?
    · exact (getI_some.1 (at_get (l := x.next_) (i := 1) (by decide) (by omega))) |>.2 |> List.mem_of_getElem?
  · exact absurd h1 h3

theorem getI_of {α : Type} {xs : List α} {i : Int} (h0 : 0 ≤ i) (h : i < (xs.length : Int)) : ∃ x, getI xs i = some x := ⟨_, getI_lt h0 h⟩

theorem exec_ok {u : Unit_} (hu : Ok u) : ∀ (g n : Nat) (k : Int) (c : Code_) (regs : List Int) (b : Int) (s : St), getI u.codes k = some c → (∃ x, getI c.blocks b = some x) → GR c regs → GS s → ResOk n s (exec u g n k c regs b s) := by
  intro g
  induction g with
  | zero => intro n k c regs b s _ _ _ hs; exact ⟨hs, Le.refl _ _⟩
  | succ g ih =>
    intro n k c regs b s hk ⟨x, hx⟩ hr hs
    have hc := hu.cok hk
    have hb := hc.bok hx
    have hkp := getI_pos hk
    rw [exec_succ, blkAt_get hx]
    have hcall : CallOk u k n (callE u g) := fun m k' args s hm h0 hlt hv hs' => by
      obtain ⟨d, hd⟩ := getI_of (xs := u.codes) h0 (by omega)
      unfold callE
      rw [hd]
      have hdc := hu.cok hd
      simp only
      rw [tr_callee (by unfold lastI; omega)]
      exact ih m k' d _ 0 s hd (getI_of (by decide) (by have := hdc.nb; omega)) (init_GR hdc hv) hs'
    have h1 := runI_ok (c := c) x.ins n regs s hcall (fun y hy => iok (hb.ins y hy)) hr hs
    cases hq : runI (callE u g) x.ins n regs s with
    | stop e m s' => rw [hq] at h1; exact h1
    | ok m regs' s' =>
      rw [hq] at h1
      obtain ⟨g1, g2, g3⟩ := h1
      cases m with
      | zero => exact ⟨g2, g3⟩
      | succ m =>
        simp only
        by_cases hj : x.jump = 3
        · rw [if_pos hj]
          exact ⟨at_V g1.2 _, by unfold Le at g3; omega, g2, by unfold Le at *; omega⟩
        · rw [if_neg hj]
          have hn := hb.next _ (next_in hb hj regs')
          have := ih m k c (enter c b (nextB x regs') regs') (nextB x regs') (tr u k s' (nextB x regs')) hk (getI_of (by omega) hn.2) (enter_GR g1 _ _) (tr_GS g2)
          have ht := tr_len (u := u) (k := k) (s := s') (b := nextB x regs')
          cases hq2 : exec u g m k c (enter c b (nextB x regs') regs') (nextB x regs') (tr u k s' (nextB x regs')) with
          | done v m2 s2 =>
            rw [hq2] at this
            obtain ⟨r1, r2, r3, r4⟩ := this
            refine ⟨r1, by unfold Le at *; omega, r3, ?_⟩
            unfold Le at *
            rw [ht.2] at r4
            omega
          | stop e m2 s2 =>
            rw [hq2] at this
            obtain ⟨r3, r4⟩ := this
            refine ⟨r3, ?_⟩
            unfold Le at *
            rw [ht.2] at r4
            omega
end Unt
end Go.Wk
