/- A part of the proof of FnNumbersCardSaid. -/
import Derived.Test.YtjbcoilagfdidaaDoorNuI
/- The reference's run of a code. -/
namespace Go.Wk
open Go
namespace Unt
set_option maxRecDepth 10000

theorem findIdx (v : Int) (xs : List Int) (hl : xs.length ≤ 1048576) : ∀ (r l : List Int), xs = l ++ r → v ∈ r →
    loopM (fun (xs2_1 : Int) => (Option.bind (getI xs xs2_1) fun x2_1 => if decide (x2_1 ≠ v) then some (.inl (w64 (xs2_1 + 1))) else some (.inr xs2_1) : Option (Int ⊕ Int))) (l.length : Int) = some (idx v r (l.length : Int))
  | x :: r, l, h, hv => by
    have hx : getI xs (l.length : Int) = some x := by rw [h, getI_mid]
    by_cases e : v = x
    · rw [loopM_inr (x := (l.length : Int)) (by rw [hx]; simp [e])]
      unfold idx; rw [if_pos e]
    · have hlen : l.length < xs.length := by rw [h]; simp
      rw [loopM_inl (s' := (l.length : Int) + 1) (by rw [hx]; simp [Ne.symm e]; exact w64_id (by omega) (by omega))]
      have := findIdx v xs hl r (l ++ [x]) (by rw [h]; simp) (by simpa [e] using hv)
      rw [show ((l ++ [x]).length : Int) = (l.length : Int) + 1 by simp] at this
      rw [this]
      conv => rhs; unfold idx
      rw [if_neg e]

theorem valLoop (fs : List Phi_) (at0 : Int) (regs : List Int) (hl : fs.length ≤ 1048576) (hf : ∀ f ∈ fs, getI f.args at0 = some (at_ f.args at0) ∧ getI regs (at_ f.args at0) = some (at_ regs (at_ f.args at0))) :
    forN (S := (List Int)) (X := Empty) (fun i1_1 xs1_1 => Option.bind (getI fs i1_1) fun x1_1 => Option.bind (getI x1_1.args at0) fun x1_2 => Option.bind (getI regs x1_2) fun x1_3 => Option.bind (appM xs1_1 ([x1_3] : List Int)) fun ys1_1 => some (.inl ys1_1)) (((fs.length : Int) : Int) - 0).toNat 0 ([] : List Int) =
      some (.inl (fs.map fun f => at_ regs (at_ f.args at0))) := by
  rw [forN_loopL (xs := fs) (fun (_ : Int) f (s : List Int) => if f ∈ fs then Option.bind (appM s [at_ regs (at_ f.args at0)]) fun ys => some (.inl ys) else none) (by
    intro l f r s h
    have hm : f ∈ fs := by rw [h]; simp
    rw [if_pos hm, h, getI_mid, Option.bind_some, (hf f hm).1, Option.bind_some, (hf f hm).2, Option.bind_some])]
  have key : ∀ (l : List Phi_) (i : Int) (s : List Int), (∀ a ∈ l, a ∈ fs) → s.length + l.length ≤ 1048576 → loopL (fun (_ : Int) f (s : List Int) => if f ∈ fs then Option.bind (appM s [at_ regs (at_ f.args at0)]) fun ys => some (Sum.inl ys) else none) l i s = some (.inl (s ++ l.map fun f => at_ regs (at_ f.args at0)) : List Int ⊕ Empty) := by
    intro l
    induction l with
    | nil => intro i s _ _; simp [loopL]
    | cons a l ih =>
      intro i s hh h
      simp only [List.length_cons] at h
      simp only [loopL, hh a (by simp), if_true, appM_ok (xs := s) (ys := [at_ regs (at_ a.args at0)]) (by simp; omega), Option.bind_some]
      rw [ih _ _ (fun b hb => hh b (by simp [hb])) (by simp; omega)]
      simp
  rw [key fs 0 [] (fun _ h => h) (by simpa using hl)]
  simp

theorem phis_ok {u : Unit_} (hu : Ok u) {k : Int} {c : Code_} (hk : getI u.codes k = some c) {b src : Int} {x y : Block_} (hx : getI c.blocks b = some x) (hy : getI c.blocks src = some y) (hb : b ∈ y.next_) {regs : List Int} (hr : GR c regs) (r : l8Run) :
    pspec_l8Run__phis r c src b regs = some (enter c src b regs) := by
  have hc := hu.cok hk
  have hmemc : c ∈ u.codes := by obtain ⟨_, h⟩ := getI_some.1 hk; exact List.mem_of_getElem? h
  have hsm := hu.small c hmemc x (by obtain ⟨_, h⟩ := getI_some.1 hx; exact List.mem_of_getElem? h)
  have hbok := hc.bok hx
  unfold pspec_l8Run__phis
  rw [hx, Option.bind_some]
  by_cases h3 : x.phis.length = 0
  · have : x.phis = [] := List.eq_nil_of_length_eq_zero h3
    unfold enter
    rw [blkAt_get hx, this]
    simp [phiSet]
  have hsrc := predsL_mem hy hb
  have hpl := predsL_len c b
  rw [if_neg (by simp; exact fun h => h3 (by rw [h]; rfl)), l7Preds_ok c b (by have := hc.nb; omega) (fun z hz => (hu.small c hmemc z hz).2.2), Option.bind_some]
  have hfi := findIdx src (predsL c b) (by have := hc.nb; omega) (predsL c b) [] rfl hsrc
  simp only [List.length_nil, Int.ofNat_zero] at hfi
  have hfi' : loopM (S := Int) (X := Int) (fun xs2_1 => Option.bind (getI (predsL c b) xs2_1) fun x2_1 => if decide (x2_1 ≠ src) then some (.inl (w64 (xs2_1 + 1))) else some (.inr xs2_1)) 0 = some (idx src (predsL c b) 0) := hfi
  rw [hfi', Option.bind_some, Option.bind_some]
  have hi := idx_lt (i := 0) hsrc
  rw [valLoop x.phis (idx src (predsL c b) 0) regs (by omega) (fun f hfm => by
    have hp := hbok.phis f hfm
    have hlen := hp.2.2.1
    have ha := at_get (l := f.args) hi.1 (by omega)
    have := hp.2.2.2 _ (List.mem_of_getElem? (getI_some.1 ha).2)
    exact ⟨ha, at_get this.1 (by rw [hr.1]; exact this.2)⟩), Option.bind_some, Sum.elim_inl]
  have := phiSetLoop (c := c) x.phis (fun f hfm => (hbok.phis f hfm).2.1) x.phis [] (x.phis.map fun f => at_ regs (at_ f.args (idx src (predsL c b) 0))) [] regs
    (fun i1_2 xs1_2 => Option.bind (getI (x.phis.map fun f => at_ regs (at_ f.args (idx src (predsL c b) 0))) i1_2) fun x1_4 => Option.bind (getI x.phis i1_2) fun x1_5 => Option.bind (getI xs1_2 x1_5.to) fun x1_6 => some (.inl (xs1_2.set (x1_5.to).toNat x1_4)))
    rfl rfl (by simp) hr.1 (by
      intro l r f v s h hv hs
      have hfm : f ∈ x.phis := by rw [h]; simp
      have ht := (hbok.phis f hfm).2.1
      have : getI x.phis (l.length : Int) = some f := by rw [h, getI_mid]
      simp only [List.nil_append] at hv
      rw [hv, Option.bind_some, this, Option.bind_some, at_get ht.1 (by rw [hs]; exact ht.2)]; rfl)
  rw [show (((x.phis.map fun f => at_ regs (at_ f.args (idx src (predsL c b) 0))).length : Int) - 0).toNat = x.phis.length by simp]
  change Option.bind (forN _ x.phis.length ((List.length ([] : List Phi_) : Nat) : Int) regs) _ = _
  rw [this]
  unfold enter phiVals
  rw [blkAt_get hx]; rfl

abbrev S8 := List Int × Int × Int × List Int × Int × Bool × List Int × List Int
noncomputable def insGS (u : Unit_) (_ : Int) (x3_1 : Ins_) (xs2_1 : S8) : Option (S8 ⊕ (Int × l8Run)) :=
  Option.bind (pspec_l8Run__take (⟨u, (⟨xs2_1.1, xs2_1.2.1, xs2_1.2.2.1, xs2_1.2.2.2.1⟩ : Outcome_), xs2_1.2.2.2.2.1, xs2_1.2.2.2.2.2.1, xs2_1.2.2.2.2.2.2.1⟩ : l8Run)) fun r2_1 => Option.bind (if r2_1.1 then Option.bind (pspec_l8Run__ins (⟨u, r2_1.2.out, r2_1.2.steps, r2_1.2.over, r2_1.2.trace⟩ : l8Run) x3_1 xs2_1.2.2.2.2.2.2.2) fun r3_1 => some (r3_1.1.out.said, r3_1.1.out.end_, r3_1.1.out.value, r3_1.1.out.cells, r3_1.1.steps, r3_1.1.over, r3_1.1.trace, r3_1.2) else some (r2_1.2.out.said, r2_1.2.out.end_, r2_1.2.out.value, r2_1.2.out.cells, r2_1.2.steps, r2_1.2.over, r2_1.2.trace, xs2_1.2.2.2.2.2.2.2) : Option ((List Int) × Int × Int × (List Int) × Int × Bool × (List Int) × (List Int))) fun s2_1 => if s2_1.2.2.2.2.2.1 then some (.inr (0, (⟨u, (⟨s2_1.1, s2_1.2.1, s2_1.2.2.1, s2_1.2.2.2.1⟩ : Outcome_), s2_1.2.2.2.2.1, s2_1.2.2.2.2.2.1, s2_1.2.2.2.2.2.2.1⟩ : l8Run))) else some (.inl (s2_1.1, s2_1.2.1, s2_1.2.2.1, s2_1.2.2.2.1, s2_1.2.2.2.2.1, s2_1.2.2.2.2.2.1, s2_1.2.2.2.2.2.2.1, s2_1.2.2.2.2.2.2.2))

def toLS (u : Unit_) : RI → S8 ⊕ (Int × l8Run)
  | .ok n regs s => .inl (s.said, 0, 0, s.cells, n, false, s.trace, regs)
  | .stop e n s => .inr (0, stS u e n s)

theorem insLoopS {u : Unit_} (hu : Ok u) {k : Int} {c : Code_} (hk : getI u.codes k = some c) {call : Nat → Int → List Int → St → Res} {ins : List Ins_} (hi : ∀ x ∈ ins, IOk u k c x) (N : Nat) (hN0 : N ≤ 60000)
    (hce : CallEqS u k N call) (hco : CallOk u k N call) : ∀ (r : List Ins_) (i : Int) (n : Nat) (regs : List Int) (s : St), (∀ x ∈ r, x ∈ ins) → n ≤ N → GR c regs → GS s → s.said.length + n ≤ 200000 → s.trace.length + n ≤ 200000 →
    loopL (insGS u) r i (s.said, 0, 0, s.cells, (n : Int), false, s.trace, regs) = some (toLS u (runI call r n regs s))
  | [], i, n, regs, s, _, _, _, _, _, _ => rfl
  | x :: r, i, n, regs, s, hmem, hN, hr, hs, h1, h2 => by
    have hx := hi x (hmem x (by simp))
    have hco' : CallOk u k n call := fun a b d e h => hco a b d e (by omega)
    have hro := runI_ok (u := u) (k := k) (c := c) [x] n regs s hco' (fun y hy => by simp at hy; subst hy; exact hx) hr hs
    have hg : insGS u i x (s.said, 0, 0, s.cells, (n : Int), false, s.trace, regs) = some (toLS u (runI call [x] n regs s)) := by
      unfold insGS
      change Option.bind (pspec_l8Run__take (mkS u n s)) _ = _
      cases n with
      | zero => rw [take_zero]; rfl
      | succ n =>
        rw [take_succ u n s (by omega), Option.bind_some]
        have hce' : CallEqS u k (n + 1) call := fun a b d e h => hce a b d e (by omega)
        obtain ⟨rg, hd⟩ := ins_ok hu hk hce' hx hr hs h1 h2
        simp only [if_true]
        change Option.bind (Option.bind (pspec_l8Run__ins (mkS u n s) x regs) _) _ = _
        rw [hd, Option.bind_some, Option.bind_some]
        cases runI call [x] (n + 1) regs s <;> rfl
    rw [runI_cons]
    simp only [loopL, hg]
    cases hq : runI call [x] n regs s with
    | stop e m' s' => rfl
    | ok n' regs' s' =>
      rw [hq] at hro
      obtain ⟨g1, g2, g3⟩ := hro
      exact insLoopS hu hk hi N hN0 hce hco r (i + 1) n' regs' s' (fun y hy => hmem y (by simp [hy])) (by unfold Le at g3; omega) g1 g2 (by unfold Le at g3; omega) (by unfold Le at g3; omega)

theorem headS_ok {u : Unit_} (hu : Ok u) : ∀ (g n : Nat) (k : Int) (c : Code_) (m : l8Run) (regs : List Int) (b : Int) (s : St), n < g → n ≤ 60000 → getI u.codes k = some c → m.u = u →
    (∃ x, getI c.blocks b = some x) → GR c regs → GS s → s.said.length + n ≤ 200000 → s.trace.length + n + 1 ≤ 200000 →
    loopM (fun (xs1_1 : (List Int) × Int × Int × (List Int) × Int × Bool × (List Int) × (List Int) × Int) => (Option.bind (getI c.blocks xs1_1.2.2.2.2.2.2.2.2) fun x1_1 => Option.bind (if decide (k = (((m.u.codes.length : Int)) - 1)) then Option.bind (appM xs1_1.2.2.2.2.2.2.1 ([xs1_1.2.2.2.2.2.2.2.2] : List Int)) fun ys2_1 => some ys2_1 else some xs1_1.2.2.2.2.2.2.1 : Option ((List Int))) fun s1_1 => Option.bind (forN (S := (List Int) × Int × Int × (List Int) × Int × Bool × (List Int) × (List Int)) (X := Int × l8Run) (fun i2_1 xs2_1 => Option.bind (pspec_l8Run__take (⟨m.u, (⟨xs2_1.1, xs2_1.2.1, xs2_1.2.2.1, xs2_1.2.2.2.1⟩ : Outcome_), xs2_1.2.2.2.2.1, xs2_1.2.2.2.2.2.1, xs2_1.2.2.2.2.2.2.1⟩ : l8Run)) fun r2_1 => Option.bind (if r2_1.1 then Option.bind (getI x1_1.ins i2_1) fun x3_1 => Option.bind (pspec_l8Run__ins (⟨m.u, r2_1.2.out, r2_1.2.steps, r2_1.2.over, r2_1.2.trace⟩ : l8Run) x3_1 xs2_1.2.2.2.2.2.2.2) fun r3_1 => some (r3_1.1.out.said, r3_1.1.out.end_, r3_1.1.out.value, r3_1.1.out.cells, r3_1.1.steps, r3_1.1.over, r3_1.1.trace, r3_1.2) else some (r2_1.2.out.said, r2_1.2.out.end_, r2_1.2.out.value, r2_1.2.out.cells, r2_1.2.steps, r2_1.2.over, r2_1.2.trace, xs2_1.2.2.2.2.2.2.2) : Option ((List Int) × Int × Int × (List Int) × Int × Bool × (List Int) × (List Int))) fun s2_1 => if s2_1.2.2.2.2.2.1 then some (.inr (0, (⟨m.u, (⟨s2_1.1, s2_1.2.1, s2_1.2.2.1, s2_1.2.2.2.1⟩ : Outcome_), s2_1.2.2.2.2.1, s2_1.2.2.2.2.2.1, s2_1.2.2.2.2.2.2.1⟩ : l8Run))) else some (.inl (s2_1.1, s2_1.2.1, s2_1.2.2.1, s2_1.2.2.2.1, s2_1.2.2.2.2.1, s2_1.2.2.2.2.2.1, s2_1.2.2.2.2.2.2.1, s2_1.2.2.2.2.2.2.2))) (((x1_1.ins.length : Int) : Int) - 0).toNat 0 (xs1_1.1, xs1_1.2.1, xs1_1.2.2.1, xs1_1.2.2.2.1, xs1_1.2.2.2.2.1, xs1_1.2.2.2.2.2.1, s1_1, xs1_1.2.2.2.2.2.2.2.1)) (Sum.elim (fun xs1_2 => Option.bind (pspec_l8Run__take (⟨m.u, (⟨xs1_2.1, xs1_2.2.1, xs1_2.2.2.1, xs1_2.2.2.2.1⟩ : Outcome_), xs1_2.2.2.2.2.1, xs1_2.2.2.2.2.2.1, xs1_2.2.2.2.2.2.2.1⟩ : l8Run)) fun r1_2 => if !(r1_2.1) then some (.inr (0, (⟨m.u, r1_2.2.out, r1_2.2.steps, r1_2.2.over, r1_2.2.trace⟩ : l8Run))) else Option.bind (if decide (x1_1.jump = 3) then Option.bind (getI xs1_2.2.2.2.2.2.2.2 x1_1.on) fun x2_1 => some (.inr (x2_1, (⟨m.u, r1_2.2.out, r1_2.2.steps, r1_2.2.over, r1_2.2.trace⟩ : l8Run))) else Option.bind (if decide (x1_1.jump = 1) then some true else Option.bind (getI xs1_2.2.2.2.2.2.2.2 x1_1.on) fun x3_2 => some (decide (x3_2 ≠ 0)) : Option (Bool)) fun s2_2 => Option.bind (if s2_2 then Option.bind (getI x1_1.next_ 0) fun x3_3 => some x3_3 else Option.bind (getI x1_1.next_ 1) fun x3_4 => some x3_4 : Option (Int)) fun s2_3 => some (.inl s2_3) : Option ((Int) ⊕ (Int × l8Run))) (Sum.elim (fun s1_2 => Option.bind (pspec_l8Run__phis (⟨m.u, r1_2.2.out, r1_2.2.steps, r1_2.2.over, r1_2.2.trace⟩ : l8Run) c xs1_1.2.2.2.2.2.2.2.2 s1_2 xs1_2.2.2.2.2.2.2.2) fun r1_3 => some (.inl (r1_2.2.out.said, r1_2.2.out.end_, r1_2.2.out.value, r1_2.2.out.cells, r1_2.2.steps, r1_2.2.over, r1_2.2.trace, r1_3, s1_2))) (fun e0 => some (.inr e0)))) (fun e0 => some (.inr e0))) : Option (((List Int) × Int × Int × (List Int) × Int × Bool × (List Int) × (List Int) × Int) ⊕ (Int × l8Run)))) (s.said, 0, 0, s.cells, (n : Int), false, s.trace, regs, b) = some (toS u (exec u g n k c regs b (tr u k s b))) := by
  intro g
  induction g with
  | zero => intro n _ _ _ _ _ _ h; omega
  | succ g ih =>
    intro n k c m regs b s hng hn hk hm ⟨x, hx⟩ hR hs h1 h2
    have hc := hu.cok hk
    have hb := hc.bok hx
    have hkp := getI_pos hk
    have hce : CallEqS u k n (callE u g) := fun m' k' args s' hm' h0 hlt hv hl hs' q1 q2 => by
      obtain ⟨d, hd⟩ := getI_of (xs := u.codes) h0 (by omega)
      have hdc := hu.cok hd
      unfold callE
      rw [hd]
      simp only
      rw [pspec_l8Run__code]
      have h1' := hdc.regs
      have := ih m' k' d (mkS u m' s') (initR d args) 0 s' (by omega) (by omega) hd rfl (getI_of (by decide) (by have := hdc.nb; omega)) (init_GR hdc hv) hs' (by omega) (by omega)
      refine bindt hd (bindt (makeM_ok (z := (0 : Int)) h1'.1 (show d.regs ≤ 2147483648 by omega)) ?_)
      rw [init_eq hdc]
      exact bindt this rfl
    have hco : CallOk u k n (callE u g) := fun m' k' args s' hm' h0 hlt hv hs' => by
      obtain ⟨d, hd⟩ := getI_of (xs := u.codes) h0 (by omega)
      unfold callE
      rw [hd]
      have hdc := hu.cok hd
      simp only
      rw [tr_callee (by unfold lastI; omega)]
      exact exec_ok hu g m' k' d _ 0 s' hd (getI_of (by decide) (by have := hdc.nb; omega)) (init_GR hdc hv) hs'
    have htr : (if decide (k = (((m.u.codes.length : Int)) - 1)) then Option.bind (appM s.trace ([b] : List Int)) fun ys2_1 => some ys2_1 else some s.trace : Option (List Int)) = some (tr u k s b).trace := by
      unfold tr lastI
      rw [hm]
      by_cases q : k = (u.codes.length : Int) - 1
      · rw [if_pos (by simpa using q), if_pos q, appM_ok (xs := s.trace) (ys := [b]) (by simp; omega)]; rfl
      · rw [if_neg (by simpa using q), if_neg q]
    have htl := tr_len (u := u) (k := k) (s := s) (b := b)
    have hsl : (tr u k s b).said.length = s.said.length := by rw [htl.2]
    have htc : (tr u k s b).cells = s.cells := by unfold tr; split <;> rfl
    have hloop := insLoopS hu hk (ins := x.ins) (fun y hy => iok (hb.ins y hy)) n hn hce hco x.ins 0 n regs (tr u k s b) (fun _ h => h) (Nat.le_refl _) hR (tr_GS hs) (by omega) (by omega)
    have hfor : forN (fun (i2_1 : Int) (xs2_1 : (List Int) × Int × Int × (List Int) × Int × Bool × (List Int) × (List Int)) => (Option.bind (pspec_l8Run__take (⟨m.u, (⟨xs2_1.1, xs2_1.2.1, xs2_1.2.2.1, xs2_1.2.2.2.1⟩ : Outcome_), xs2_1.2.2.2.2.1, xs2_1.2.2.2.2.2.1, xs2_1.2.2.2.2.2.2.1⟩ : l8Run)) fun r2_1 => Option.bind (if r2_1.1 then Option.bind (getI x.ins i2_1) fun x3_1 => Option.bind (pspec_l8Run__ins (⟨m.u, r2_1.2.out, r2_1.2.steps, r2_1.2.over, r2_1.2.trace⟩ : l8Run) x3_1 xs2_1.2.2.2.2.2.2.2) fun r3_1 => some (r3_1.1.out.said, r3_1.1.out.end_, r3_1.1.out.value, r3_1.1.out.cells, r3_1.1.steps, r3_1.1.over, r3_1.1.trace, r3_1.2) else some (r2_1.2.out.said, r2_1.2.out.end_, r2_1.2.out.value, r2_1.2.out.cells, r2_1.2.steps, r2_1.2.over, r2_1.2.trace, xs2_1.2.2.2.2.2.2.2) : Option ((List Int) × Int × Int × (List Int) × Int × Bool × (List Int) × (List Int))) fun s2_1 => if s2_1.2.2.2.2.2.1 then some (.inr (0, (⟨m.u, (⟨s2_1.1, s2_1.2.1, s2_1.2.2.1, s2_1.2.2.2.1⟩ : Outcome_), s2_1.2.2.2.2.1, s2_1.2.2.2.2.2.1, s2_1.2.2.2.2.2.2.1⟩ : l8Run))) else some (.inl (s2_1.1, s2_1.2.1, s2_1.2.2.1, s2_1.2.2.2.1, s2_1.2.2.2.2.1, s2_1.2.2.2.2.2.1, s2_1.2.2.2.2.2.2.1, s2_1.2.2.2.2.2.2.2)) : Option (((List Int) × Int × Int × (List Int) × Int × Bool × (List Int) × (List Int)) ⊕ (Int × l8Run)))) ((x.ins.length : Int) - 0).toNat 0 (s.said, 0, 0, s.cells, (n : Int), false, (tr u k s b).trace, regs) = some (toLS u (runI (callE u g) x.ins n regs (tr u k s b))) := by
      rw [forN_loopL (xs := x.ins) (insGS u) (by
        intro l y r st h
        rw [h, getI_mid, hm]; rfl)]
      rw [← hloop, htl.2, htc]
    have hro := runI_ok (u := u) (k := k) (c := c) x.ins n regs (tr u k s b) hco (fun y hy => iok (hb.ins y hy)) hR (tr_GS hs)
    have hbody : (fun (xs1_1 : (List Int) × Int × Int × (List Int) × Int × Bool × (List Int) × (List Int) × Int) => (Option.bind (getI c.blocks xs1_1.2.2.2.2.2.2.2.2) fun x1_1 => Option.bind (if decide (k = (((m.u.codes.length : Int)) - 1)) then Option.bind (appM xs1_1.2.2.2.2.2.2.1 ([xs1_1.2.2.2.2.2.2.2.2] : List Int)) fun ys2_1 => some ys2_1 else some xs1_1.2.2.2.2.2.2.1 : Option ((List Int))) fun s1_1 => Option.bind (forN (S := (List Int) × Int × Int × (List Int) × Int × Bool × (List Int) × (List Int)) (X := Int × l8Run) (fun i2_1 xs2_1 => Option.bind (pspec_l8Run__take (⟨m.u, (⟨xs2_1.1, xs2_1.2.1, xs2_1.2.2.1, xs2_1.2.2.2.1⟩ : Outcome_), xs2_1.2.2.2.2.1, xs2_1.2.2.2.2.2.1, xs2_1.2.2.2.2.2.2.1⟩ : l8Run)) fun r2_1 => Option.bind (if r2_1.1 then Option.bind (getI x1_1.ins i2_1) fun x3_1 => Option.bind (pspec_l8Run__ins (⟨m.u, r2_1.2.out, r2_1.2.steps, r2_1.2.over, r2_1.2.trace⟩ : l8Run) x3_1 xs2_1.2.2.2.2.2.2.2) fun r3_1 => some (r3_1.1.out.said, r3_1.1.out.end_, r3_1.1.out.value, r3_1.1.out.cells, r3_1.1.steps, r3_1.1.over, r3_1.1.trace, r3_1.2) else some (r2_1.2.out.said, r2_1.2.out.end_, r2_1.2.out.value, r2_1.2.out.cells, r2_1.2.steps, r2_1.2.over, r2_1.2.trace, xs2_1.2.2.2.2.2.2.2) : Option ((List Int) × Int × Int × (List Int) × Int × Bool × (List Int) × (List Int))) fun s2_1 => if s2_1.2.2.2.2.2.1 then some (.inr (0, (⟨m.u, (⟨s2_1.1, s2_1.2.1, s2_1.2.2.1, s2_1.2.2.2.1⟩ : Outcome_), s2_1.2.2.2.2.1, s2_1.2.2.2.2.2.1, s2_1.2.2.2.2.2.2.1⟩ : l8Run))) else some (.inl (s2_1.1, s2_1.2.1, s2_1.2.2.1, s2_1.2.2.2.1, s2_1.2.2.2.2.1, s2_1.2.2.2.2.2.1, s2_1.2.2.2.2.2.2.1, s2_1.2.2.2.2.2.2.2))) (((x1_1.ins.length : Int) : Int) - 0).toNat 0 (xs1_1.1, xs1_1.2.1, xs1_1.2.2.1, xs1_1.2.2.2.1, xs1_1.2.2.2.2.1, xs1_1.2.2.2.2.2.1, s1_1, xs1_1.2.2.2.2.2.2.2.1)) (Sum.elim (fun xs1_2 => Option.bind (pspec_l8Run__take (⟨m.u, (⟨xs1_2.1, xs1_2.2.1, xs1_2.2.2.1, xs1_2.2.2.2.1⟩ : Outcome_), xs1_2.2.2.2.2.1, xs1_2.2.2.2.2.2.1, xs1_2.2.2.2.2.2.2.1⟩ : l8Run)) fun r1_2 => if !(r1_2.1) then some (.inr (0, (⟨m.u, r1_2.2.out, r1_2.2.steps, r1_2.2.over, r1_2.2.trace⟩ : l8Run))) else Option.bind (if decide (x1_1.jump = 3) then Option.bind (getI xs1_2.2.2.2.2.2.2.2 x1_1.on) fun x2_1 => some (.inr (x2_1, (⟨m.u, r1_2.2.out, r1_2.2.steps, r1_2.2.over, r1_2.2.trace⟩ : l8Run))) else Option.bind (if decide (x1_1.jump = 1) then some true else Option.bind (getI xs1_2.2.2.2.2.2.2.2 x1_1.on) fun x3_2 => some (decide (x3_2 ≠ 0)) : Option (Bool)) fun s2_2 => Option.bind (if s2_2 then Option.bind (getI x1_1.next_ 0) fun x3_3 => some x3_3 else Option.bind (getI x1_1.next_ 1) fun x3_4 => some x3_4 : Option (Int)) fun s2_3 => some (.inl s2_3) : Option ((Int) ⊕ (Int × l8Run))) (Sum.elim (fun s1_2 => Option.bind (pspec_l8Run__phis (⟨m.u, r1_2.2.out, r1_2.2.steps, r1_2.2.over, r1_2.2.trace⟩ : l8Run) c xs1_1.2.2.2.2.2.2.2.2 s1_2 xs1_2.2.2.2.2.2.2.2) fun r1_3 => some (.inl (r1_2.2.out.said, r1_2.2.out.end_, r1_2.2.out.value, r1_2.2.out.cells, r1_2.2.steps, r1_2.2.over, r1_2.2.trace, r1_3, s1_2))) (fun e0 => some (.inr e0)))) (fun e0 => some (.inr e0))) : Option (((List Int) × Int × Int × (List Int) × Int × Bool × (List Int) × (List Int) × Int) ⊕ (Int × l8Run)))) (s.said, 0, 0, s.cells, (n : Int), false, s.trace, regs, b) = some (match runI (callE u g) x.ins n regs (tr u k s b) with
        | .stop e m s' => .inr (0, stS u e m s')
        | .ok 0 _ s' => .inr (0, stS u 3 0 s')
        | .ok (m + 1) r s' => if x.jump = 3 then .inr (at_ r x.on, mkS u m s') else .inl (s'.said, 0, 0, s'.cells, (m : Int), false, s'.trace, enter c b (nextB x r) r, nextB x r)) := by
      dsimp only
      rw [hx, Option.bind_some, htr, Option.bind_some, hfor, Option.bind_some]
      cases hq : runI (callE u g) x.ins n regs (tr u k s b) with
      | stop e m' s' => rfl
      | ok m' r s' =>
        rw [hq] at hro
        obtain ⟨g1, g2, g3⟩ := hro
        simp only [toLS, Sum.elim_inl, hm]
        cases m' with
        | zero =>
          change Option.bind (pspec_l8Run__take (mkS u 0 s')) _ = _
          rw [take_zero]; rfl
        | succ m' =>
          change Option.bind (pspec_l8Run__take (mkS u (m' + 1) s')) _ = _
          rw [take_succ u m' s' (by unfold Le at g3; omega), Option.bind_some]
          have hreg : ∀ i : Int, 0 ≤ i → i < c.regs → getI r i = some (at_ r i) := fun i h0 h => at_get h0 (by rw [g1.1]; exact h)
          have hjmp : (if decide (x.jump = 3) then Option.bind (getI r x.on) fun x2_1 => some (.inr (x2_1, (⟨u, (mkS u m' s').out, (mkS u m' s').steps, (mkS u m' s').over, (mkS u m' s').trace⟩ : l8Run))) else Option.bind (if decide (x.jump = 1) then some true else Option.bind (getI r x.on) fun x3_2 => some (decide (x3_2 ≠ 0)) : Option (Bool)) fun s2_2 => Option.bind (if s2_2 then Option.bind (getI x.next_ 0) fun x3_3 => some x3_3 else Option.bind (getI x.next_ 1) fun x3_4 => some x3_4 : Option (Int)) fun s2_3 => some (.inl s2_3) : Option ((Int) ⊕ (Int × l8Run))) =
              some (if x.jump = 3 then .inr (at_ r x.on, mkS u m' s') else .inl (nextB x r)) := by
            rcases hb.jump with ⟨e, el, _⟩ | ⟨e, el, eo⟩ | ⟨e, el, eo⟩
            · have hn : getI x.next_ 0 = some (at_ x.next_ 0) := at_get (by decide) (by omega)
              simp [e, hn, nextB]
            · have hn0 : getI x.next_ 0 = some (at_ x.next_ 0) := at_get (by decide) (by omega)
              have hn1 : getI x.next_ 1 = some (at_ x.next_ 1) := at_get (by decide) (by omega)
              have ho := hreg x.on eo.1 eo.2
              by_cases q : at_ r x.on = 0
              · simp [e, hn0, hn1, nextB, ho, q]
              · simp [e, hn0, hn1, nextB, ho, q]
            · have ho := hreg x.on eo.1 eo.2
              simp [e, ho, mkS]
          simp only [Bool.not_true, Bool.false_eq_true, if_false]
          rw [hjmp, Option.bind_some]
          by_cases e : x.jump = 3
          · rw [if_pos e, if_pos e]; rfl
          · rw [if_neg e, if_neg e]
            simp only [Sum.elim_inl]
            have hn := hb.next _ (next_in hb e r)
            obtain ⟨z, hz⟩ := getI_of (xs := c.blocks) (i := nextB x r) (by omega) hn.2
            rw [phis_ok hu hk hz hx (next_in hb e r) g1]; rfl
    rw [exec_succ, blkAt_get hx]
    cases hq : runI (callE u g) x.ins n regs (tr u k s b) with
    | stop e m' s' =>
      rw [hq] at hbody
      exact loopM_inr hbody
    | ok m' r s' =>
      rw [hq] at hbody hro
      obtain ⟨g1, g2, g3⟩ := hro
      cases m' with
      | zero => exact loopM_inr hbody
      | succ m' =>
        simp only at hbody ⊢
        by_cases e : x.jump = 3
        · rw [if_pos e] at hbody
          rw [if_pos e]
          exact loopM_inr hbody
        · rw [if_neg e] at hbody
          rw [if_neg e, loopM_inl hbody]
          have hn := hb.next _ (next_in hb e r)
          exact ih m' k c m (enter c b (nextB x r) r) (nextB x r) s' (by unfold Le at g3; omega) (by unfold Le at g3; omega) hk hm (getI_of (by omega) hn.2) (enter_GR g1 _ _) g2 (by unfold Le at g3; omega) (by unfold Le at g3; omega)

theorem codeS_ok {u : Unit_} (hu : Ok u) (g n : Nat) (k : Int) (c : Code_) (s : St) (inn : List Int) (hng : n < g) (hn : n ≤ 60000) (hk : getI u.codes k = some c)
    (hv : ∀ v ∈ inn, V v) (hs : GS s) (h1 : s.said.length + n ≤ 200000) (h2 : s.trace.length + n + 1 ≤ 200000) :
    pspec_l8Run__code (mkS u n s) k inn = some (toS u (exec u g n k c (initR c inn) 0 (tr u k s 0))) := by
  rw [pspec_l8Run__code]
  have hc := hu.cok hk
  have h1' := hc.regs
  have := headS_ok hu g n k c (mkS u n s) (initR c inn) 0 s hng hn hk rfl (getI_of (by decide) (by have := hc.nb; omega)) (init_GR hc hv) hs h1 h2
  refine bindt hk (bindt (makeM_ok (z := (0 : Int)) h1'.1 (show c.regs ≤ 2147483648 by omega)) ?_)
  rw [init_eq hc]
  exact bindt this rfl
end Unt
end Go.Wk
