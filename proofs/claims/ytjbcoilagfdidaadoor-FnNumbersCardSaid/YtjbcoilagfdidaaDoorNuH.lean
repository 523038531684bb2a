/- A part of the proof of FnNumbersCardSaid. -/
import Derived.Test.YtjbcoilagfdidaaDoorNuG
/- The program's run of a code. -/
namespace Go.Wk
open Go
namespace Unt
set_option maxRecDepth 10000

theorem predsF_mem (b : Int) : ∀ (l : List Block_) (i j : Int), j ∈ predsF b l i ↔ ∃ n : Nat, j = i + n ∧ ∃ y, l[n]? = some y ∧ b ∈ y.next_
  | [], i, j => by simp [predsF]
  | x :: r, i, j => by
    have ih := predsF_mem b r (i + 1) j
    have key : (∃ n : Nat, j = i + n ∧ ∃ y, (x :: r)[n]? = some y ∧ b ∈ y.next_) ↔ (j = i ∧ b ∈ x.next_) ∨ ∃ n : Nat, j = i + 1 + n ∧ ∃ y, r[n]? = some y ∧ b ∈ y.next_ := by
      constructor
      · rintro ⟨n, h1, y, h2, h3⟩
        cases n with
        | zero => simp at h2; subst h2; exact .inl ⟨by simpa using h1, h3⟩
        | succ n => exact .inr ⟨n, by omega, y, by simpa using h2, h3⟩
      · rintro (⟨h1, h2⟩ | ⟨n, h1, y, h2, h3⟩)
        · exact ⟨0, by simpa using h1, x, rfl, h2⟩
        · exact ⟨n + 1, by omega, y, by simpa using h2, h3⟩
    rw [key, ← ih]
    simp only [predsF]
    by_cases h : b ∈ x.next_
    · rw [if_pos h]; simp [h]
    · rw [if_neg h]; simp [h]
theorem predsL_mem {c : Code_} {b src : Int} {y : Block_} (h : getI c.blocks src = some y) (hb : b ∈ y.next_) : src ∈ predsL c b := by
  obtain ⟨h0, h1⟩ := getI_some.1 h
  exact (predsF_mem b c.blocks 0 src).2 ⟨src.toNat, by omega, y, h1, hb⟩
theorem idx_lt {v : Int} : ∀ {xs : List Int} {i : Int}, v ∈ xs → i ≤ idx v xs i ∧ idx v xs i < i + xs.length
  | x :: r, i, h => by
    unfold idx
    by_cases e : v = x
    · rw [if_pos e]; simp only [List.length_cons]; omega
    · rw [if_neg e]
      have := idx_lt (xs := r) (i := i + 1) (by simpa [e] using h)
      simp only [List.length_cons]; omega

/-- Where one comes from. -/
def From (c : Code_) (src b : Int) : Prop := src = -1 ∨ ∃ y, getI c.blocks src = some y ∧ b ∈ y.next_
def regsIn (c : Code_) (src b : Int) (regs : List Int) : List Int := if src = -1 then regs else enter c src b regs
theorem regsIn_GR {c : Code_} {regs : List Int} (h : GR c regs) (src b : Int) : GR c (regsIn c src b regs) := by
  unfold regsIn; split
  · exact h
  · exact enter_GR h _ _
theorem From.pos {c : Code_} {src b : Int} (h : From c src b) (h1 : src ≠ -1) : 0 ≤ src ∧ src ∈ predsL c b := by
  rcases h with h | ⟨y, h2, h3⟩
  · exact absurd h h1
  · exact ⟨(getI_pos h2).1, predsL_mem h2 h3⟩

theorem phiSetLoop {c : Code_} (fs : List Phi_) (hf : ∀ f ∈ fs, 0 ≤ f.to ∧ f.to < c.regs) : ∀ (r l : List Phi_) (vr vl regs : List Int) (g : Int → List Int → Option (List Int ⊕ Empty)), fs = l ++ r → vl.length = l.length → vr.length = r.length → (regs.length : Int) = c.regs →
    (∀ (l r : List Phi_) (f : Phi_) (v : Int) (s : List Int), fs = l ++ f :: r → getI (vl ++ vr) (l.length : Int) = some v → (s.length : Int) = c.regs → g (l.length : Int) s = some (.inl (s.set f.to.toNat v))) →
    forN g r.length (l.length : Int) regs = some (.inl (phiSet r vr regs))
  | [], l, vr, vl, regs, g, _, _, h2, _, _ => by
    have : vr = [] := List.eq_nil_of_length_eq_zero h2
    subst this; rfl
  | f :: r, l, [], vl, regs, g, _, _, h2, _, _ => by simp at h2
  | f :: r, l, v :: vr, vl, regs, g, h, h1, h2, h3, hg => by
    have := hg l r f v regs h (by rw [← h1, getI_mid]) h3
    simp only [List.length_cons]
    rw [forN_inl this]
    have := phiSetLoop fs hf r (l ++ [f]) vr (vl ++ [v]) (regs.set f.to.toNat v) g (by rw [h]; simp) (by simp [h1]) (by simpa using h2) (by simpa using h3) (by simpa using hg)
    simpa [phiSet] using this

theorem mapped_ok (fs : List Phi_) (F : Phi_ → Option Int) (p : Phi_ → Int) (hl : fs.length ≤ 1048576) (h : ∀ f ∈ fs, F f = some (p f)) : impl_mapped_impl_Phi_int fs F = some (fs.map p) := by
  unfold impl_mapped_impl_Phi_int
  rw [forN_loopL (xs := fs) (fun (_ : Int) f (s : List Int) => Option.bind (F f) fun r => Option.bind (appM s [r]) fun ys => some (.inl ys)) (by
    intro l f r s h
    rw [h, getI_mid]; rfl)]
  have key : ∀ (l : List Phi_) (i : Int) (s : List Int), (∀ f ∈ l, F f = some (p f)) → s.length + l.length ≤ 1048576 → loopL (fun (_ : Int) f (s : List Int) => Option.bind (F f) fun r => Option.bind (appM s [r]) fun ys => some (Sum.inl ys)) l i s = some (.inl (s ++ l.map p) : List Int ⊕ Empty) := by
    intro l
    induction l with
    | nil => intro i s _ _; simp [loopL]
    | cons a l ih =>
      intro i s hh h
      simp only [List.length_cons] at h
      simp only [loopL, hh a (by simp), Option.bind_some, appM_ok (xs := s) (ys := [p a]) (by simp; omega)]
      rw [ih _ _ (fun f hf => hh f (by simp [hf])) (by simp; omega)]
      simp
  rw [key fs 0 [] h (by simpa using hl)]
  simp

section
variable {u : Unit_} (hu : Ok u) {k : Int} {c : Code_} (hk : getI u.codes k = some c) {b src : Int} {x : Block_} (hx : getI c.blocks b = some x) {regs : List Int} (hr : GR c regs) (hf : From c src b)
include hu hk hx hr hf

theorem phiAt (h1 : src ≠ -1) {f : Phi_} (hfm : f ∈ x.phis) : pimpl_running__code_1 f regs (idx src (predsL c b) 0) = some (at_ regs (at_ f.args (idx src (predsL c b) 0))) := by
  have hb := ((hu.cok hk).bok hx).phis f hfm
  have hi := idx_lt (i := 0) (hf.pos h1).2
  have hlen := hb.2.2.1
  unfold pimpl_running__code_1
  have ha := at_get (l := f.args) hi.1 (by omega)
  rw [ha, Option.bind_some]
  have := hb.2.2.2 _ (List.mem_of_getElem? (getI_some.1 ha).2)
  rw [at_get this.1 (by rw [hr.1]; exact this.2)]; rfl

theorem phi_ok : (Option.bind (if decide (0 ≤ src) then some (decide (0 < ((x.phis.length : Int)))) else some false : Option (Bool)) fun s1_2 => (if s1_2 then Option.bind (impl_PredsOf c b) fun r2_1 => Option.bind (slices_Index_S_int_int r2_1 src) fun r2_2 => Option.bind (impl_mapped_impl_Phi_int x.phis (fun y0 => pimpl_running__code_1 y0 regs r2_2)) fun r2_3 => Option.bind (forN (S := (List Int)) (X := Empty) (fun i3_1 xs3_1 => Option.bind (getI x.phis i3_1) fun x3_1 => Option.bind (getI r2_3 i3_1) fun x3_2 => Option.bind (getI xs3_1 x3_1.to) fun x3_3 => some (.inl (xs3_1.set (x3_1.to).toNat x3_2))) (((x.phis.length : Int) : Int) - 0).toNat 0 regs) (Sum.elim (fun xs2_1 => some xs2_1) (fun (e0 : Empty) => nomatch e0)) else some regs : Option ((List Int)))) = some (regsIn c src b regs) := by
  have hc := hu.cok hk
  have hbl := getI_pos hx
  have hsm := hu.small c (by obtain ⟨_, h⟩ := getI_some.1 hk; exact List.mem_of_getElem? h) x (by obtain ⟨_, h⟩ := getI_some.1 hx; exact List.mem_of_getElem? h)
  by_cases h1 : src = -1
  · unfold regsIn; simp [h1]
  have h2 := hf.pos h1
  unfold regsIn
  rw [if_neg h1]
  by_cases h3 : x.phis.length = 0
  · have : x.phis = [] := List.eq_nil_of_length_eq_zero h3
    unfold enter
    rw [blkAt_get hx, this]
    simp [h2.1, phiSet]
  have h3' : 0 < (x.phis.length : Int) := by omega
  simp only [h2.1, h3', decide_true, if_true, Option.bind_some]
  rw [preds_ok c b (by have := hc.nb; omega) (by rw [inB_iff]; omega), Option.bind_some, index_int, Option.bind_some,
    mapped_ok x.phis _ (fun f => at_ regs (at_ f.args (idx src (predsL c b) 0))) (by omega) (fun f hfm => phiAt hu hk hx hr hf h1 hfm), Option.bind_some]
  have := phiSetLoop (c := c) x.phis (fun f hfm => (((hu.cok hk).bok hx).phis f hfm).2.1) x.phis [] (x.phis.map fun f => at_ regs (at_ f.args (idx src (predsL c b) 0))) [] regs
    (fun i3_1 xs3_1 => Option.bind (getI x.phis i3_1) fun x3_1 => Option.bind (getI (x.phis.map fun f => at_ regs (at_ f.args (idx src (predsL c b) 0))) i3_1) fun x3_2 => Option.bind (getI xs3_1 x3_1.to) fun x3_3 => some (.inl (xs3_1.set (x3_1.to).toNat x3_2)))
    rfl rfl (by simp) hr.1 (by
      intro l r f v s h hv hs
      have hfm : f ∈ x.phis := by rw [h]; simp
      have ht := (((hu.cok hk).bok hx).phis f hfm).2.1
      have : getI x.phis (l.length : Int) = some f := by rw [h, getI_mid]
      simp only [List.nil_append] at hv
      rw [this, Option.bind_some, hv, Option.bind_some, at_get ht.1 (by rw [hs]; exact ht.2)]; rfl)
  rw [show ((x.phis.length : Int) - 0).toNat = x.phis.length by omega]
  change Option.bind (forN _ x.phis.length ((List.length ([] : List Phi_) : Nat) : Int) regs) _ = _
  rw [this]
  unfold enter phiVals
  rw [blkAt_get hx]; rfl
end

/-- What the loop over a block's instructions gives. -/
def toL (u : Unit_) (steps : Int) : RI → (Int × Int × List Int × List Int × List Int × List Int) ⊕ ((Int × running) ⊕ (Int × running))
  | .ok n regs s => .inl (steps, steps - n, s.said, s.cells, s.trace, regs)
  | .stop e n s => .inr (.inr (e, mkI u steps n s))

abbrev S6 := Int × Int × List Int × List Int × List Int × List Int
noncomputable def insG (u : Unit_) (_ : Int) (x2_1 : Ins_) (xs2_2 : S6) : Option (S6 ⊕ ((Int × running) ⊕ (Int × running))) :=
  Option.bind (pimpl_running__doIns (⟨u, xs2_2.1, xs2_2.2.1, xs2_2.2.2.1, xs2_2.2.2.2.1, xs2_2.2.2.2.2.1⟩ : running) x2_1 xs2_2.2.2.2.2.2) fun r2_5 => Sum.elim (fun q2_2 => some (.inl (q2_2.1.steps, q2_2.1.used, q2_2.1.said, q2_2.1.cells, q2_2.1.trace, q2_2.2))) (fun q2_3 => some (.inr (Sum.inr (q2_3.1, (⟨u, q2_3.2.1.steps, q2_3.2.1.used, q2_3.2.1.said, q2_3.2.1.cells, q2_3.2.1.trace⟩ : running))))) r2_5

theorem insLoop {u : Unit_} (hu : Ok u) {steps : Int} (hst : steps ≤ 60000) {k : Int} {c : Code_} (hk : getI u.codes k = some c) {call : Nat → Int → List Int → St → Res} {ins : List Ins_} (hi : ∀ x ∈ ins, IOk u k c x) (N : Nat)
    (hce : CallEq u steps k N call) (hco : CallOk u k N call) : ∀ (r : List Ins_) (i : Int) (n : Nat) (regs : List Int) (s : St), (∀ x ∈ r, x ∈ ins) → n ≤ N → (n : Int) ≤ steps → GR c regs → GS s → s.said.length + n ≤ 200000 → s.trace.length + n ≤ 200000 →
    loopL (insG u) r i (steps, steps - n, s.said, s.cells, s.trace, regs) = some (toL u steps (runI call r n regs s))
  | [], i, n, regs, s, _, _, _, _, _, _, _ => rfl
  | x :: r, i, n, regs, s, hmem, hN, hn, hr, hs, h1, h2 => by
    have hx := hi x (hmem x (by simp))
    have hce' : CallEq u steps k n call := fun a b d e h => hce a b d e (by omega)
    have hco' : CallOk u k n call := fun a b d e h => hco a b d e (by omega)
    have hd := doIns_ok hu hst hk hn hce' hx hr hs h1 h2
    have hro := runI_ok (u := u) (k := k) (c := c) [x] n regs s hco' (fun y hy => by simp at hy; subst hy; exact hx) hr hs
    have hg : insG u i x (steps, steps - n, s.said, s.cells, s.trace, regs) = some (match runI call [x] n regs s with
        | .ok n regs s => .inl (steps, steps - n, s.said, s.cells, s.trace, regs)
        | .stop e n s => .inr (.inr (e, mkI u steps n s))) := by
      unfold insG
      change Option.bind (pimpl_running__doIns (mkI u steps n s) x regs) _ = _
      rw [hd, Option.bind_some]
      cases runI call [x] n regs s <;> rfl
    rw [runI_cons]
    simp only [loopL, hg]
    cases hq : runI call [x] n regs s with
    | stop e m' s' => rfl
    | ok n' regs' s' =>
      rw [hq] at hro
      obtain ⟨g1, g2, g3⟩ := hro
      exact insLoop hu hst hk hi N hce hco r (i + 1) n' regs' s' (fun y hy => hmem y (by simp [hy])) (by unfold Le at g3; omega) (by unfold Le at g3; omega) g1 g2 (by unfold Le at g3; omega) (by unfold Le at g3; omega)

theorem init_eq {u : Unit_} {k : Int} {c : Code_} (hc : COk u k c) (inn : List Int) : copyL (List.replicate c.regs.toNat (0 : Int)) inn 0 (List.replicate c.regs.toNat (0 : Int)).length = initR c inn := by
  unfold copyL initR
  have := hc.regs
  simp only [List.take_zero, List.nil_append, Nat.zero_add, List.length_replicate, Nat.sub_zero, List.drop_replicate]
  by_cases h : inn.length ≤ c.regs.toNat
  · rw [Nat.min_eq_left h, List.take_of_length_le (Nat.le_refl _), List.take_of_length_le h]
  · rw [Nat.min_eq_right (by omega), show c.regs.toNat - inn.length = c.regs.toNat - c.regs.toNat by omega]

/-- The head of the loop over blocks. -/
theorem head_ok {u : Unit_} (hu : Ok u) {steps : Int} (hst : steps ≤ 60000) : ∀ (g n : Nat) (k : Int) (c : Code_) (main : Bool) (m : running) (regs : List Int) (b src : Int) (s : St), n < g → (n : Int) ≤ steps → getI u.codes k = some c → main = decide (k = lastI u) → m.u = u →
    (∃ x, getI c.blocks b = some x) → GR c regs → GS s → s.said.length + n ≤ 200000 → s.trace.length + n + 1 ≤ 200000 → From c src b →
    loopM (fun (xs1_1 : Int × Int × (List Int) × (List Int) × (List Int) × (List Int) × Int × Int) => (Option.bind (if main then Option.bind (appM xs1_1.2.2.2.2.1 ([xs1_1.2.2.2.2.2.2.1] : List Int)) fun ys2_1 => some ys2_1 else some xs1_1.2.2.2.2.1 : Option ((List Int))) fun s1_1 => Option.bind (getI c.blocks xs1_1.2.2.2.2.2.2.1) fun x1_1 => Option.bind (if decide (0 ≤ xs1_1.2.2.2.2.2.2.2) then some (decide (0 < ((x1_1.phis.length : Int)))) else some false : Option (Bool)) fun s1_2 => Option.bind (if s1_2 then Option.bind (impl_PredsOf c xs1_1.2.2.2.2.2.2.1) fun r2_1 => Option.bind (slices_Index_S_int_int r2_1 xs1_1.2.2.2.2.2.2.2) fun r2_2 => Option.bind (impl_mapped_impl_Phi_int x1_1.phis (fun y0 => pimpl_running__code_1 y0 xs1_1.2.2.2.2.2.1 r2_2)) fun r2_3 => Option.bind (forN (S := (List Int)) (X := Empty) (fun i3_1 xs3_1 => Option.bind (getI x1_1.phis i3_1) fun x3_1 => Option.bind (getI r2_3 i3_1) fun x3_2 => Option.bind (getI xs3_1 x3_1.to) fun x3_3 => some (.inl (xs3_1.set (x3_1.to).toNat x3_2))) (((x1_1.phis.length : Int) : Int) - 0).toNat 0 xs1_1.2.2.2.2.2.1) (Sum.elim (fun xs2_1 => some xs2_1) (fun (e0 : Empty) => nomatch e0)) else some xs1_1.2.2.2.2.2.1 : Option ((List Int))) fun s1_3 => Option.bind (forN (S := Int × Int × (List Int) × (List Int) × (List Int) × (List Int)) (X := (Int × running) ⊕ (Int × running)) (fun i2_2 xs2_2 => Option.bind (getI x1_1.ins i2_2) fun x2_1 => Option.bind (pimpl_running__doIns (⟨m.u, xs2_2.1, xs2_2.2.1, xs2_2.2.2.1, xs2_2.2.2.2.1, xs2_2.2.2.2.2.1⟩ : running) x2_1 xs2_2.2.2.2.2.2) fun r2_5 => Sum.elim (fun q2_2 => some (.inl (q2_2.1.steps, q2_2.1.used, q2_2.1.said, q2_2.1.cells, q2_2.1.trace, q2_2.2))) (fun q2_3 => some (.inr (Sum.inr (q2_3.1, (⟨m.u, q2_3.2.1.steps, q2_3.2.1.used, q2_3.2.1.said, q2_3.2.1.cells, q2_3.2.1.trace⟩ : running))))) r2_5) (((x1_1.ins.length : Int) : Int) - 0).toNat 0 (xs1_1.1, xs1_1.2.1, xs1_1.2.2.1, xs1_1.2.2.2.1, s1_1, s1_3)) (Sum.elim (fun xs1_2 => Option.bind (pimpl_running__tick (⟨m.u, xs1_2.1, xs1_2.2.1, xs1_2.2.2.1, xs1_2.2.2.2.1, xs1_2.2.2.2.2.1⟩ : running)) fun r1_2 => Sum.elim (fun q1_2 => Option.bind (if decide (x1_1.jump = 3) then Option.bind (getI xs1_2.2.2.2.2.2 x1_1.on) fun x2_2 => some (.inr (Sum.inl (x2_2, (⟨m.u, q1_2.steps, q1_2.used, q1_2.said, q1_2.cells, q1_2.trace⟩ : running)))) else Option.bind (if decide (x1_1.jump = 2) then Option.bind (getI xs1_2.2.2.2.2.2 x1_1.on) fun x3_4 => some (decide (x3_4 = 0)) else some false : Option (Bool)) fun s2_1 => Option.bind (if s2_1 then Option.bind (getI x1_1.next_ 1) fun x3_5 => some x3_5 else Option.bind (getI x1_1.next_ 0) fun x3_6 => some x3_6 : Option (Int)) fun s2_2 => some (.inl s2_2) : Option ((Int) ⊕ ((Int × running) ⊕ (Int × running)))) (Sum.elim (fun s1_4 => some (.inl (q1_2.steps, q1_2.used, q1_2.said, q1_2.cells, q1_2.trace, xs1_2.2.2.2.2.2, s1_4, xs1_1.2.2.2.2.2.2.1))) (fun e0 => some (.inr e0)))) (fun q1_3 => some (.inr (Sum.inr (q1_3.1, (⟨m.u, q1_3.2.steps, q1_3.2.used, q1_3.2.said, q1_3.2.cells, q1_3.2.trace⟩ : running))))) r1_2) (fun e0 => some (.inr e0))) : Option ((Int × Int × (List Int) × (List Int) × (List Int) × (List Int) × Int × Int) ⊕ ((Int × running) ⊕ (Int × running))))) (steps, steps - n, s.said, s.cells, s.trace, regs, b, src) = some (toI u steps (exec u g n k c (regsIn c src b regs) b (tr u k s b))) := by
  intro g
  induction g with
  | zero => intro n _ _ _ _ _ _ _ _ h; omega
  | succ g ih =>
    intro n k c main m regs b src s hng hn hk hmain hm ⟨x, hx⟩ hr hs h1 h2 hf
    have hc := hu.cok hk
    have hb := hc.bok hx
    have hkp := getI_pos hk
    have hR := regsIn_GR hr src b
    -- the codes that are called
    have hce : CallEq u steps k n (callE u g) := fun m' k' args s' hm' h0 hlt hv hl hs' q1 q2 => by
      obtain ⟨d, hd⟩ := getI_of (xs := u.codes) h0 (by omega)
      have hdc := hu.cok hd
      unfold callE
      rw [hd]
      simp only
      rw [pimpl_running__code]
      have h1' := hdc.regs
      have := ih m' k' d false (mkI u steps m' s') (initR d args) 0 (-1) s' (by omega) (by omega) hd (by have : ¬ k' = lastI u := by unfold lastI; omega
                                                                                                         simp [this]) rfl (getI_of (by decide) (by have := hdc.nb; omega)) (init_GR hdc hv) hs' (by omega) (by omega) (.inl rfl)
      refine bindt hd (bindt (makeM_ok (z := (0 : Int)) h1'.1 (show d.regs ≤ 2147483648 by omega)) ?_)
      rw [init_eq hdc]
      refine bindt this ?_
      simp [regsIn]
    have hco : CallOk u k n (callE u g) := fun m' k' args s' hm' h0 hlt hv hs' => by
      obtain ⟨d, hd⟩ := getI_of (xs := u.codes) h0 (by omega)
      unfold callE
      rw [hd]
      have hdc := hu.cok hd
      simp only
      rw [tr_callee (by unfold lastI; omega)]
      exact exec_ok hu g m' k' d _ 0 s' hd (getI_of (by decide) (by have := hdc.nb; omega)) (init_GR hdc hv) hs'
    have htr : (if main then Option.bind (appM s.trace ([b] : List Int)) fun ys2_1 => some ys2_1 else some s.trace : Option (List Int)) = some (tr u k s b).trace := by
      unfold tr
      by_cases q : k = lastI u
      · simp only [hmain, q, decide_true, if_true, appM_ok (xs := s.trace) (ys := [b]) (by simp; omega)]; rfl
      · simp [hmain, q]
    have htl := tr_len (u := u) (k := k) (s := s) (b := b)
    have hsl : (tr u k s b).said.length = s.said.length := by rw [htl.2]
    have htc : (tr u k s b).cells = s.cells := by unfold tr; split <;> rfl
    have hphi := phi_ok hu hk hx hr hf
    have hloop := insLoop hu hst hk (ins := x.ins) (fun y hy => iok (hb.ins y hy)) n hce hco x.ins 0 n (regsIn c src b regs) (tr u k s b) (fun _ h => h) (Nat.le_refl _) hn hR (tr_GS hs) (by rw [htl.2]; omega) (by omega)
    have hfor : forN (fun (i2_2 : Int) (xs2_2 : Int × Int × (List Int) × (List Int) × (List Int) × (List Int)) => (Option.bind (getI x.ins i2_2) fun x2_1 => Option.bind (pimpl_running__doIns (⟨m.u, xs2_2.1, xs2_2.2.1, xs2_2.2.2.1, xs2_2.2.2.2.1, xs2_2.2.2.2.2.1⟩ : running) x2_1 xs2_2.2.2.2.2.2) fun r2_5 => Sum.elim (fun q2_2 => some (.inl (q2_2.1.steps, q2_2.1.used, q2_2.1.said, q2_2.1.cells, q2_2.1.trace, q2_2.2))) (fun q2_3 => some (.inr (Sum.inr (q2_3.1, (⟨m.u, q2_3.2.1.steps, q2_3.2.1.used, q2_3.2.1.said, q2_3.2.1.cells, q2_3.2.1.trace⟩ : running))))) r2_5 : Option ((Int × Int × (List Int) × (List Int) × (List Int) × (List Int)) ⊕ ((Int × running) ⊕ (Int × running))))) ((x.ins.length : Int) - 0).toNat 0 (steps, steps - (n : Int), s.said, s.cells, (tr u k s b).trace, regsIn c src b regs) = some (toL u steps (runI (callE u g) x.ins n (regsIn c src b regs) (tr u k s b))) := by
      rw [forN_loopL (xs := x.ins) (insG u) (by
        intro l y r st h
        rw [h, getI_mid, hm]; rfl)]
      rw [← hloop, htl.2, htc]
    have hphi' : ∀ {B : Type} (K : List Int → Option B), (Option.bind (if decide (0 ≤ src) then some (decide (0 < ((x.phis.length : Int)))) else some false : Option (Bool)) fun s1_2 => Option.bind (if s1_2 then Option.bind (impl_PredsOf c b) fun r2_1 => Option.bind (slices_Index_S_int_int r2_1 src) fun r2_2 => Option.bind (impl_mapped_impl_Phi_int x.phis (fun y0 => pimpl_running__code_1 y0 regs r2_2)) fun r2_3 => Option.bind (forN (S := (List Int)) (X := Empty) (fun i3_1 xs3_1 => Option.bind (getI x.phis i3_1) fun x3_1 => Option.bind (getI r2_3 i3_1) fun x3_2 => Option.bind (getI xs3_1 x3_1.to) fun x3_3 => some (.inl (xs3_1.set (x3_1.to).toNat x3_2))) (((x.phis.length : Int) : Int) - 0).toNat 0 regs) (Sum.elim (fun xs2_1 => some xs2_1) (fun (e0 : Empty) => nomatch e0)) else some regs : Option ((List Int))) K) = K (regsIn c src b regs) := by
      intro B K
      rw [← Option.bind_assoc]
      change Option.bind _ K = _
      rw [hphi]; rfl
    have hbody : (fun (xs1_1 : Int × Int × (List Int) × (List Int) × (List Int) × (List Int) × Int × Int) => (Option.bind (if main then Option.bind (appM xs1_1.2.2.2.2.1 ([xs1_1.2.2.2.2.2.2.1] : List Int)) fun ys2_1 => some ys2_1 else some xs1_1.2.2.2.2.1 : Option ((List Int))) fun s1_1 => Option.bind (getI c.blocks xs1_1.2.2.2.2.2.2.1) fun x1_1 => Option.bind (if decide (0 ≤ xs1_1.2.2.2.2.2.2.2) then some (decide (0 < ((x1_1.phis.length : Int)))) else some false : Option (Bool)) fun s1_2 => Option.bind (if s1_2 then Option.bind (impl_PredsOf c xs1_1.2.2.2.2.2.2.1) fun r2_1 => Option.bind (slices_Index_S_int_int r2_1 xs1_1.2.2.2.2.2.2.2) fun r2_2 => Option.bind (impl_mapped_impl_Phi_int x1_1.phis (fun y0 => pimpl_running__code_1 y0 xs1_1.2.2.2.2.2.1 r2_2)) fun r2_3 => Option.bind (forN (S := (List Int)) (X := Empty) (fun i3_1 xs3_1 => Option.bind (getI x1_1.phis i3_1) fun x3_1 => Option.bind (getI r2_3 i3_1) fun x3_2 => Option.bind (getI xs3_1 x3_1.to) fun x3_3 => some (.inl (xs3_1.set (x3_1.to).toNat x3_2))) (((x1_1.phis.length : Int) : Int) - 0).toNat 0 xs1_1.2.2.2.2.2.1) (Sum.elim (fun xs2_1 => some xs2_1) (fun (e0 : Empty) => nomatch e0)) else some xs1_1.2.2.2.2.2.1 : Option ((List Int))) fun s1_3 => Option.bind (forN (S := Int × Int × (List Int) × (List Int) × (List Int) × (List Int)) (X := (Int × running) ⊕ (Int × running)) (fun i2_2 xs2_2 => Option.bind (getI x1_1.ins i2_2) fun x2_1 => Option.bind (pimpl_running__doIns (⟨m.u, xs2_2.1, xs2_2.2.1, xs2_2.2.2.1, xs2_2.2.2.2.1, xs2_2.2.2.2.2.1⟩ : running) x2_1 xs2_2.2.2.2.2.2) fun r2_5 => Sum.elim (fun q2_2 => some (.inl (q2_2.1.steps, q2_2.1.used, q2_2.1.said, q2_2.1.cells, q2_2.1.trace, q2_2.2))) (fun q2_3 => some (.inr (Sum.inr (q2_3.1, (⟨m.u, q2_3.2.1.steps, q2_3.2.1.used, q2_3.2.1.said, q2_3.2.1.cells, q2_3.2.1.trace⟩ : running))))) r2_5) (((x1_1.ins.length : Int) : Int) - 0).toNat 0 (xs1_1.1, xs1_1.2.1, xs1_1.2.2.1, xs1_1.2.2.2.1, s1_1, s1_3)) (Sum.elim (fun xs1_2 => Option.bind (pimpl_running__tick (⟨m.u, xs1_2.1, xs1_2.2.1, xs1_2.2.2.1, xs1_2.2.2.2.1, xs1_2.2.2.2.2.1⟩ : running)) fun r1_2 => Sum.elim (fun q1_2 => Option.bind (if decide (x1_1.jump = 3) then Option.bind (getI xs1_2.2.2.2.2.2 x1_1.on) fun x2_2 => some (.inr (Sum.inl (x2_2, (⟨m.u, q1_2.steps, q1_2.used, q1_2.said, q1_2.cells, q1_2.trace⟩ : running)))) else Option.bind (if decide (x1_1.jump = 2) then Option.bind (getI xs1_2.2.2.2.2.2 x1_1.on) fun x3_4 => some (decide (x3_4 = 0)) else some false : Option (Bool)) fun s2_1 => Option.bind (if s2_1 then Option.bind (getI x1_1.next_ 1) fun x3_5 => some x3_5 else Option.bind (getI x1_1.next_ 0) fun x3_6 => some x3_6 : Option (Int)) fun s2_2 => some (.inl s2_2) : Option ((Int) ⊕ ((Int × running) ⊕ (Int × running)))) (Sum.elim (fun s1_4 => some (.inl (q1_2.steps, q1_2.used, q1_2.said, q1_2.cells, q1_2.trace, xs1_2.2.2.2.2.2, s1_4, xs1_1.2.2.2.2.2.2.1))) (fun e0 => some (.inr e0)))) (fun q1_3 => some (.inr (Sum.inr (q1_3.1, (⟨m.u, q1_3.2.steps, q1_3.2.used, q1_3.2.said, q1_3.2.cells, q1_3.2.trace⟩ : running))))) r1_2) (fun e0 => some (.inr e0))) : Option ((Int × Int × (List Int) × (List Int) × (List Int) × (List Int) × Int × Int) ⊕ ((Int × running) ⊕ (Int × running))))) (steps, steps - n, s.said, s.cells, s.trace, regs, b, src) = some (match runI (callE u g) x.ins n (regsIn c src b regs) (tr u k s b) with
        | .stop e m s' => .inr (.inr (e, mkI u steps m s'))
        | .ok 0 _ s' => .inr (.inr (3, mkI u steps 0 s'))
        | .ok (m + 1) r s' => if x.jump = 3 then .inr (.inl (at_ r x.on, mkI u steps m s')) else .inl (steps, steps - m, s'.said, s'.cells, s'.trace, r, nextB x r, b)) := by
      dsimp only
      rw [htr, Option.bind_some, hx, Option.bind_some, hphi', hfor, Option.bind_some]
      have hro := runI_ok (u := u) (k := k) (c := c) x.ins n (regsIn c src b regs) (tr u k s b) hco (fun y hy => iok (hb.ins y hy)) hR (tr_GS hs)
      cases hq : runI (callE u g) x.ins n (regsIn c src b regs) (tr u k s b) with
      | stop e m' s' => rfl
      | ok m' r s' =>
        rw [hq] at hro
        obtain ⟨g1, g2, g3⟩ := hro
        simp only [toL, Sum.elim_inl, hm]
        cases m' with
        | zero =>
          change Option.bind (pimpl_running__tick (mkI u steps 0 s')) _ = _
          rw [tick_zero]; rfl
        | succ m' =>
          change Option.bind (pimpl_running__tick (mkI u steps (m' + 1) s')) _ = _
          rw [tick_succ hst m' s' (by unfold Le at g3; omega), Option.bind_some]
          have hreg : ∀ i : Int, 0 ≤ i → i < c.regs → getI r i = some (at_ r i) := fun i h0 h => at_get h0 (by rw [g1.1]; exact h)
          simp only [Sum.elim_inl, mkI]
          rcases hb.jump with ⟨e, el, _⟩ | ⟨e, el, eo⟩ | ⟨e, el, eo⟩
          · have hn : getI x.next_ 0 = some (at_ x.next_ 0) := at_get (by decide) (by omega)
            simp [e, hn, nextB]
          · have hn0 : getI x.next_ 0 = some (at_ x.next_ 0) := at_get (by decide) (by omega)
            have hn1 : getI x.next_ 1 = some (at_ x.next_ 1) := at_get (by decide) (by omega)
            have ho := hreg x.on eo.1 eo.2
            by_cases q : at_ r x.on = 0
            · simp [e, hn0, hn1, nextB, ho, q]
            · simp [e, hn0, hn1, nextB, ho, q]
          · have ho := hreg x.on eo.1 eo.2
            simp [e, ho]
    rw [exec_succ, blkAt_get hx]
    have hro := runI_ok (u := u) (k := k) (c := c) x.ins n (regsIn c src b regs) (tr u k s b) hco (fun y hy => iok (hb.ins y hy)) hR (tr_GS hs)
    cases hq : runI (callE u g) x.ins n (regsIn c src b regs) (tr u k s b) with
    | stop e m' s' =>
      rw [hq] at hbody
      exact loopM_inr hbody
    | ok m' r s' =>
      rw [hq] at hbody hro
      obtain ⟨g1, g2, g3⟩ := hro
      cases m' with
      | zero => exact loopM_inr hbody
      | succ m' =>
        simp only at hbody ⊢
        by_cases e : x.jump = 3
        · rw [if_pos e] at hbody
          rw [if_pos e]
          exact loopM_inr hbody
        · rw [if_neg e] at hbody
          rw [if_neg e, loopM_inl hbody]
          have hn := hb.next _ (next_in hb e r)
          have := ih m' k c main m r (nextB x r) b s' (by unfold Le at g3; omega) (by unfold Le at g3; omega) hk hmain hm (getI_of (by omega) hn.2) g1 g2 (by unfold Le at g3; omega) (by unfold Le at g3; omega) (.inr ⟨x, hx, next_in hb e r⟩)
          rw [this]
          have hbp := getI_pos hx
          unfold regsIn
          rw [if_neg (by omega)]

theorem code_ok {u : Unit_} (hu : Ok u) {steps : Int} (hst : steps ≤ 60000) (g n : Nat) (k : Int) (c : Code_) (main : Bool) (s : St) (inn : List Int) (hng : n < g) (hn : (n : Int) ≤ steps) (hk : getI u.codes k = some c) (hmain : main = decide (k = lastI u))
    (hv : ∀ v ∈ inn, V v) (hs : GS s) (h1 : s.said.length + n ≤ 200000) (h2 : s.trace.length + n + 1 ≤ 200000) :
    pimpl_running__code (mkI u steps n s) k inn main = some (toI u steps (exec u g n k c (initR c inn) 0 (tr u k s 0))) := by
  rw [pimpl_running__code]
  have hc := hu.cok hk
  have h1' := hc.regs
  have := head_ok hu hst g n k c main (mkI u steps n s) (initR c inn) 0 (-1) s hng hn hk hmain rfl (getI_of (by decide) (by have := hc.nb; omega)) (init_GR hc hv) hs h1 h2 (.inl rfl)
  refine bindt hk (bindt (makeM_ok (z := (0 : Int)) h1'.1 (show c.regs ≤ 2147483648 by omega)) ?_)
  rw [init_eq hc]
  refine bindt this ?_
  simp [regsIn]
end Unt
end Go.Wk
