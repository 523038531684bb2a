/- A part of the proof of FnCalledCodeSaid. -/
import Derived.Test.YtjbcoilagfdidaaClT
import Derived.Test.YtjbcoilagfdidaaClV
import Derived.Test.YtjbcoilagfdidaaClW
/- A unit with one code more that calls the last: its runs. -/
namespace Go.Wk
open Go
namespace Unt
set_option maxRecDepth 10000

/-! ### how runs end -/
def NoZ : Res → Prop
  | .stop e _ _ => e ≠ 0
  | _ => True
def NoZI : RI → Prop
  | .stop e _ _ => e ≠ 0
  | _ => True
theorem effI_bad {x : Ins_} {regs : List Int} {s : St} {e : Int} (h : effI x regs s = .bad e) : e ≠ 0 := by
  unfold effI at h
  split at h
  · split at h
    · cases h
    · rename_i h2; cases h; exact h2
  · split at h
    · cases h
    split at h
    · cases h
    split at h
    · cases h; decide
    split at h <;> cases h
theorem effI_call {x : Ins_} {regs : List Int} {s : St} (h : effI x regs s = .call) : x.op = 14 := by
  unfold effI at h
  split at h
  · split at h <;> cases h
  · split at h
    · cases h
    split at h
    · assumption
    split at h
    · cases h
    split at h <;> cases h
theorem runI_noz {call : Nat → Int → List Int → St → Res} (hc : ∀ m k a s, NoZ (call m k a s)) : ∀ (r : List Ins_) (n : Nat) (regs : List Int) (s : St), NoZI (runI call r n regs s)
  | [], n, regs, s => trivial
  | x :: r, 0, regs, s => by show (3 : Int) ≠ 0; decide
  | x :: r, n + 1, regs, s => by
    rw [runI]
    cases hq : effI x regs s with
    | set v => exact runI_noz hc r n _ s
    | say v => exact runI_noz hc r n regs _
    | put i v => exact runI_noz hc r n regs _
    | bad e => exact effI_bad hq
    | call =>
      have h := hc n x.n_ (x.args.map (at_ regs)) s
      simp only
      cases hr : call n x.n_ (x.args.map (at_ regs)) s with
      | done v m s' => exact runI_noz hc r m _ s'
      | stop e m s' => rw [hr] at h; exact h
theorem exec_noz (u : Unit_) : ∀ (g n : Nat) (k : Int) (c : Code_) (regs : List Int) (b : Int) (s : St), NoZ (exec u g n k c regs b s) := by
  intro g
  induction g with
  | zero => intro n k c regs b s; show (-1 : Int) ≠ 0; decide
  | succ g ih =>
    intro n k c regs b s
    rw [exec_succ]
    have h := runI_noz (call := callE u g) (fun m k a s => by
      unfold callE
      split
      · exact ih _ _ _ _ _ _
      · show (-1 : Int) ≠ 0; decide) (blkAt c b).ins n regs s
    cases hq : runI (callE u g) (blkAt c b).ins n regs s with
    | stop e m s' => rw [hq] at h; exact h
    | ok m regs' s' =>
      cases m with
      | zero => show (3 : Int) ≠ 0; decide
      | succ m =>
        simp only
        split
        · trivial
        · exact ih _ _ _ _ _ _

/-! ### steps go down -/
def remI : RI → Nat
  | .ok n _ _ => n
  | .stop _ n _ => n
def endI : RI → Int
  | .ok _ _ _ => 0
  | .stop e _ _ => e
theorem runI_dec {call : Nat → Int → List Int → St → Res} (hc : ∀ m k a s, remR (call m k a s) ≤ m) : ∀ (r : List Ins_) (n : Nat) (regs : List Int) (s : St), remI (runI call r n regs s) ≤ n
  | [], n, regs, s => Nat.le_refl _
  | x :: r, 0, regs, s => Nat.le_refl _
  | x :: r, n + 1, regs, s => by
    rw [runI]
    cases effI x regs s with
    | set v => exact Nat.le_succ_of_le (runI_dec hc r n _ s)
    | say v => exact Nat.le_succ_of_le (runI_dec hc r n regs _)
    | put i v => exact Nat.le_succ_of_le (runI_dec hc r n regs _)
    | bad e => exact Nat.le_succ n
    | call =>
      have h := hc n x.n_ (x.args.map (at_ regs)) s
      simp only
      cases hr : call n x.n_ (x.args.map (at_ regs)) s with
      | done v m s' => rw [hr] at h; have := runI_dec hc r m (regs.set x.to.toNat v) s'; have h' : m ≤ n := h; simp only; omega
      | stop e m s' => rw [hr] at h; exact Nat.le_succ_of_le h
theorem callE_of {u : Unit_} {g : Nat} {p : Res → Nat → Prop} (h : ∀ n k c regs b s, p (exec u g n k c regs b s) n) (h0 : ∀ m s, p (.stop (-1) m s) m) : ∀ m k a s, p (callE u g m k a s) m := fun m k a s => by
  unfold callE
  split
  · exact h _ _ _ _ _ _
  · exact h0 _ _
theorem exec_dec (u : Unit_) : ∀ (g n : Nat) (k : Int) (c : Code_) (regs : List Int) (b : Int) (s : St), remR (exec u g n k c regs b s) ≤ n := by
  intro g
  induction g with
  | zero => intro n k c regs b s; exact Nat.le_refl _
  | succ g ih =>
    intro n k c regs b s
    rw [exec_succ]
    have h := runI_dec (call := callE u g) (callE_of (p := fun q n => remR q ≤ n) ih (fun _ _ => Nat.le_refl _)) (blkAt c b).ins n regs s
    cases hq : runI (callE u g) (blkAt c b).ins n regs s with
    | stop e m s' => rw [hq] at h; exact h
    | ok m regs' s' =>
      rw [hq] at h
      have h' : m ≤ n := h
      cases m with
      | zero => exact Nat.zero_le _
      | succ m =>
        simp only
        split
        · simp only [remR]; omega
        · have := ih m k c (enter c b (nextB (blkAt c b) regs') regs') (nextB (blkAt c b) regs') (tr u k s' (nextB (blkAt c b) regs')); omega

/-! ### what runs out of steps -/
def Ou (d : Nat) (q q' : Res) : Prop := endR q = 3 → endR q' = 3 ∨ remR q' < d
theorem runI_ou {call : Nat → Int → List Int → St → Res} {d : Nat} (hdec : ∀ m k a s, remR (call m k a s) ≤ m) (hpre : ∀ m k a s, s.said <+: (stR (call m k a s)).said) (hm : ∀ m k a s, Mo d (call m k a s) (call (m + d) k a s)) (ho : ∀ m k a s, Ou d (call m k a s) (call (m + d) k a s)) :
    ∀ (r : List Ins_) (n : Nat) (regs : List Int) (s : St), endI (runI call r n regs s) = 3 → endI (runI call r (n + d) regs s) = 3 ∨ remI (runI call r (n + d) regs s) < d
  | [], n, regs, s, h => by cases h
  | x :: r, 0, regs, s, h => by
    cases d with
    | zero => exact .inl rfl
    | succ d =>
      refine .inr ?_
      rw [show 0 + (d + 1) = d + 1 by omega, runI]
      cases effI x regs s with
      | set v => exact Nat.lt_succ_of_le (runI_dec hdec r d _ s)
      | say v => exact Nat.lt_succ_of_le (runI_dec hdec r d regs _)
      | put i v => exact Nat.lt_succ_of_le (runI_dec hdec r d regs _)
      | bad e => exact Nat.lt_succ_self d
      | call =>
        have h := hdec d x.n_ (x.args.map (at_ regs)) s
        simp only
        cases hr : call d x.n_ (x.args.map (at_ regs)) s with
        | done v m s' => rw [hr] at h; have := runI_dec hdec r m (regs.set x.to.toNat v) s'; have h' : m ≤ d := h; simp only; omega
        | stop e m s' => rw [hr] at h; exact Nat.lt_succ_of_le h
  | x :: r, n + 1, regs, s, h => by
    rw [show n + 1 + d = (n + d) + 1 by omega]
    rw [runI] at h ⊢
    cases hq : effI x regs s with
    | set v => rw [hq] at h; exact runI_ou hdec hpre hm ho r n _ s h
    | say v => rw [hq] at h; exact runI_ou hdec hpre hm ho r n regs _ h
    | put i v => rw [hq] at h; exact runI_ou hdec hpre hm ho r n regs _ h
    | bad e => rw [hq] at h; exact .inl h
    | call =>
      rw [hq] at h
      have h1 := hm n x.n_ (x.args.map (at_ regs)) s
      have h2 := ho n x.n_ (x.args.map (at_ regs)) s
      simp only at h ⊢
      cases hr : call n x.n_ (x.args.map (at_ regs)) s with
      | done v m s' =>
        rw [hr] at h h1
        have h1' : call (n + d) x.n_ (x.args.map (at_ regs)) s = .done v (m + d) s' := h1
        rw [h1']
        exact runI_ou hdec hpre hm ho r m _ s' h
      | stop e m s' =>
        rw [hr] at h h2
        have h3 := h2 h
        cases hr2 : call (n + d) x.n_ (x.args.map (at_ regs)) s with
        | done v m2 s2 =>
          rw [hr2] at h3
          rcases h3 with h3 | h3
          · cases h3
          · refine .inr ?_
            have := runI_dec hdec r m2 (regs.set x.to.toNat v) s2
            have h3' : m2 < d := h3
            simp only; omega
        | stop e2 m2 s2 => rw [hr2] at h3; exact h3
theorem hpre (u : Unit_) (g : Nat) : ∀ m k a s, s.said <+: (stR (callE u g m k a s)).said := fun m k a s => by
  unfold callE
  split
  · have := exec_pre u g m k (by assumption) (initR (by assumption) a) 0 (tr u k s 0)
    rwa [tr_said] at this
  · exact List.prefix_refl _
theorem hmo (u : Unit_) (g d : Nat) : ∀ m k a s, Mo d (callE u g m k a s) (callE u g (m + d) k a s) := fun m k a s => by
  unfold callE
  cases getI u.codes k with
  | some x => exact exec_mo u d g m k x _ 0 _
  | none => exact .inl ⟨by decide, rfl⟩
theorem exec_ou (u : Unit_) (d : Nat) : ∀ (g n : Nat) (k : Int) (c : Code_) (regs : List Int) (b : Int) (s : St), Ou d (exec u g n k c regs b s) (exec u g (n + d) k c regs b s) := by
  intro g
  induction g with
  | zero => intro n k c regs b s h; cases h
  | succ g ih =>
    intro n k c regs b s
    rw [exec_succ, exec_succ]
    have hd := callE_of (u := u) (g := g) (p := fun q n => remR q ≤ n) (exec_dec u g) (fun _ _ => Nat.le_refl _)
    have h := runI_ou (call := callE u g) (d := d) hd (hpre u g) (hmo u g d) (fun m k a s => by
      unfold callE
      cases getI u.codes k with
      | some x => exact ih m k x _ 0 _
      | none => intro h; cases h) (blkAt c b).ins n regs s
    have hm := runI_mo (call := callE u g) (d := d) (hpre u g) (hmo u g d) (blkAt c b).ins n regs s
    cases hq : runI (callE u g) (blkAt c b).ins n regs s with
    | stop e m s' =>
      rw [hq] at h
      intro he
      have h := h he
      cases hq2 : runI (callE u g) (blkAt c b).ins (n + d) regs s with
      | stop e2 m2 s2 => rw [hq2] at h; exact h
      | ok m2 r2 s2 =>
        rw [hq2] at h
        rcases h with h | h
        · cases h
        have h' : m2 < d := h
        cases m2 with
        | zero => exact .inl rfl
        | succ m2 =>
          refine .inr ?_
          simp only
          split
          · simp only [remR]; omega
          · have := exec_dec u g m2 k c (enter c b (nextB (blkAt c b) r2) r2) (nextB (blkAt c b) r2) (tr u k s2 (nextB (blkAt c b) r2)); omega
    | ok m regs' s' =>
      rw [hq] at hm
      have h' : runI (callE u g) (blkAt c b).ins (n + d) regs s = .ok (m + d) regs' s' := hm
      rw [h']
      cases m with
      | zero =>
        intro _
        cases d with
        | zero => exact .inl rfl
        | succ d =>
          refine .inr ?_
          rw [show 0 + (d + 1) = d + 1 by omega]
          simp only
          split
          · simp only [remR]; omega
          · have := exec_dec u g d k c (enter c b (nextB (blkAt c b) regs') regs') (nextB (blkAt c b) regs') (tr u k s' (nextB (blkAt c b) regs')); omega
      | succ m =>
        rw [show m + 1 + d = (m + d) + 1 by omega]
        simp only
        by_cases hj : (blkAt c b).jump = 3
        · rw [if_pos hj, if_pos hj]; intro h; cases h
        · rw [if_neg hj, if_neg hj]; exact ih m k c _ _ _
/-- A run that ends, with just as many steps as it took. -/
theorem runU_just {u : Unit_} {inn : List Int} {n d : Nat} (he : endR (runU u inn (n + d)) ≠ 3) (hr : remR (runU u inn (n + d)) = d) : endR (runU u inn n) ≠ 3 ∧ remR (runU u inn n) = 0 := by
  have h1 : Mo d (runU u inn n) (runU u inn (n + d)) := runU_mo u inn n d
  have h2 : Ou d (runU u inn n) (runU u inn (n + d)) := exec_ou u d 60001 n _ _ _ _ _
  have h3 : endR (runU u inn n) ≠ 3 := fun h => by rcases h2 h with h | h <;> omega
  refine ⟨h3, ?_⟩
  cases hq : runU u inn n with
  | done v m s =>
    rw [hq] at h1
    have h1' : runU u inn (n + d) = .done v (m + d) s := h1
    rw [h1'] at hr
    have hr' : m + d = d := hr
    show m = 0; omega
  | stop e m s =>
    rw [hq] at h1 h3
    rcases h1 with ⟨_, h1⟩ | ⟨h1, _⟩
    · rw [h1] at hr
      have hr' : m + d = d := hr
      show m = 0; omega
    · exact absurd h1 h3

/-! ### the same codes in another unit -/
def Se (s t : St) : Prop := s.said = t.said ∧ s.cells = t.cells
def Re (n : Nat) : Res → Res → Prop
  | .done v m s, .done v' m' s' => v = v' ∧ m = m' ∧ m ≤ n ∧ Se s s'
  | .stop e m s, .stop e' m' s' => e = e' ∧ m = m' ∧ m ≤ n ∧ Se s s'
  | _, _ => False
def ReI (n : Nat) : RI → RI → Prop
  | .ok m r s, .ok m' r' s' => m = m' ∧ r = r' ∧ m ≤ n ∧ Se s s'
  | .stop e m s, .stop e' m' s' => e = e' ∧ m = m' ∧ m ≤ n ∧ Se s s'
  | _, _ => False
theorem ReI.up {n n' : Nat} (h : n ≤ n') {q q' : RI} (hq : ReI n q q') : ReI n' q q' := by
  cases q <;> cases q' <;> simp only [ReI] at hq ⊢ <;> first | exact hq | exact ⟨hq.1, hq.2.1, by omega, hq.2.2.2⟩
theorem effI_Se {x : Ins_} {regs : List Int} {s t : St} (h : Se s t) : effI x regs s = effI x regs t := by unfold effI; rw [h.2]
theorem runI_rel {u : Unit_} {k : Int} {c : Code_} {call call' : Nat → Int → List Int → St → Res} (N : Nat) (hc : ∀ m k' a s s', m < N → 0 ≤ k' → k' < k → Se s s' → Re m (call m k' a s) (call' m k' a s')) :
    ∀ (r : List Ins_) (n : Nat) (regs : List Int) (s s' : St), n ≤ N → (∀ x ∈ r, IOk u k c x) → Se s s' → ReI n (runI call r n regs s) (runI call' r n regs s')
  | [], n, regs, s, s', _, _, hs => ⟨rfl, rfl, Nat.le_refl _, hs⟩
  | x :: r, 0, regs, s, s', _, _, hs => ⟨rfl, rfl, Nat.le_refl _, hs⟩
  | x :: r, n + 1, regs, s, s', hn, hi, hs => by
    rw [runI, runI, ← effI_Se hs]
    have hi' : ∀ y ∈ r, IOk u k c y := fun y hy => hi y (List.mem_cons_of_mem _ hy)
    cases hq : effI x regs s with
    | set v => exact (runI_rel N hc r n _ s s' (by omega) hi' hs).up (Nat.le_succ n)
    | say v => exact (runI_rel N hc r n regs { s with said := s.said ++ [v] } { s' with said := s'.said ++ [v] } (by omega) hi' ⟨congrArg (· ++ [v]) hs.1, hs.2⟩).up (Nat.le_succ n)
    | put i v => exact (runI_rel N hc r n regs { s with cells := s.cells.set i.toNat v } { s' with cells := s'.cells.set i.toNat v } (by omega) hi' ⟨hs.1, congrArg (fun l => l.set i.toNat v) hs.2⟩).up (Nat.le_succ n)
    | bad e => exact ⟨rfl, rfl, Nat.le_succ n, hs⟩
    | call =>
      have hx := (hi x List.mem_cons_self).call (effI_call hq)
      have h := hc n x.n_ (x.args.map (at_ regs)) s s' (by omega) hx.1 hx.2.1 hs
      simp only
      cases hr : call n x.n_ (x.args.map (at_ regs)) s with
      | done v m s1 =>
        cases hr' : call' n x.n_ (x.args.map (at_ regs)) s' with
        | done v' m' s1' =>
          rw [hr, hr'] at h
          obtain ⟨rfl, rfl, h3, h4⟩ := h
          exact (runI_rel N hc r m _ s1 s1' (by omega) hi' h4).up (by omega)
        | stop e' m' s1' => rw [hr, hr'] at h; exact h.elim
      | stop e m s1 =>
        cases hr' : call' n x.n_ (x.args.map (at_ regs)) s' with
        | done v' m' s1' => rw [hr, hr'] at h; exact h.elim
        | stop e' m' s1' =>
          rw [hr, hr'] at h
          obtain ⟨rfl, rfl, h3, h4⟩ := h
          exact ⟨rfl, rfl, by omega, h4⟩
theorem tr_Se {u : Unit_} {k : Int} {s : St} {b : Int} : Se (tr u k s b) s := by unfold tr; split <;> exact ⟨rfl, rfl⟩
theorem Se.symm {s t : St} (h : Se s t) : Se t s := ⟨h.1.symm, h.2.symm⟩
theorem Se.trans {s t r : St} (h : Se s t) (k : Se t r) : Se s r := ⟨h.1.trans k.1, h.2.trans k.2⟩
theorem Se.tr {u x : Unit_} {k k' : Int} {s t : St} {b b' : Int} (h : Se s t) : Se (tr u k s b) (tr x k' t b') := tr_Se.trans (h.trans tr_Se.symm)
theorem exec_rel {u x : Unit_} (hu : Ok u) (hx : ∀ k c, getI u.codes k = some c → getI x.codes k = some c) : ∀ (g n g' : Nat) (k : Int) (c : Code_) (regs : List Int) (b : Int) (s s' : St), n < g → n < g' → getI u.codes k = some c → (∃ y, getI c.blocks b = some y) → Se s s' →
    Re n (exec u g n k c regs b s) (exec x g' n k c regs b s') := by
  intro g
  induction g with
  | zero => intro n g' k c regs b s s' h; omega
  | succ g ih =>
    intro n g' k c regs b s s' h1 h2 hk ⟨y, hy⟩ hs
    cases g' with
    | zero => omega
    | succ g' =>
      have hc := hu.cok hk
      have hb := hc.bok hy
      have hkp := getI_pos hk
      rw [exec_succ, exec_succ, blkAt_get hy]
      have h := runI_rel (u := u) (k := k) (c := c) (call := callE u g) (call' := callE x g') n (fun m k' a t t' hm h0 hlt ht => by
        obtain ⟨e, he⟩ := getI_of (xs := u.codes) h0 (by omega)
        unfold callE
        rw [he, hx _ _ he]
        have hec := hu.cok he
        exact ih m g' k' e _ 0 _ _ (by omega) (by omega) he (getI_of (by decide) (by have := hec.nb; omega)) ht.tr) y.ins n regs s s' (Nat.le_refl _) (fun z hz => iok (hb.ins z hz)) hs
      cases hq : runI (callE u g) y.ins n regs s with
      | stop e m t =>
        cases hq' : runI (callE x g') y.ins n regs s' with
        | stop e' m' t' => rw [hq, hq'] at h; exact h
        | ok m' r' t' => rw [hq, hq'] at h; exact h.elim
      | ok m r t =>
        cases hq' : runI (callE x g') y.ins n regs s' with
        | stop e' m' t' => rw [hq, hq'] at h; exact h.elim
        | ok m' r' t' =>
          rw [hq, hq'] at h
          obtain ⟨rfl, rfl, h3, h4⟩ := h
          cases m with
          | zero => exact ⟨rfl, rfl, Nat.zero_le _, h4⟩
          | succ m =>
            simp only
            by_cases hj : y.jump = 3
            · rw [if_pos hj, if_pos hj]; exact ⟨rfl, rfl, by omega, h4⟩
            · rw [if_neg hj, if_neg hj]
              have hn := hb.next _ (next_in hb hj r)
              have := ih m g' k c (enter c b (nextB y r) r) (nextB y r) (tr u k t (nextB y r)) (tr x k t' (nextB y r)) (by omega) (by omega) hk (getI_of (by omega) hn.2) h4.tr
              cases e1 : exec u g m k c (enter c b (nextB y r) r) (nextB y r) (tr u k t (nextB y r)) <;> cases e2 : exec x g' m k c (enter c b (nextB y r) r) (nextB y r) (tr x k t' (nextB y r)) <;> rw [e1, e2] at this <;>
                first | exact this.elim | exact ⟨this.1, this.2.1, by have := this.2.2.1; omega, this.2.2.2⟩
end Unt
end Go.Wk
