/- A part of the proof of FnNumbersCardSaid. -/
import Derived.Test.YtjbcoilagfdidaaDoorNuC
/- What is drawn: a unit never fails to be drawn, and it is small. -/
namespace Go.Wk
open Go
namespace Unt
set_option maxRecDepth 10000

/-- It answers, and what it answers is so. -/
def Dr {A : Type} (o : Option A) (Q : A → Prop) : Prop := ∃ a, o = some a ∧ Q a
theorem Dr.some {A : Type} {a : A} {Q : A → Prop} (h : Q a) : Dr (some a) Q := ⟨a, rfl, h⟩
theorem Dr.bind {A B : Type} {o : Option A} {f : A → Option B} {P : A → Prop} {Q : B → Prop} (h : Dr o P) (k : ∀ a, P a → Dr (f a) Q) : Dr (Option.bind o f) Q := by
  obtain ⟨a, h1, h2⟩ := h
  obtain ⟨b, h3, h4⟩ := k a h2
  exact ⟨b, bindt h1 h3, h4⟩
theorem Dr.ite {A : Type} {c : Bool} {x y : Option A} {Q : A → Prop} (h1 : c = true → Dr x Q) (h2 : c = false → Dr y Q) : Dr (if c = true then x else y) Q := by
  cases c
  · exact h2 rfl
  · exact h1 rfl
theorem Dr.mono {A : Type} {o : Option A} {P Q : A → Prop} (h : Dr o P) (k : ∀ a, P a → Q a) : Dr o Q := by
  obtain ⟨a, h1, h2⟩ := h
  exact ⟨a, h1, k a h2⟩
theorem Dr.get {A : Type} {xs : List A} {i : Int} (h0 : 0 ≤ i) (h1 : i < (xs.length : Int)) : Dr (getI xs i) (fun x => x ∈ xs) := by
  obtain ⟨x, hx, _, hm⟩ := getI_in h0 h1
  exact ⟨x, hx, hm⟩
theorem Dr.app {A : Type} {xs ys : List A} (h : xs.length + ys.length ≤ 2147483648) : Dr (appM xs ys) (fun l => l = xs ++ ys) := ⟨_, appM_ok h, rfl⟩
theorem Dr.forN {S : Type} {body : Int → S → Option (S ⊕ Empty)} {B : Type} {f : S ⊕ Empty → Option B} {Q : B → Prop} (I : Int → S → Prop) {k : Nat} {s : S} (h0 : I 0 s)
    (h : ∀ j s, 0 ≤ j → j < (k : Int) → I j s → Dr (body j s) (fun r => ∀ t, r = .inl t → I (j + 1) t)) (hf : ∀ s, I k s → Dr (f (.inl s)) Q) : Dr (Option.bind (forN body k 0 s) f) Q := by
  rcases forN_law (body := body) (k := k) (i := 0) (s := s) I (fun _ => False) h0 (fun j s h1 h2 hs => by
    obtain ⟨r, h3, h4⟩ := h j s h1 (by simpa using h2) hs
    cases r with
    | inl t => exact .inl ⟨t, h3, h4 t rfl⟩
    | inr e => exact e.elim) with ⟨t, h3, h4⟩ | ⟨e, _, h4⟩
  · obtain ⟨b, h5, h6⟩ := hf t (by simpa using h4)
    exact ⟨b, bindt h3 h5, h6⟩
  · exact h4.elim
theorem Dr.loop {S X : Type} {body : S → Option (S ⊕ X)} {Q : X → Prop} (I : S → Prop) (μ : S → Nat) : ∀ {s : S}, I s → (∀ s, I s → Dr (body s) (fun r => (∀ t, r = .inl t → I t ∧ μ t < μ s) ∧ ∀ x, r = .inr x → Q x)) → Dr (loopM body s) Q := by
  intro s hs h
  generalize hn : μ s = n
  induction n using Nat.strongRecOn generalizing s with
  | _ n ih =>
    obtain ⟨r, h1, h2, h3⟩ := h s hs
    cases r with
    | inl t =>
      have h4 := h2 t rfl
      obtain ⟨x, h5, h6⟩ := ih (μ t) (by omega) h4.1 rfl
      exact ⟨x, by rw [loopM_inl h1]; exact h5, h6⟩
    | inr x => exact ⟨x, loopM_inr h1, h3 x rfl⟩

theorem xor_nn (a b : Int) (ha : 0 ≤ a ∧ a < 1073741824) (hb : 0 ≤ b ∧ b < 1073741824) : 0 ≤ bitsK IntKind.i64 (· ^^^ ·) a b := by
  unfold bitsK
  have h : (BitVec.ofInt 64 a ^^^ BitVec.ofInt 64 b).toNat < 2 ^ 30 := by
    rw [BitVec.toNat_xor]
    refine Nat.xor_lt_two_pow ?_ ?_ <;> rw [BitVec.toNat_ofInt] <;> omega
  show 0 ≤ IntKind.i64.wrap ((BitVec.ofInt 64 a ^^^ BitVec.ofInt 64 b).toNat : Int)
  rw [IntKind.wrap_i64]
  omega

theorem tmod_in {a n : Int} (ha : 0 ≤ a) (hn : 0 < n) : 0 ≤ a.tmod n ∧ a.tmod n < n := ⟨Int.tmod_nonneg _ ha, Int.tmod_lt_of_pos _ hn⟩

theorem pick_ok (b : List UInt8) (hb : b.length ≤ 2000) (p n : Int) (h0 : 0 ≤ p) (h1 : p ≤ 1000000) : ∃ v, pspec_l30Rd__pick ⟨b, p⟩ n = some (v, ⟨b, p + 1⟩) ∧ 0 ≤ v ∧ (0 < n → v < n) := by
  unfold pspec_l30Rd__pick
  have e1 : w64 (p + 1) = p + 1 := w64_id (by omega) (by omega)
  have e2 : w64 (p + 1 - 1) = p := by rw [w64_id (by omega) (by omega)]; omega
  simp only [e1, e2]
  by_cases hn : n < 1
  · simp only [hn, decide_true, if_true, Option.bind_some]
    exact ⟨0, rfl, by omega, by omega⟩
  by_cases hl : b.length = 0
  · simp only [hn, hl, decide_false, Bool.false_eq_true, if_false, Option.bind_some, Int.natCast_zero, decide_true, if_true]
    exact ⟨0, rfl, by omega, by omega⟩
  have hbl : ¬ ((b.length : Int) = 0) := by omega
  have hn0 : ¬ n = 0 := by omega
  simp only [hn, hbl, decide_false, Bool.false_eq_true, if_false, Option.bind_some]
  by_cases hk : p < (b.length : Int)
  · obtain ⟨x, hx, _⟩ := getI_in (xs := b) h0 hk
    simp only [hk, decide_true, if_true, hx, Option.bind_some, remM, hn0, if_false]
    have := tmod_in (a := ((x.toNat : Nat) : Int)) (n := n) (by omega) (by omega)
    exact ⟨_, rfl, this.1, fun _ => this.2⟩
  · have hpl : (0 : Int) < (b.length : Int) := by omega
    have e3 : w64 (w64 (p * 7) + 3) = p * 7 + 3 := by rw [w64_id (n := p * 7) (by omega) (by omega), w64_id (by omega) (by omega)]
    obtain ⟨x, hx, _⟩ := getI_in (xs := b) (tmod_in h0 hpl).1 (tmod_in h0 hpl).2
    obtain ⟨y, hy, _⟩ := getI_in (xs := b) (tmod_in (a := p * 7 + 3) (by omega) hpl).1 (tmod_in (a := p * 7 + 3) (by omega) hpl).2
    have hd : 0 ≤ p.tdiv (b.length : Int) ∧ p.tdiv (b.length : Int) ≤ p := ⟨Int.tdiv_nonneg h0 (by omega), Int.tdiv_le_self _ h0⟩
    have e4 : w64 (p.tdiv (b.length : Int)) = p.tdiv (b.length : Int) := w64_id (by omega) (by omega)
    have hx8 : (x.toNat : Int) < 256 := by have := x.toNat_lt; omega
    have hy8 : (y.toNat : Int) < 256 := by have := y.toNat_lt; omega
    have hz : ∃ z : Int, w64 (w64 (w64 (w64 ((x.toNat : Int) * 131) + w64 ((y.toNat : Int) * 1117)) + w64 (p * 29)) + w64 (p.tdiv (b.length : Int) * 53)) = z ∧ 0 ≤ z ∧ z < 1073741824 := by
      refine ⟨_, rfl, ?_⟩
      rw [w64_id (n := (x.toNat : Int) * 131) (by omega) (by omega), w64_id (n := (y.toNat : Int) * 1117) (by omega) (by omega), w64_id (n := p * 29) (by omega) (by omega),
        w64_id (n := p.tdiv (b.length : Int) * 53) (by omega) (by omega), w64_id (n := (x.toNat : Int) * 131 + (y.toNat : Int) * 1117) (by omega) (by omega),
        w64_id (n := (x.toNat : Int) * 131 + (y.toNat : Int) * 1117 + p * 29) (by omega) (by omega), w64_id (by omega) (by omega)]
      omega
    obtain ⟨z, hz, hz0, hz1⟩ := hz
    have hq : 0 ≤ z.tdiv 64 ∧ z.tdiv 64 ≤ z := ⟨Int.tdiv_nonneg hz0 (by omega), Int.tdiv_le_self _ hz0⟩
    have e5 : w64 (z.tdiv 64) = z.tdiv 64 := w64_id (by omega) (by omega)
    simp only [hk, decide_false, Bool.false_eq_true, if_false, remM, quoM, hbl, hn0, Option.bind_some, e3, hx, hy, e4, hz, e5]
    have := tmod_in (xor_nn z (z.tdiv 64) ⟨hz0, hz1⟩ ⟨hq.1, by omega⟩) (show 0 < n by omega)
    exact ⟨_, rfl, this.1, fun _ => this.2⟩

theorem num_ok (b : List UInt8) (hb : b.length ≤ 2000) (p : Int) (l : List Int) (hl : 0 < l.length) (h0 : 0 ≤ p) (h1 : p ≤ 1000000) : ∃ v, pspec_l30Rd__num ⟨b, p⟩ l = some (v, ⟨b, p + 1⟩) ∧ v ∈ l := by
  obtain ⟨v, h2, h3, h4⟩ := pick_ok b hb p (l.length : Int) h0 h1
  obtain ⟨x, hx, _, hm⟩ := getI_in (xs := l) h3 (h4 (by omega))
  exact ⟨x, bindt h2 (bindt hx rfl), hm⟩

section
variable {b : List UInt8} (hb : b.length ≤ 2000) {p : Int} {B : Type} {Q : B → Prop}
theorem pk {n : Int} {f : Int × l30Rd → Option B} (hb : b.length ≤ 2000) (h0 : 0 ≤ p) (h1 : p ≤ 1000000) (k : ∀ v, 0 ≤ v → (0 < n → v < n) → Dr (f (v, ⟨b, p + 1⟩)) Q) : Dr (Option.bind (pspec_l30Rd__pick ⟨b, p⟩ n) f) Q := by
  obtain ⟨v, h2, h3, h4⟩ := pick_ok b hb p n h0 h1
  obtain ⟨c, h5, h6⟩ := k v h3 h4
  exact ⟨c, bindt h2 h5, h6⟩
theorem nm {l : List Int} {f : Int × l30Rd → Option B} (hb : b.length ≤ 2000) (hl : 0 < l.length) (h0 : 0 ≤ p) (h1 : p ≤ 1000000) (k : ∀ v, v ∈ l → Dr (f (v, ⟨b, p + 1⟩)) Q) : Dr (Option.bind (pspec_l30Rd__num ⟨b, p⟩ l) f) Q := by
  obtain ⟨v, h2, h3⟩ := num_ok b hb p l hl h0 h1
  obtain ⟨c, h5, h6⟩ := k v h3
  exact ⟨c, bindt h2 h5, h6⟩
theorem gt {A : Type} {xs : List A} {i : Int} {f : A → Option B} (h0 : 0 ≤ i) (h1 : i < (xs.length : Int)) (k : ∀ x, x ∈ xs → Dr (f x) Q) : Dr (Option.bind (getI xs i) f) Q := Dr.bind (Dr.get h0 h1) k
theorem ap {A : Type} {xs ys : List A} {f : List A → Option B} (h : xs.length + ys.length ≤ 2147483648) (k : Dr (f (xs ++ ys)) Q) : Dr (Option.bind (appM xs ys) f) Q := Dr.bind (Dr.app h) fun _ e => by subst e; exact k
/-- A draw from p on that reads at most n numbers. -/
def DrA {A : Type} (o : Option (A × l30Rd)) (b : List UInt8) (lo hi : Int) (P : A → Prop) : Prop := Dr o (fun r => (r.2.b = b ∧ lo ≤ r.2.p ∧ r.2.p ≤ hi) ∧ P r.1)
theorem DrA.bind {A : Type} {o : Option (A × l30Rd)} {lo hi : Int} {P : A → Prop} {f : A × l30Rd → Option B} (h : DrA o b lo hi P) (k : ∀ v q, lo ≤ q → q ≤ hi → P v → Dr (f (v, ⟨b, q⟩)) Q) : Dr (Option.bind o f) Q := by
  obtain ⟨⟨v, ⟨b', q⟩⟩, h1, ⟨h2, h3, h4⟩, h5⟩ := h
  simp only at h2 h3 h4 h5
  subst h2
  obtain ⟨c, h6, h7⟩ := k v q h3 h4 h5
  exact ⟨c, bindt h1 h6, h7⟩
theorem DrA.some {A : Type} {v : A} {q lo hi : Int} {P : A → Prop} (h1 : lo ≤ q) (h2 : q ≤ hi) (h3 : P v) : DrA (some (v, (⟨b, q⟩ : l30Rd))) b lo hi P := ⟨_, rfl, ⟨rfl, h1, h2⟩, h3⟩
end

theorem open_ok (code : List UInt8) : ∃ b, spec_l30Open code = Option.some ⟨b, 0⟩ ∧ b.length ≤ 2000 := by
  unfold spec_l30Open
  by_cases h : (2000 : Int) < (code.length : Int)
  · simp only [h, decide_true, if_true]
    have : subM code 0 2000 = Option.some (code.take 2000) := by
      unfold subM
      rw [if_pos (by omega)]
      simp
    rw [this]
    exact ⟨_, rfl, by rw [List.length_take]; omega⟩
  · simp only [h, decide_false, Bool.false_eq_true, if_false, Option.bind_some]
    exact ⟨_, rfl, by omega⟩

/-! ### copies -/
theorem push_ok {α : Type} {xs : List α} {body : Int → List α → Option (List α ⊕ Empty)} (h : ∀ l x r, xs = l ++ x :: r → body (l.length : Int) l = Option.some (.inl (l ++ [x]))) : forN body ((xs.length : Int) - 0).toNat 0 [] = Option.some (.inl xs) := by
  rcases forN_list (xs := xs) (body := body) (s := []) (fun l s => s = l) (fun _ => False) rfl (fun l x r s h1 h2 => .inl ⟨l ++ [x], by rw [h2]; exact h l x r h1, rfl⟩) with ⟨s, h1, h2⟩ | ⟨e, _⟩
  · rw [h1, h2]
  · exact e.elim
def BG (x : Block_) : Prop := x.phis.length ≤ 1000 ∧ x.ins.length ≤ 1000 ∧ x.next_.length ≤ 1000 ∧ (∀ y ∈ x.phis, y.args.length ≤ 1000) ∧ ∀ y ∈ x.ins, y.args.length ≤ 1000
theorem copyBlock_ok (x : Block_) (h : BG x) : spec_l7CopyBlock x = Option.some x := by
  obtain ⟨h1, h2, h3, h4, h5⟩ := h
  unfold spec_l7CopyBlock
  refine bindt (bindt (appM_ok (by simp; omega)) rfl) ?_
  refine bindt (push_ok (xs := x.phis) (fun l y r e => ?_)) ?_
  · have hy := h4 y (by rw [e]; simp)
    have hl : l.length ≤ 1000 := by rw [e] at h1; simp at h1; omega
    refine bindt (by rw [e]; exact getI_mid) (bindt (appM_ok (by simp; omega)) (bindt (appM_ok (by simp; omega)) rfl))
  · refine bindt (push_ok (xs := x.ins) (fun l y r e => ?_)) rfl
    have hy := h5 y (by rw [e]; simp)
    have hl : l.length ≤ 1000 := by rw [e] at h2; simp at h2; omega
    refine bindt (by rw [e]; exact getI_mid) (bindt (appM_ok (by simp; omega)) (bindt (appM_ok (by simp; omega)) rfl))
theorem copy_ok (c : Code_) (h0 : c.blocks.length ≤ 1000) (h : ∀ x ∈ c.blocks, BG x) : spec_l7Copy c = Option.some c := by
  unfold spec_l7Copy
  refine bindt (push_ok (xs := c.blocks) (fun l y r e => ?_)) rfl
  have hl : l.length ≤ 1000 := by rw [e] at h0; simp at h0; omega
  exact bindt (by rw [e]; exact getI_mid) (bindt (copyBlock_ok y (h y (by rw [e]; simp))) (bindt (appM_ok (by simp; omega)) rfl))
theorem copyUnit_ok (u : Unit_) (h0 : u.codes.length ≤ 1000) (h : ∀ c ∈ u.codes, c.blocks.length ≤ 1000 ∧ ∀ x ∈ c.blocks, BG x) : spec_l7CopyUnit u = Option.some u := by
  unfold spec_l7CopyUnit
  refine bindt (push_ok (xs := u.codes) (fun l y r e => ?_)) rfl
  have hl : l.length ≤ 1000 := by rw [e] at h0; simp at h0; omega
  have hy := h y (by rw [e]; simp)
  exact bindt (by rw [e]; exact getI_mid) (bindt (copy_ok y hy.1 hy.2) (bindt (appM_ok (by simp; omega)) rfl))

/-! ### the parts of a unit -/
theorem to_ok {b : List UInt8} (hb : b.length ≤ 2000) {p i n : Int} (h0 : 0 ≤ p) (h1 : p ≤ 900000) : DrA (spec_l7To ⟨b, p⟩ i n) b p (p + 2) (fun _ => True) := by
  unfold spec_l7To DrA
  refine Dr.bind (P := fun s : Int × Bool => p ≤ s.1 ∧ s.1 ≤ p + 1) (Dr.ite (fun _ => pk hb h0 (by omega) fun v _ _ => Dr.some ⟨by dsimp only; omega, by dsimp only; omega⟩) (fun _ => Dr.some ⟨by dsimp only; omega, by dsimp only; omega⟩)) ?_
  rintro ⟨q, t⟩ ⟨h2, h3⟩
  dsimp only at h2 h3 ⊢
  refine Dr.ite (fun _ => pk hb (by omega) (by omega) fun v _ _ => Dr.some ⟨⟨rfl, by dsimp only; omega, by dsimp only; omega⟩, trivial⟩) (fun _ => pk hb (by omega) (by omega) fun v _ _ => Dr.some ⟨⟨rfl, by dsimp only; omega, by dsimp only; omega⟩, trivial⟩)

theorem args_ok (op : Int) : Dr (spec_l7Args op) (fun a => -1 ≤ a ∧ a ≤ 2) := by
  unfold spec_l7Args
  refine Dr.ite (fun _ => Dr.some (by omega)) fun _ => Dr.bind (P := fun _ => True) (Dr.ite (fun _ => Dr.some trivial) fun _ => Dr.ite (fun _ => Dr.some trivial) fun _ => Dr.ite (fun _ => Dr.some trivial) fun _ => Dr.some trivial) fun t _ =>
    Dr.ite (fun _ => Dr.some (by omega)) fun _ => Dr.bind (P := fun _ => True) (by rw [l1In_ok]; exact Dr.ite (fun _ => Dr.some trivial) fun _ => Dr.some trivial) fun t _ => Dr.ite (fun _ => Dr.some (by omega)) fun _ => Dr.some (by omega)

def CG (n : Int) (c : Code_) : Prop := (0 ≤ c.params ∧ c.params ≤ 3 ∧ 2 ≤ c.regs ∧ c.regs ≤ 9) ∧ 1 ≤ c.blocks.length ∧ c.blocks.length ≤ 7 ∧ ∀ x ∈ c.blocks, (x.phis.length : Int) ≤ n ∧ x.ins.length ≤ 4 ∧ x.next_.length ≤ 2 ∧ (∀ y ∈ x.phis, y.args.length ≤ 7) ∧ ∀ y ∈ x.ins, y.args.length ≤ 3

theorem some_ok {b : List UInt8} (hb : b.length ≤ 2000) {p : Int} (h0 : 0 ≤ p) (h1 : p ≤ 900000) {u : Unit_} (hl : u.codes.length ≤ 3) (hu : ∀ c ∈ u.codes, CG 0 c) (regs : Int) : DrA (spec_l7Some ⟨b, p⟩ u regs) b p (p + 10) (fun x => x.args.length ≤ 3) := by
  unfold spec_l7Some DrA
  refine nm hb (by decide) h0 (by omega) fun op hop => ?_
  dsimp only
  refine pk hb (by omega) (by omega) fun to _ _ => ?_
  dsimp only
  refine Dr.bind (args_ok op) fun na hna => ?_
  refine Dr.bind (P := fun r => match r with
    | .inl s => p + 2 ≤ s.1 ∧ s.1 ≤ p + 3 ∧ s.2.2 ≤ 3
    | .inr x => (x.2.b = b ∧ p ≤ x.2.p ∧ x.2.p ≤ p + 10) ∧ x.1.args.length ≤ 3) ?_ ?_
  · refine Dr.ite (fun _ => Dr.ite (fun _ => pk hb (by omega) (by omega) fun v _ _ => Dr.some ⟨⟨rfl, by dsimp only; omega, by dsimp only; omega⟩, by simp⟩) fun hc => ?_) fun _ => Dr.some ⟨by dsimp only; omega, by dsimp only; omega, by dsimp only; omega⟩
    have hc' : u.codes.length ≠ 0 := fun e => by simp [e] at hc
    refine pk hb (by omega) (by omega) fun v h2 h3 => ?_
    refine gt h2 (h3 (by omega)) fun c hc => ?_
    have := (hu c hc).1
    exact Dr.some ⟨by dsimp only; omega, by dsimp only; omega, by dsimp only; omega⟩
  · rintro (⟨q, k, m⟩ | x) h
    · obtain ⟨h2, h3, h4⟩ := h
      dsimp only at h2 h3 h4
      show Dr (Option.bind _ _) _
      refine Dr.bind (P := fun s : Int × Int => q ≤ s.1 ∧ s.1 ≤ q + 1) (Dr.ite (fun _ => nm hb (by decide) (by omega) (by omega) fun v _ => Dr.some ⟨by dsimp only; omega, by dsimp only; omega⟩) fun _ => Dr.some ⟨by dsimp only; omega, by dsimp only; omega⟩) ?_
      rintro ⟨q2, k2⟩ ⟨h5, h6⟩
      dsimp only at h5 h6 ⊢
      rw [makes_ok, Option.bind_some]
      refine Dr.bind (P := fun _ => True) (Dr.ite (fun _ => Dr.some trivial) fun _ => Dr.some trivial) fun to2 _ => ?_
      refine Dr.bind (P := fun _ => True) ⟨(), by rw [fitI, if_pos (by omega)], trivial⟩ fun _ _ => ?_
      refine Dr.forN (fun j s => (q2 ≤ s.1 ∧ s.1 ≤ q2 + j) ∧ (s.2.length : Int) ≤ j) ⟨by dsimp only; omega, by simp⟩ ?_ ?_
      · rintro j ⟨q3, l⟩ h7 h8 ⟨h9, h10⟩
        dsimp only at h9 h10 ⊢
        refine pk hb (by omega) (by omega) fun v _ _ => ?_
        refine ap (by simp; omega) ?_
        refine Dr.some fun t e => ?_
        cases e
        exact ⟨by dsimp only; omega, by simp; omega⟩
      · rintro ⟨q3, l⟩ ⟨h9, h10⟩
        dsimp only at h9 h10
        exact Dr.some ⟨⟨rfl, by dsimp only; omega, by dsimp only; omega⟩, by dsimp only; omega⟩
    · exact Dr.some h

theorem app_ok (a c : Int) (h1 : 0 ≤ a ∧ a ≤ 3) (h2 : 0 ≤ c ∧ c < 5) : w64 (w64 (a + 2) + c) = a + 2 + c := by
  rw [w64_id (n := a + 2) (by omega) (by omega), w64_id (by omega) (by omega)]

theorem code_dr {b : List UInt8} (hb : b.length ≤ 2000) {p : Int} (h0 : 0 ≤ p) (h1 : p ≤ 800000) {u : Unit_} (hl : u.codes.length ≤ 3) (hu : ∀ c ∈ u.codes, CG 0 c) : DrA (spec_l7Code ⟨b, p⟩ u) b p (p + 600) (CG 0) := by
  unfold spec_l7Code DrA
  refine nm hb (by decide) h0 (by omega) fun ps hps => ?_
  dsimp only
  have hps' : 0 ≤ ps ∧ ps ≤ 3 := by simp only [List.mem_cons, List.not_mem_nil, or_false] at hps; omega
  refine pk hb (by omega) (by omega) fun ex he1 he2 => ?_
  have he3 := he2 (by decide)
  dsimp only
  rw [app_ok ps ex hps' ⟨he1, he3⟩]
  refine nm hb (by decide) (by omega) (by omega) fun nb hnb => ?_
  have hnb' : 1 ≤ nb ∧ nb ≤ 7 := by simp only [List.mem_cons, List.not_mem_nil, or_false] at hnb; omega
  dsimp only
  refine Dr.bind (P := fun _ => True) ⟨(), by rw [fitI, if_pos (by omega)], trivial⟩ fun _ _ => ?_
  refine Dr.forN (fun j s => (p + 3 ≤ s.1 ∧ s.1 ≤ p + 3 + 60 * j) ∧ (s.2.length : Int) = j ∧ ∀ x ∈ s.2, (x.phis.length : Int) ≤ 0 ∧ x.ins.length ≤ 4 ∧ x.next_.length ≤ 2 ∧ (∀ y ∈ x.phis, y.args.length ≤ 7) ∧ ∀ y ∈ x.ins, y.args.length ≤ 3) ⟨by dsimp only; omega, by simp, by simp⟩ ?_ ?_
  · rintro j ⟨q, bs⟩ h7 h8 ⟨h9, h10, h11⟩
    dsimp only at h9 h10 h11 ⊢
    refine nm hb (by decide) (by omega) (by omega) fun ni hni => ?_
    have hni' : 0 ≤ ni ∧ ni ≤ 4 := by simp only [List.mem_cons, List.not_mem_nil, or_false] at hni; omega
    dsimp only
    refine Dr.bind (P := fun s : Int × List Ins_ => (q + 1 ≤ s.1 ∧ s.1 ≤ q + 1 + 40) ∧ s.2.length ≤ 4 ∧ ∀ y ∈ s.2, y.args.length ≤ 3) (Dr.bind (P := fun s : Int × List Ins_ => (q + 1 ≤ s.1 ∧ s.1 ≤ q + 1 + 40) ∧ s.2.length ≤ 4 ∧ ∀ y ∈ s.2, y.args.length ≤ 3) ?_ fun _ h => Dr.some h) ?_
    · refine Dr.loop (fun s => (0 ≤ s.2.2 ∧ s.2.2 ≤ 4) ∧ ((s.2.1.length : Int) + s.2.2 = ni) ∧ (q + 1 ≤ s.1 ∧ s.1 ≤ q + 1 + 10 * s.2.1.length) ∧ ∀ y ∈ s.2.1, y.args.length ≤ 3) (fun s => s.2.2.toNat) ⟨by dsimp only; omega, by simp, by simp, by simp⟩ ?_
      rintro ⟨q2, is, left⟩ ⟨g1, g2, g3, g4⟩
      dsimp only at g1 g2 g3 g4 ⊢
      refine Dr.ite (fun hc => ?_) fun hc => ?_
      · have hc' := of_decide_eq_true hc
        refine DrA.bind (some_ok hb (by omega) (by omega) hl hu _) fun x q3 g5 g6 g7 => ?_
        refine ap (by simp; omega) ?_
        refine Dr.some ⟨fun t e => ?_, (fun t e => nomatch e)⟩
        cases e
        rw [w64_id (by omega) (by omega)]
        refine ⟨⟨by dsimp only; omega, by simp; omega, by simp; omega, ?_⟩, by dsimp only; omega⟩
        intro y hy
        rcases List.mem_append.1 hy with h | h
        · exact g4 y h
        · rw [List.mem_singleton.1 h]; exact g7
      · exact Dr.some ⟨(fun t e => nomatch e), fun t e => by cases e; exact ⟨by dsimp only; omega, by dsimp only; omega, g4⟩⟩
    · rintro ⟨q2, is⟩ ⟨g1, g2, g3⟩
      dsimp only at g1 g2 g3 ⊢
      refine pk hb (by omega) (by omega) fun on _ _ => ?_
      dsimp only
      refine nm hb (by decide) (by omega) (by omega) fun ju _ => ?_
      dsimp only
      refine Dr.bind (P := fun s : Int × Bool => q2 + 2 ≤ s.1 ∧ s.1 ≤ q2 + 3) (Dr.ite (fun _ => Dr.some ⟨by dsimp only; omega, by dsimp only; omega⟩) fun _ => Dr.ite (fun _ => pk hb (by omega) (by omega) fun v _ _ => Dr.some ⟨by dsimp only; omega, by dsimp only; omega⟩) fun _ => Dr.some ⟨by dsimp only; omega, by dsimp only; omega⟩) ?_
      rintro ⟨q3, t⟩ ⟨g4, g5⟩
      dsimp only at g4 g5 ⊢
      refine Dr.bind (P := fun _ => True) (Dr.ite (fun _ => Dr.some trivial) fun _ => Dr.some trivial) fun ju2 _ => ?_
      refine Dr.bind (P := fun s : Int × Int × List Int => (q3 ≤ s.1 ∧ s.1 ≤ q3 + 4) ∧ s.2.2.length ≤ 2) (Dr.bind (P := fun s : Int × Int × List Int => (q3 ≤ s.1 ∧ s.1 ≤ q3 + 4) ∧ s.2.2.length ≤ 2) ?_ fun s h => Dr.some h) ?_
      · refine Dr.ite (fun _ => DrA.bind (to_ok hb (by omega) (by omega)) fun v q4 e1 e2 _ => Dr.some ⟨by dsimp only; omega, by simp⟩) fun _ => Dr.bind (P := fun s : Int × List Int => (q3 ≤ s.1 ∧ s.1 ≤ q3 + 4) ∧ s.2.length ≤ 2) ?_ fun s h => Dr.some h
        refine Dr.ite (fun _ => DrA.bind (to_ok hb (by omega) (by omega)) fun v q4 e1 e2 _ => DrA.bind (to_ok hb (by dsimp only; omega) (by dsimp only; omega)) fun v2 q5 e3 e4 _ => Dr.some ⟨by dsimp only at e3 e4 ⊢; omega, by simp⟩) fun _ => Dr.some ⟨by dsimp only; omega, by simp⟩
      · rintro ⟨q4, on2, nx⟩ ⟨e1, e2⟩
        dsimp only at e1 e2 ⊢
        refine ap (by simp; omega) ?_
        refine Dr.some fun t e => ?_
        cases e
        refine ⟨by dsimp only; omega, by simp; omega, ?_⟩
        intro x hx
        rcases List.mem_append.1 hx with h | h
        · exact h11 x h
        · rw [List.mem_singleton.1 h]; exact ⟨by simp, g2, e2, by simp, g3⟩
  · rintro ⟨q, bs⟩ ⟨h9, h10, h11⟩
    dsimp only at h9 h10 h11
    exact Dr.some ⟨⟨rfl, by dsimp only; omega, by dsimp only; omega⟩, ⟨by dsimp only; omega, by dsimp only; omega, by dsimp only; omega, h11⟩⟩

def UG (n : Int) (u : Unit_) : Prop := (1 ≤ u.codes.length ∧ u.codes.length ≤ 3) ∧ ∀ c ∈ u.codes, CG n c
theorem CG.mono {n m : Int} (h : n ≤ m) {c : Code_} (hc : CG n c) : CG m c := ⟨hc.1, hc.2.1, hc.2.2.1, fun x hx => ⟨Int.le_trans (hc.2.2.2 x hx).1 h, (hc.2.2.2 x hx).2⟩⟩
theorem mem_set {α : Type} {l : List α} {i : Nat} {x y : α} (h : y ∈ l.set i x) : y ∈ l ∨ y = x := List.mem_or_eq_of_mem_set h
theorem unit_dr {b : List UInt8} (hb : b.length ≤ 2000) {p : Int} (h0 : 0 ≤ p) (h1 : p ≤ 700000) : DrA (spec_l7Unit ⟨b, p⟩) b p (p + 2000) (UG 3) := by
  unfold spec_l7Unit DrA
  refine nm hb (by decide) h0 (by omega) fun nc hnc => ?_
  have hnc' : 1 ≤ nc ∧ nc ≤ 3 := by simp only [List.mem_cons, List.not_mem_nil, or_false] at hnc; omega
  dsimp only
  refine Dr.bind (P := fun s : Int × List Code_ => (p + 1 ≤ s.1 ∧ s.1 ≤ p + 1801) ∧ UG 0 ⟨s.2⟩) (Dr.bind (P := fun s : Int × List Code_ => (p + 1 ≤ s.1 ∧ s.1 ≤ p + 1801) ∧ UG 0 ⟨s.2⟩) ?_ fun _ h => Dr.some h) ?_
  · refine Dr.loop (fun s => (0 ≤ s.2.2 ∧ s.2.2 ≤ 3) ∧ ((s.2.1.length : Int) + s.2.2 = nc) ∧ (p + 1 ≤ s.1 ∧ s.1 ≤ p + 1 + 600 * s.2.1.length) ∧ ∀ y ∈ s.2.1, CG 0 y) (fun s => s.2.2.toNat) ⟨by dsimp only; omega, by simp, by simp, by simp⟩ ?_
    rintro ⟨q, cs, left⟩ ⟨g1, g2, g3, g4⟩
    dsimp only at g1 g2 g3 g4 ⊢
    refine Dr.ite (fun hc => ?_) fun hc => ?_
    · have hc' := of_decide_eq_true hc
      refine DrA.bind (code_dr hb (by omega) (by omega) (by dsimp only; omega) g4) fun x q3 g5 g6 g7 => ?_
      refine ap (by simp; omega) ?_
      refine Dr.some ⟨fun t e => ?_, (fun t e => nomatch e)⟩
      cases e
      rw [w64_id (by omega) (by omega)]
      refine ⟨⟨by dsimp only; omega, by simp; omega, by simp; omega, ?_⟩, by dsimp only; omega⟩
      intro y hy
      rcases List.mem_append.1 hy with h | h
      · exact g4 y h
      · rw [List.mem_singleton.1 h]; exact g7
    · have hc' := of_decide_eq_false hc
      exact Dr.some ⟨(fun t e => nomatch e), fun t e => by cases e; exact ⟨by dsimp only; omega, ⟨by dsimp only; omega, g4⟩⟩⟩
  · rintro ⟨q, cs⟩ ⟨g1, g2⟩
    dsimp only at g1 g2 ⊢
    refine nm hb (by decide) (by omega) (by omega) fun np hnp => ?_
    have hnp' : 0 ≤ np ∧ np ≤ 3 := by simp only [List.mem_cons, List.not_mem_nil, or_false] at hnp; omega
    dsimp only
    refine Dr.bind (P := fun s : List Code_ × Int => (p + 1 ≤ s.2 ∧ s.2 ≤ p + 2000) ∧ UG 3 ⟨s.1⟩) (Dr.bind (P := fun s : List Code_ × Int => (p + 1 ≤ s.2 ∧ s.2 ≤ p + 2000) ∧ UG 3 ⟨s.1⟩) ?_ fun _ h => Dr.some h) ?_
    · refine Dr.loop (fun s => (0 ≤ s.2.2 ∧ s.2.2 ≤ np) ∧ (q + 1 ≤ s.1 ∧ s.1 ≤ q + 1 + 20 * (np - s.2.2)) ∧ s.2.1.length = cs.length ∧ ∀ c ∈ s.2.1, CG (np - s.2.2) c) (fun s => s.2.2.toNat) ⟨by dsimp only; omega, by dsimp only; omega, rfl, fun c hc => CG.mono (by dsimp only; omega) (g2.2 c hc)⟩ ?_
      rintro ⟨q1, ds, left⟩ ⟨k1, k2, k3, k4⟩
      have k5 := g2.1
      dsimp only at k1 k2 k3 k4 k5 ⊢
      refine Dr.ite (fun hc => ?_) fun hc => ?_
      · have hc' := of_decide_eq_true hc
        refine Dr.bind (P := fun s : Int × List Code_ => (q1 ≤ s.1 ∧ s.1 ≤ q1 + 20) ∧ s.2.length = cs.length ∧ ∀ c ∈ s.2, CG (np - (left - 1)) c) ?_ ?_
        · refine pk hb (by omega) (by omega) fun k e1 e2 => ?_
          refine gt e1 (by have := e2 (by omega); dsimp only; omega) fun c hc => ?_
          have hcg := k4 c hc
          obtain ⟨c1, c2, c3, c4⟩ := hcg
          refine pk hb (by dsimp only; omega) (by dsimp only; omega) fun j e3 e4 => ?_
          have e4 := e4 (by omega)
          refine pk hb (by dsimp only; omega) (by dsimp only; omega) fun to _ _ => ?_
          dsimp only
          rw [l7Preds_ok c j (by omega) (fun x hx => by have := (c4 x hx).2.2.1; omega), Option.bind_some]
          have hpl := predsL_len c j
          refine Dr.forN (fun i s => (q1 + 3 ≤ s.1 ∧ s.1 ≤ q1 + 3 + i) ∧ (s.2.length : Int) = i) ⟨by dsimp only; omega, by simp⟩ ?_ ?_
          · rintro i ⟨q3, l⟩ h7 h8 ⟨h9, h10⟩
            dsimp only at h9 h10 ⊢
            refine pk hb (by omega) (by omega) fun v _ _ => ?_
            refine ap (by simp; omega) ?_
            refine Dr.some fun t e => ?_
            cases e
            exact ⟨by dsimp only; omega, by simp; omega⟩
          · rintro ⟨q3, l⟩ ⟨h9, h10⟩
            dsimp only at h9 h10
            show Dr (Option.bind _ _) _
            refine Dr.bind (P := fun s : List Code_ => s.length = cs.length ∧ ∀ c ∈ s, CG (np - (left - 1)) c) (Dr.ite (fun _ => ?_) fun _ => Dr.some ⟨k3, fun c hc => CG.mono (by omega) (k4 c hc)⟩) fun s hs => Dr.some ⟨by dsimp only; omega, hs⟩
            refine Dr.bind (P := fun s : List Code_ => s.length = cs.length ∧ ∀ c ∈ s, CG (np - (left - 1)) c) ?_ fun s hs => Dr.some hs
            refine gt e3 e4 fun x hx => ?_
            have hx4 := c4 x hx
            refine ap (by simp; omega) ?_
            refine Dr.some ⟨by simp; exact k3, fun d hd => ?_⟩
            rcases mem_set hd with hd | rfl
            · exact CG.mono (by omega) (k4 d hd)
            · refine ⟨c1, by simp; omega, by simp; omega, fun y hy => ?_⟩
              rcases mem_set hy with hy | rfl
              · have := c4 y hy
                exact ⟨by omega, this.2⟩
              · refine ⟨by simp; omega, hx4.2.1, hx4.2.2.1, fun z hz => ?_, hx4.2.2.2.2⟩
                rcases List.mem_append.1 hz with h | h
                · exact hx4.2.2.2.1 z h
                · rw [List.mem_singleton.1 h]; dsimp only; omega
        · rintro ⟨q2, es⟩ ⟨e1, e2, e3⟩
          dsimp only at e1 e2 e3 ⊢
          refine Dr.some ⟨fun t e => ?_, (fun t e => nomatch e)⟩
          cases e
          rw [w64_id (by omega) (by omega)]
          exact ⟨⟨by dsimp only; omega, by dsimp only; omega, e2, e3⟩, by dsimp only; omega⟩
      · have hc' := of_decide_eq_false hc
        exact Dr.some ⟨(fun t e => nomatch e), fun t e => by cases e; exact ⟨by dsimp only; omega, ⟨by dsimp only; omega, fun c hc => CG.mono (by omega) (k4 c hc)⟩⟩⟩
    · rintro ⟨ds, q1⟩ ⟨k1, k2⟩
      dsimp only at k1 k2
      exact Dr.some ⟨⟨rfl, by dsimp only; omega, by dsimp only; omega⟩, k2⟩
end Unt
end Go.Wk
