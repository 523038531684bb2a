/- A part of the proof of FnSameRunsSaid. -/
import Derived.Test.YtjbcoilagfdidaaSaT
import Derived.Test.YtjbcoilagfdidaaSaQ
/- The law of SameRuns: drawn units, one of them made tight. -/
namespace Go.Wk
open Go
namespace Unt
set_option maxRecDepth 10000

/-- A loop over a list's places. -/
theorem drList {α S B : Type} {xs : List α} {body : Int → S → Option (S ⊕ Empty)} {f : S ⊕ Empty → Option B} {Q : B → Prop} {s : S} (I : S → Prop) (h0 : I s)
    (h : ∀ j s, 0 ≤ j → j < (xs.length : Int) → I s → Dr (body j s) (fun r => ∀ t, r = .inl t → I t)) (hf : ∀ s, I s → Dr (f (.inl s)) Q) : Dr (Option.bind (forN body ((xs.length : Int) - 0).toNat 0 s) f) Q :=
  Dr.forN (fun _ => I) h0 (fun j s h1 h2 hs => h j s h1 (by omega) hs) (fun s hs => hf s hs)

/-- The registers of a code are registers. -/
def RB (c : Code_) (x : Block_) : Prop := (∀ f ∈ x.phis, (0 ≤ f.to ∧ f.to < c.regs) ∧ ∀ r ∈ f.args, 0 ≤ r ∧ r < c.regs) ∧ (∀ y ∈ x.ins, (makesB y.op = true → 0 ≤ y.to ∧ y.to < c.regs) ∧ ∀ r ∈ y.args, 0 ≤ r ∧ r < c.regs) ∧ (x.jump ≠ 1 → 0 ≤ x.on ∧ x.on < c.regs)
theorem rb_of {u : Unit_} (hu : Ok u) {k : Int} {c : Code_} (hk : getI u.codes k = some c) : ∀ x ∈ c.blocks, RB c x := fun x hx => by
  obtain ⟨b, hb⟩ := List.getElem?_of_mem hx
  have hbx : getI c.blocks (b : Int) = some x := getI_some.2 ⟨by omega, by simpa using hb⟩
  have h := (hu.cok hk).bok hbx
  refine ⟨fun f hf => ?_, fun y hy => ?_, fun hj => ?_⟩
  · have := h.phis f hf
    exact ⟨this.2.1, this.2.2.2⟩
  · have := iok (h.ins y hy)
    refine ⟨fun hm => this.to ?_ ?_, this.args⟩
    · intro e; rw [e] at hm; simp [makesB, inB] at hm
    · intro e; rw [e] at hm; simp [makesB, inB] at hm
  · rcases h.jump with ⟨e, _⟩ | ⟨_, _, h1, h2⟩ | ⟨_, _, h1, h2⟩
    · exact absurd e hj
    · exact ⟨h1, h2⟩
    · exact ⟨h1, h2⟩

theorem tell_ok {to : List Int} {n : Nat} {r next : Int} (hl : to.length = n) (h0 : 0 ≤ r) (h1 : r < (n : Int)) : Dr (spec_l7Tell to r next) (fun q => q.2.length = n) := by
  unfold spec_l7Tell
  exact gt h0 (by omega) fun x _ => Dr.ite (fun _ => Dr.some hl) fun _ => Dr.some (by simpa using hl)
theorem tells_ok {args to : List Int} {n : Nat} {next : Int} {B : Type} {Q : B → Prop} {f : (List Int × Int) ⊕ Empty → Option B} (hl : to.length = n) (ha : ∀ r ∈ args, 0 ≤ r ∧ r < (n : Int)) (hf : ∀ s : List Int × Int, s.1.length = n → Dr (f (.inl s)) Q) :
    Dr (Option.bind (forN (S := (List Int) × Int) (X := Empty) (fun i4_1 xs4_1 => Option.bind (getI args i4_1) fun x4_1 => Option.bind (spec_l7Tell xs4_1.1 x4_1 xs4_1.2) fun r4_1 => some (.inl (r4_1.2, r4_1.1))) (((args.length : Int) : Int) - 0).toNat 0 (to, next)) f) Q :=
  drList (xs := args) (fun s => s.1.length = n) hl (fun j s h1 h2 hs => gt h1 h2 fun a hm => Dr.bind (tell_ok hs (ha a hm).1 (ha a hm).2) fun q hq => Dr.some fun t e => by cases e; exact hq) hf

/-! ### registers turned by a list -/
def In (n : Nat) (r : Int) : Prop := 0 ≤ r ∧ r < (n : Int)
/-- A list that is turned from the front: behind k it is as it was. -/
def Tl {α : Type} (p0 p : List α) (k : Int) : Prop := p.length = p0.length ∧ 0 ≤ k ∧ k ≤ (p.length : Int) ∧ ∀ j : Nat, k ≤ (j : Int) → p[j]? = p0[j]?
theorem Tl.refl {α : Type} (p : List α) : Tl p p 0 := ⟨rfl, Int.le_refl _, by omega, fun _ _ => rfl⟩
theorem Tl.at {α : Type} {p0 p : List α} {k : Int} (h : Tl p0 p k) (hk : k < (p.length : Int)) : ∃ x, getI p k = some x ∧ x ∈ p0 := by
  obtain ⟨x, hx, hx2, _⟩ := getI_in (xs := p) h.2.1 hk
  refine ⟨x, hx, ?_⟩
  rw [h.2.2.2 k.toNat (by have := h.2.1; omega)] at hx2
  exact List.mem_of_getElem? hx2
theorem Tl.set {α : Type} {p0 p : List α} {k : Int} (h : Tl p0 p k) (hk : k < (p.length : Int)) (x : α) : Tl p0 (p.set k.toNat x) (k + 1) := by
  refine ⟨by simpa using h.1, by have := h.2.1; omega, by simp; omega, fun j hj => ?_⟩
  rw [List.getElem?_set_ne (by have := h.2.1; omega)]
  exact h.2.2.2 j (by omega)

theorem argsT {to : List Int} (args0 : List Int) (h : ∀ r ∈ args0, In to.length r) (hl : args0.length ≤ 1000000) {A : Type} (mk : List Int → A) (i : Int) (xs0 : List A) (hi : 0 ≤ i) (hil : i < (xs0.length : Int))
    {body : List A × Int → Option ((List A × Int) ⊕ List A)}
    (hb : ∀ (xs : List A) (a : List Int) (k : Int), getI xs i = some (mk a) → body (xs, k) = if decide (k < (a.length : Int)) then Option.bind (Option.bind (getI a k) fun r => Option.bind (getI to r) fun r2 => some (xs.set i.toNat (mk (a.set k.toNat r2)))) fun s => some (.inl (s, w64 (k + 1))) else some (.inr xs))
    (h0 : getI xs0 i = some (mk args0)) : Dr (Option.bind (loopM body (xs0, 0)) (fun e0 => some e0)) (fun xs => xs.length = xs0.length ∧ ∀ j : Nat, (j : Int) ≠ i → xs[j]? = xs0[j]?) := by
  refine Dr.bind (P := fun xs => xs.length = xs0.length ∧ ∀ j : Nat, (j : Int) ≠ i → xs[j]? = xs0[j]?) ?_ fun s hs => Dr.some hs
  refine Dr.loop (fun s : List A × Int => ∃ a, getI s.1 i = some (mk a) ∧ Tl args0 a s.2 ∧ s.1.length = xs0.length ∧ ∀ j : Nat, (j : Int) ≠ i → s.1[j]? = xs0[j]?) (fun s => (args0.length : Int).toNat - s.2.toNat) ⟨args0, h0, Tl.refl _, rfl, fun _ _ => rfl⟩ ?_
  rintro ⟨xs, k⟩ ⟨a, h1, h2, h3, h4⟩
  dsimp only at h1 h2 h3 h4
  rw [hb xs a k h1]
  refine Dr.ite (fun hc => ?_) fun _ => Dr.some ⟨(fun t e => nomatch e), fun x e => by cases e; exact ⟨h3, h4⟩⟩
  have hk := of_decide_eq_true hc
  obtain ⟨r, hr, hm⟩ := h2.at hk
  have hkl := h2.1
  have hk0 := h2.2.1
  rw [hr, Option.bind_some]
  refine Dr.bind (P := fun ys => ∃ r2, ys = xs.set i.toNat (mk (a.set k.toNat r2))) (gt (h r hm).1 (h r hm).2 fun r2 _ => Dr.some ⟨r2, rfl⟩) fun ys hy => ?_
  obtain ⟨r2, rfl⟩ := hy
  refine Dr.some ⟨fun t e => ?_, fun x e => nomatch e⟩
  cases e
  rw [w64_id (by omega) (by omega)]
  refine ⟨⟨a.set k.toNat r2, getI_some.2 ⟨hi, ?_⟩, h2.set hk r2, by simpa using h3, fun j hj => ?_⟩, by dsimp only; omega⟩
  · rw [List.getElem?_set_self (by omega)]
  · rw [List.getElem?_set_ne (by omega)]; exact h4 j hj

/-- A block of bounded lengths. -/
def SB (x : Block_) : Prop := x.phis.length ≤ 1000 ∧ x.ins.length ≤ 1000 ∧ x.next_.length ≤ 1000

theorem w1 {k : Int} {n : Nat} (h0 : 0 ≤ k) (h : k < (n : Int)) (hn : n ≤ 1000000) : w64 (k + 1) = k + 1 := w64_id (by omega) (by omega)

theorem phisT {to : List Int} (l : List Phi_) (hl : l.length ≤ 1000) (h : ∀ f ∈ l, In to.length f.to ∧ f.args.length ≤ 1000 ∧ ∀ r ∈ f.args, In to.length r)
    {body : List Phi_ × Int → Option ((List Phi_ × Int) ⊕ List Phi_)} (hb : ∀ xs k, body (xs, k) = if decide (k < (xs.length : Int)) then Option.bind (getI xs k) fun x4_1 => Option.bind (getI to x4_1.to) fun x4_2 => Option.bind (Option.bind (loopM (S := (List Phi_) × Int) (X := (List Phi_)) (fun xs6_1 => Option.bind (getI xs6_1.1 k) fun x6_1 => if decide (xs6_1.2 < ((x6_1.args.length : Int))) then Option.bind (Option.bind (getI x6_1.args xs6_1.2) fun pb7_1 => Option.bind (getI to pb7_1) fun pb7_2 => some (xs6_1.1.set k.toNat (⟨x6_1.to, (x6_1.args.set (xs6_1.2).toNat pb7_2)⟩ : Phi_)) : Option ((List Phi_))) fun s6_1 => some (.inl (s6_1, w64 (xs6_1.2 + 1))) else some (.inr xs6_1.1)) ((xs.set k.toNat (⟨x4_2, x4_1.args⟩ : Phi_)), 0)) (fun e0 => some e0) : Option ((List Phi_))) fun s4_1 => some (.inl (s4_1, w64 (k + 1))) else some (.inr xs)) :
    Dr (Option.bind (loopM body (l, 0)) (fun e0 => some e0)) (fun xs => xs.length = l.length) := by
  refine Dr.bind (P := fun xs => xs.length = l.length) ?_ fun s hs => Dr.some hs
  refine Dr.loop (fun s : List Phi_ × Int => Tl l s.1 s.2) (fun s => l.length - s.2.toNat) (Tl.refl _) ?_
  rintro ⟨xs, k⟩ ht
  dsimp only at ht
  rw [hb xs k]
  refine Dr.ite (fun hc => ?_) fun _ => Dr.some ⟨(fun t e => nomatch e), fun x e => by cases e; exact ht.1⟩
  have hk := of_decide_eq_true hc
  obtain ⟨f, hf, hm⟩ := ht.at hk
  have hkl := ht.1
  have hk0 := ht.2.1
  rw [hf, Option.bind_some]
  refine gt (h f hm).1.1 (h f hm).1.2 fun x4_2 _ => ?_
  refine Dr.bind (argsT (to := to) f.args (h f hm).2.2 (by have := (h f hm).2.1; omega) (fun a => (⟨x4_2, a⟩ : Phi_)) k (xs.set k.toNat ⟨x4_2, f.args⟩) hk0 (by simpa using hk) (fun ys a j e => by show Option.bind (getI ys k) _ = _; rw [e]; rfl) (getI_some.2 ⟨hk0, by rw [List.getElem?_set_self (by omega)]⟩)) fun s hs => ?_
  refine Dr.some ⟨fun t e => ?_, fun x e => nomatch e⟩
  cases e
  dsimp only
  rw [w1 hk0 hk (by omega)]
  refine ⟨⟨?_, by omega, ?_, fun j hj => ?_⟩, by omega⟩
  · rw [hs.1]; simpa using hkl
  · rw [hs.1]; simp; omega
  · rw [hs.2 j (by omega), List.getElem?_set_ne (by omega)]
    exact ht.2.2.2 j (by omega)

theorem insT {to : List Int} (l : List Ins_) (hl : l.length ≤ 1000) (h : ∀ y ∈ l, (makesB y.op = true → In to.length y.to) ∧ y.args.length ≤ 1000 ∧ ∀ r ∈ y.args, In to.length r)
    {body : List Ins_ × Int → Option ((List Ins_ × Int) ⊕ List Ins_)} (hb : ∀ xs k, body (xs, k) = if decide (k < (xs.length : Int)) then Option.bind (getI xs k) fun x4_3 => Option.bind (spec_l7Makes x4_3.op) fun r4_1 => Option.bind (if r4_1 then Option.bind (getI to x4_3.to) fun x5_1 => some (xs.set k.toNat (⟨x4_3.op, x5_1, x4_3.args, x4_3.n_⟩ : Ins_)) else some xs : Option ((List Ins_))) fun s4_2 => Option.bind (Option.bind (loopM (S := (List Ins_) × Int) (X := (List Ins_)) (fun xs6_2 => Option.bind (getI xs6_2.1 k) fun x6_2 => if decide (xs6_2.2 < ((x6_2.args.length : Int))) then Option.bind (Option.bind (getI x6_2.args xs6_2.2) fun pb7_3 => Option.bind (getI to pb7_3) fun pb7_4 => some (xs6_2.1.set k.toNat (⟨x6_2.op, x6_2.to, (x6_2.args.set (xs6_2.2).toNat pb7_4), x6_2.n_⟩ : Ins_)) : Option ((List Ins_))) fun s6_2 => some (.inl (s6_2, w64 (xs6_2.2 + 1))) else some (.inr xs6_2.1)) (s4_2, 0)) (fun e0 => some e0) : Option ((List Ins_))) fun s4_3 => some (.inl (s4_3, w64 (k + 1))) else some (.inr xs)) :
    Dr (Option.bind (loopM body (l, 0)) (fun e0 => some e0)) (fun xs => xs.length = l.length) := by
  refine Dr.bind (P := fun xs => xs.length = l.length) ?_ fun s hs => Dr.some hs
  refine Dr.loop (fun s : List Ins_ × Int => Tl l s.1 s.2) (fun s => l.length - s.2.toNat) (Tl.refl _) ?_
  rintro ⟨xs, k⟩ ht
  dsimp only at ht
  rw [hb xs k]
  refine Dr.ite (fun hc => ?_) fun _ => Dr.some ⟨(fun t e => nomatch e), fun x e => by cases e; exact ht.1⟩
  have hk := of_decide_eq_true hc
  obtain ⟨y, hy, hm⟩ := ht.at hk
  have hkl := ht.1
  have hk0 := ht.2.1
  rw [hy, Option.bind_some, makes_ok, Option.bind_some]
  refine Dr.bind (P := fun zs : List Ins_ => zs.length = xs.length ∧ (∃ v, getI zs k = some ⟨y.op, v, y.args, y.n_⟩) ∧ ∀ j : Nat, (j : Int) ≠ k → zs[j]? = xs[j]?) ?_ fun zs hz => ?_
  · refine Dr.ite (fun hc => ?_) fun _ => Dr.some ⟨rfl, ⟨y.to, hy⟩, fun _ _ => rfl⟩
    refine gt ((h y hm).1 hc).1 ((h y hm).1 hc).2 fun v _ => Dr.some ⟨by simp, ⟨v, getI_some.2 ⟨hk0, by rw [List.getElem?_set_self (by omega)]⟩⟩, fun j hj => by rw [List.getElem?_set_ne (by omega)]⟩
  obtain ⟨hz1, ⟨v, hz2⟩, hz3⟩ := hz
  refine Dr.bind (argsT (to := to) y.args (h y hm).2.2 (by have := (h y hm).2.1; omega) (fun a => (⟨y.op, v, a, y.n_⟩ : Ins_)) k zs hk0 (by omega) (fun ys a j e => by show Option.bind (getI ys k) _ = _; rw [e]; rfl) hz2) fun s hs => ?_
  refine Dr.some ⟨fun t e => ?_, fun x e => nomatch e⟩
  cases e
  dsimp only
  rw [w1 hk0 hk (by omega)]
  refine ⟨⟨by rw [hs.1, hz1]; exact hkl, by omega, by rw [hs.1]; omega, fun j hj => ?_⟩, by omega⟩
  rw [hs.2 j (by omega), hz3 j (by omega)]
  exact ht.2.2.2 j (by omega)

theorem each_ok {c : Code_} (hl : c.blocks.length ≤ 1000) (hg : ∀ x ∈ c.blocks, BG x) (hr : ∀ x ∈ c.blocks, RB c x) {to : List Int} (ht : (to.length : Int) = c.regs) : Dr (spec_l7Each c to) (fun r => ∀ x ∈ r.blocks, SB x) := by
  unfold spec_l7Each
  rw [copy_ok c hl hg, Option.bind_some]
  refine Dr.forN (fun i (s : List Block_) => Tl c.blocks s i ∧ ∀ x ∈ s, SB x) ⟨Tl.refl _, fun x hx => ⟨(hg x hx).1, (hg x hx).2.1, (hg x hx).2.2.1⟩⟩ (fun i s h0 h1 hs => ?_) fun s hs => Dr.some hs.2
  have hsl := hs.1.1
  obtain ⟨x, hx, hm⟩ := hs.1.at (by omega)
  have hgx := hg x hm
  have hrx := hr x hm
  refine Dr.bind (P := fun ys : List Block_ => Tl c.blocks ys (i + 1) ∧ ∀ x ∈ ys, SB x) ?_ fun ys hy => Dr.some fun t e => by cases e; exact hy
  rw [hx, Option.bind_some]
  have hin : ∀ r, (0 ≤ r ∧ r < c.regs) → In to.length r := fun r h => ⟨h.1, by omega⟩
  refine Dr.bind (phisT (to := to) x.phis hgx.1 (fun f hf => ⟨hin _ (hrx.1 f hf).1, hgx.2.2.2.1 f hf, fun r h => hin _ ((hrx.1 f hf).2 r h)⟩) (fun xs k => rfl)) fun ps hp => ?_
  refine Dr.bind (insT (to := to) x.ins hgx.2.1 (fun y hy => ⟨fun e => hin _ ((hrx.2.1 y hy).1 e), hgx.2.2.2.2 y hy, fun r h => hin _ ((hrx.2.1 y hy).2 r h)⟩) (fun xs k => rfl)) fun is hi => ?_
  have hset : ∀ v : Int, Tl c.blocks (s.set i.toNat ⟨ps, is, x.jump, v, x.next_⟩) (i + 1) ∧ ∀ z ∈ s.set i.toNat ⟨ps, is, x.jump, v, x.next_⟩, SB z := fun v =>
    ⟨hs.1.set (by omega) _, fun z hz => by
      rcases mem_set hz with h | h
      · exact hs.2 z h
      · rw [h]; exact ⟨by rw [hp]; exact hgx.1, by rw [hi]; exact hgx.2.1, hgx.2.2.1⟩⟩
  refine Dr.bind (P := fun ys : List Block_ => Tl c.blocks ys (i + 1) ∧ ∀ x ∈ ys, SB x) ?_ fun ys hy => Dr.some hy
  refine Dr.ite (fun hj => ?_) fun _ => Dr.some (hset x.on)
  have ho := hrx.2.2 (of_decide_eq_true hj)
  exact gt ho.1 (by omega) fun v _ => Dr.some (hset v)

theorem tight_ok {c : Code_} (h0 : 0 ≤ c.regs ∧ c.regs ≤ 1000) (hl : c.blocks.length ≤ 1000) (hg : ∀ x ∈ c.blocks, BG x) (hr : ∀ x ∈ c.blocks, RB c x) : Dr (spec_l7Tight c) (fun r => ∀ x ∈ r.blocks, SB x) := by
  unfold spec_l7Tight
  rw [makeM_ok h0.1 (by omega), Option.bind_some, show fitI c.regs = some () by rw [fitI, if_pos (by omega)], Option.bind_some]
  have hn : ((List.replicate c.regs.toNat (0 : Int)).length : Int) = c.regs := by simp; omega
  refine Dr.forN (fun _ (s : List Int) => s.length = c.regs.toNat) (by simp) (fun i s h1 h2 hs => ?_) fun s hs => ?_
  · refine Dr.bind (P := fun ys : List Int => ys.length = c.regs.toNat) ?_ fun ys hy => Dr.some fun t e => by cases e; exact hy
    refine gt h1 (by omega) fun v _ => ?_
    refine Dr.bind (P := fun ys : List Int => ys.length = c.regs.toNat) (Dr.ite (fun _ => Dr.some (by simpa using hs)) fun _ => Dr.some (by simpa using hs)) fun ys hy => Dr.some hy
  dsimp only [Sum.elim_inl]
  have hin : ∀ r, (0 ≤ r ∧ r < c.regs) → 0 ≤ r ∧ r < ((c.regs.toNat : Nat) : Int) := fun r h => ⟨h.1, by omega⟩
  refine drList (xs := c.blocks) (fun s : List Int × Int => s.1.length = c.regs.toNat) hs (fun i s h1 h2 hs => ?_) fun s hs => ?_
  · refine Dr.bind (P := fun ys : List Int × Int => ys.1.length = c.regs.toNat) ?_ fun ys hy => Dr.some fun t e => by cases e; exact hy
    refine gt h1 h2 fun x hx => ?_
    have hrx := hr x hx
    refine drList (xs := x.phis) (fun s : List Int × Int => s.1.length = c.regs.toNat) hs (fun i s h1 h2 hs => ?_) fun s hs => ?_
    · refine gt h1 h2 fun f hf => ?_
      refine Dr.bind (tell_ok hs (hin _ (hrx.1 f hf).1).1 (hin _ (hrx.1 f hf).1).2) fun q hq => ?_
      exact tells_ok hq (fun r h => hin r ((hrx.1 f hf).2 r h)) fun s hs => Dr.some fun t e => by cases e; exact hs
    dsimp only [Sum.elim_inl]
    refine drList (xs := x.ins) (fun s : List Int × Int => s.1.length = c.regs.toNat) hs (fun i s h1 h2 hs => ?_) fun s hs => ?_
    · refine gt h1 h2 fun y hy => ?_
      rw [makes_ok, Option.bind_some]
      refine Dr.bind (P := fun ys : List Int × Int => ys.1.length = c.regs.toNat) (Dr.ite (fun hm => ?_) fun _ => Dr.some hs) fun q hq => ?_
      · exact Dr.bind (tell_ok hs (hin _ ((hrx.2.1 y hy).1 hm)).1 (hin _ ((hrx.2.1 y hy).1 hm)).2) fun q hq => Dr.some hq
      exact tells_ok hq (fun r h => hin r ((hrx.2.1 y hy).2 r h)) fun s hs => Dr.some fun t e => by cases e; exact hs
    dsimp only [Sum.elim_inl]
    refine Dr.bind (P := fun ys : List Int × Int => ys.1.length = c.regs.toNat) (Dr.ite (fun hj => ?_) fun _ => Dr.some hs) fun q hq => Dr.some hq
    exact Dr.bind (tell_ok hs (hin _ (hrx.2.2 (of_decide_eq_true hj))).1 (hin _ (hrx.2.2 (of_decide_eq_true hj))).2) fun q hq => Dr.some hq
  dsimp only [Sum.elim_inl]
  exact Dr.bind (each_ok hl hg hr (by omega)) fun r hr => Dr.some hr

theorem tightU_ok {u : Unit_} (hu : UG 3 u) : Dr (spec_TightUnit u) (fun r => Small r.1 ∧ r.1.codes.length ≤ 3) := by
  unfold spec_TightUnit
  have hs : Small u := (W.of hu).small
  rw [specValid_ok u hs, Option.bind_some]
  refine Dr.ite (fun _ => Dr.some ⟨fun c hc => by simp at hc, by simp⟩) fun hv => ?_
  have hok : Ok u := ⟨by simpa using hv, hs⟩
  refine Dr.forN (fun i (s : List Code_) => (s.length : Int) = i ∧ ∀ c ∈ s, ∀ x ∈ c.blocks, SB x) ⟨rfl, fun c hc => by simp at hc⟩ (fun i s h1 h2 hs => ?_) fun s hs => ?_
  · have h2' : i < (u.codes.length : Int) := by omega
    obtain ⟨c, hc, _, hm⟩ := getI_in h1 h2'
    rw [hc, Option.bind_some]
    have hg := hu.2 c hm
    refine Dr.bind (tight_ok (by have := hg.1; omega) (by have := hg.2.2.1; omega) (fun x hx => ?_) (rb_of hok hc)) fun r hr => ?_
    · have h := hg.2.2.2 x hx
      exact ⟨by omega, by omega, by omega, fun y hy => by have := h.2.2.2.1 y hy; omega, fun y hy => by have := h.2.2.2.2 y hy; omega⟩
    have h3 := hu.1.2
    refine ap (by simp; omega) (Dr.some fun t e => ?_)
    cases e
    refine ⟨by simp; omega, fun d hd => ?_⟩
    rcases List.mem_append.1 hd with h | h
    · exact hs.2 d h
    · rw [List.mem_singleton.1 h]; exact hr
  · refine Dr.some ⟨fun c hc x hx => ?_, by have := hu.1.2; have := hs.1; dsimp only; omega⟩
    have := hs.2 c hc x hx
    exact ⟨by have := this.1; omega, by have := this.2.1; omega, by have := this.2.2; omega⟩

theorem draw_ok (code : List UInt8) : Dr (spec_DrawSameRuns code) (fun r => Small r.1 ∧ Small r.2.1 ∧ r.2.2.2 ≤ 60000) := by
  unfold spec_DrawSameRuns
  obtain ⟨b, e, hb⟩ := open_ok code
  rw [e, Option.bind_some]
  refine DrA.bind (unit_dr hb (by decide) (by decide)) fun u q e1 e2 hu => ?_
  dsimp only
  refine Dr.bind (tightU_ok hu) fun t ht => ?_
  refine Dr.bind (P := fun s : Int × Bool => q ≤ s.1 ∧ s.1 ≤ q + 1) (Dr.ite (fun _ => Dr.some ⟨Int.le_refl _, by dsimp only; omega⟩) fun _ => pk hb (by omega) (by omega) fun v _ _ => Dr.some ⟨by dsimp only; omega, by dsimp only; omega⟩) ?_
  rintro ⟨q1, f⟩ ⟨e3, e4⟩
  dsimp only at e3 e4 ⊢
  refine Dr.bind (P := fun s : Int × List Code_ => (q1 ≤ s.1 ∧ s.1 ≤ q1 + 2010) ∧ Small ⟨s.2⟩) (Dr.ite (fun _ => DrA.bind (bent_dr hb (by omega) (by omega)) fun x q2 e5 e6 hx => Dr.some ⟨⟨e5, e6⟩, hx.small⟩) fun _ => Dr.some ⟨⟨Int.le_refl _, by dsimp only; omega⟩, ht.1⟩) ?_
  rintro ⟨q2, cs⟩ ⟨e5, e6⟩
  dsimp only at e5 e6 ⊢
  refine Dr.bind (P := fun s : List Int × Int => s.2 ≤ 60000) (DrA.bind (in_dr hb (by omega) (by omega) (W.of hu)) fun l q3 e7 e8 _ => nm hb (by decide) (by dsimp only; omega) (by dsimp only; omega) fun w hw => Dr.some ?_) fun s hs => Dr.some ⟨(W.of hu).small, e6, hs⟩
  simp at hw
  dsimp only
  omega

/-! ### the law -/
theorem mid2 {α : Type} {xs ys : List α} {x y : α} {l r l' r' : List α} (h1 : xs = l ++ x :: r) (h2 : ys = l' ++ y :: r') (h3 : l.length = l'.length) : getI xs (l.length : Int) = some x ∧ getI ys (l.length : Int) = some y := by
  rw [h1, getI_mid, h3, h2, getI_mid]; exact ⟨rfl, rfl⟩
theorem l5Ints_ok (a b : List Int) : spec_l5Ints a b = some (decide (a = b)) :=
  eqList (fun x y => some (decide (x = y))) (fun _ _ _ _ => rfl) (fun l x r l' y r' s h1 h2 h3 => by
    rw [(mid2 h1 h2 h3).1, (mid2 h1 h2 h3).2]
    by_cases e : x = y <;> simp [e])
theorem equal_ok (a b : List Int) : slices_Equal_S_int_int a b = some (decide (a = b)) :=
  eqList (fun x y => some (decide (x = y))) (fun _ _ _ _ => rfl) (fun l x r l' y r' s h1 h2 h3 => by
    rw [(mid2 h1 h2 h3).1, (mid2 h1 h2 h3).2]
    by_cases e : x = y <;> simp [e])
theorem sameOutS_ok (a b : Outcome_) : spec_SameOutcome a b = some (decide (a = b)) := by
  unfold spec_SameOutcome
  rw [l5Ints_ok, l5Ints_ok]
  cases a; cases b
  simp only [Outcome_.mk.injEq]
  rename_i a1 a2 a3 a4 b1 b2 b3 b4
  by_cases h1 : a1 = b1 <;> by_cases h2 : a2 = b2 <;> by_cases h3 : a3 = b3 <;> by_cases h4 : a4 = b4 <;> simp [h1, h2, h3, h4]
theorem sameOut_ok (a b : Outcome_) : impl_SameOutcome a b = some (decide (a = b)) := by
  unfold impl_SameOutcome
  rw [equal_ok, equal_ok]
  cases a; cases b
  simp only [Outcome_.mk.injEq]
  rename_i a1 a2 a3 a4 b1 b2 b3 b4
  by_cases h1 : a1 = b1 <;> by_cases h2 : a2 = b2 <;> by_cases h3 : a3 = b3 <;> by_cases h4 : a4 = b4 <;> simp [h1, h2, h3, h4]

def sameR (a b : Unit_) (inn : List Int) (steps : Int) : Bool := (runR a inn steps).2 && ((runR b inn 60000).2 && (decide ((runR a inn steps).1.end_ = 3) || decide ((runR a inn steps).1 = (runR b inn 60000).1)))
theorem implSame_ok (a b : Unit_) (ha : Small a) (hb : Small b) (inn : List Int) (steps : Int) : impl_SameRuns a b inn steps = some (sameR a b inn steps) := by
  unfold impl_SameRuns sameR
  rw [implRunUnit_ok a ha, implRunUnit_ok b hb]
  simp only [Option.bind_some, sameOut_ok]
  cases (runR a inn steps).2 <;> cases (runR b inn 60000).2 <;> by_cases h : (runR a inn steps).1.end_ = 3 <;> simp [h]
theorem specSame_ok (a b : Unit_) (ha : Small a) (hb : Small b) (inn : List Int) (steps : Int) : spec_SameRuns a b inn steps = some (sameR a b inn steps) := by
  unfold spec_SameRuns sameR
  rw [specRunUnit_ok a ha, specRunUnit_ok b hb]
  simp only [Option.bind_some, sameOutS_ok]
  cases (runR a inn steps).2 <;> cases (runR b inn 60000).2 <;> by_cases h : (runR a inn steps).1.end_ = 3 <;> simp [h]
theorem same_self (u : Unit_) (hu : Small u) (inn : List Int) (steps : Int) (hv : (runR u inn steps).2 = true) (hn : steps ≤ 60000) : sameR u u inn steps = true := by
  unfold sameR
  unfold runR at hv ⊢
  by_cases hf : (fitsB u inn && inB steps 0 60000) = true
  rotate_left
  · rw [if_neg hf] at hv; simp at hv
  have hf1 : fitsB u inn = true := by simp only [Bool.and_eq_true] at hf; exact hf.1
  have hf2 : 0 ≤ steps ∧ steps ≤ 60000 := by simp only [Bool.and_eq_true, inB_iff] at hf; exact hf.2
  have h6 : inB 60000 0 60000 = true := by decide
  rw [if_pos hf, hf1, h6]
  simp only [Bool.and_self, if_true, Bool.true_and, Bool.or_eq_true, decide_eq_true_eq]
  have := runU_mo u inn steps.toNat (60000 - steps.toNat)
  rw [show steps.toNat + (60000 - steps.toNat) = 60000 by omega] at this
  rw [show (60000 : Int).toNat = 60000 from rfl]
  cases hq : runU u inn steps.toNat with
  | done v m s =>
    rw [hq] at this
    have h : runU u inn 60000 = .done v (m + (60000 - steps.toNat)) s := this
    rw [h]; exact .inr rfl
  | stop e m s =>
    rw [hq] at this
    rcases this with ⟨_, h⟩ | ⟨h, _⟩
    · rw [h]; exact .inr rfl
    · exact .inl (by rw [h]; rfl)

theorem lawSameD (code : List UInt8) : laws_FnSameRuns code = some true := by
  unfold laws_FnSameRuns
  by_cases h0 : (1048576 : Int) < code.length
  · simp [h0]
  rw [if_neg (by simpa using h0)]
  obtain ⟨⟨a, b, inn, steps⟩, e, ha, hb, hn⟩ := draw_ok code
  dsimp only at ha hb hn
  rw [e]
  simp only [Option.bind_some, implSame_ok a b ha hb, specSame_ok a b ha hb, implSame_ok a a ha ha, implRunUnit_ok a ha, implRunUnit_ok b hb, sameOut_ok, ne_eq, not_true_eq_false, decide_false, Bool.false_eq_true, if_false]
  have hss := same_self a ha inn steps
  cases h1 : (runR a inn steps).2
  · simp [sameR, h1]
  cases h2 : (runR b inn 60000).2
  · simp [sameR, h1, h2]
  have hself := hss h1 hn
  by_cases h3 : (runR a inn steps).1.end_ = 3
  · simp [sameR, h1, h2, h3] at hself ⊢
    try exact hself
  · by_cases h4 : (runR a inn steps).1 = (runR b inn 60000).1
    · rw [hself]; simp [sameR, h1, h2, h3, h4]
    · rw [hself]; simp [sameR, h1, h2, h3, h4]
end Unt
end Go.Wk
