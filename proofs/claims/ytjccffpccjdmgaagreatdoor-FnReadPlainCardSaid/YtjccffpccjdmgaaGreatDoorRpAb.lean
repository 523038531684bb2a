/- A part of the proof of FnReadPlainCardSaid. -/
import Derived.Test.YtjccffpccjdmgaaGreatDoorRpA
namespace Go.Wk
open Go
namespace Prg
set_option maxRecDepth 10000
theorem many_ok {s : Str} {c : UInt8} (hs : s.b = [c]) {n : Int} (h0 : 0 ≤ n) (h1 : n ≤ 5000) : ∃ t, spec_l30Many s n = some t ∧ (t.b.length : Int) = n ∧ ∀ x ∈ t.b, x = c := by
  have h : Dr (spec_l30Many s n) (fun t => (t.b.length : Int) = n ∧ ∀ x ∈ t.b, x = c) := by
    unfold spec_l30Many
    refine Dr.bind (P := fun t : Str => (t.b.length : Int) = n ∧ ∀ x ∈ t.b, x = c) ?_ fun t ht => Dr.some ht
    refine Dr.bind (P := fun t : Str => (t.b.length : Int) = n ∧ ∀ x ∈ t.b, x = c) ?_ fun t ht => Dr.some ht
    refine Dr.loop (I := fun st : Str × Int × Str => 0 ≤ st.2.1 ∧ (st.2.2.b.length : Int) + st.2.1 * st.1.b.length = n ∧ 1 ≤ st.1.b.length ∧ st.1.b.length ≤ 10000 ∧ (0 < st.2.1 → (st.1.b.length : Int) ≤ n) ∧ (∀ x ∈ st.1.b, x = c) ∧ ∀ x ∈ st.2.2.b, x = c) (fun st => st.2.1.toNat) ⟨h0, by rw [hs]; simp [mkS], by rw [hs]; simp, by rw [hs]; simp, fun h => by have h : 0 < n := h; show ((s.b.length : Nat) : Int) ≤ n; rw [hs]; simp; omega, fun x hx => by rw [hs] at hx; simpa using hx, fun x hx => by simp [mkS] at hx⟩ ?_
    rintro ⟨x, m, r⟩ ⟨i1, i2, i3, i4, i5, i6, i7⟩
    dsimp only at i1 i2 i3 i4 i5 i6 i7 ⊢
    by_cases hm : 0 < m
    · rw [if_pos (by simpa using hm)]
      have hxn := i5 hm
      obtain ⟨k, rfl⟩ : ∃ k : Nat, m = k := ⟨m.toNat, by omega⟩
      have hrl : (r.b.length : Int) ≤ n := by
        have : (0 : Int) ≤ (k : Int) * x.b.length := Int.mul_nonneg (by omega) (by omega)
        omega
      have e1 : ((k : Int).tmod 2) = ((k % 2 : Nat) : Int) := by rw [Int.tmod_eq_emod_of_nonneg (by omega)]; omega
      have e2 : w64 ((k : Int).tdiv 2) = ((k / 2 : Nat) : Int) := by
        have : (k : Int).tdiv 2 = ((k / 2 : Nat) : Int) := by rw [Int.tdiv_eq_ediv_of_nonneg (by omega)]; omega
        have hk : (k : Int) ≤ n := by
          have h2 : (k : Int) * 1 ≤ (k : Int) * x.b.length := Int.mul_le_mul_of_nonneg_left (by omega) (by omega)
          omega
        rw [this, w64_id (by omega) (by omega)]
      have step : ∀ r' : Str, (r'.b.length : Int) = r.b.length + ((k % 2 : Nat) : Int) * x.b.length → (∀ y ∈ r'.b, y = c) → Dr (Option.bind (catS x x) fun x2_1 => (some (.inl (x2_1, w64 ((k : Int).tdiv 2), r')) : Option ((Str × Int × Str) ⊕ Str))) (fun q => (∀ t, q = .inl t → (0 ≤ t.2.1 ∧ (t.2.2.b.length : Int) + t.2.1 * t.1.b.length = n ∧ 1 ≤ t.1.b.length ∧ t.1.b.length ≤ 10000 ∧ (0 < t.2.1 → (t.1.b.length : Int) ≤ n) ∧ (∀ x ∈ t.1.b, x = c) ∧ ∀ x ∈ t.2.2.b, x = c) ∧ t.2.1.toNat < k) ∧ ∀ t, q = .inr t → ((t.b.length : Int) = n ∧ ∀ x ∈ t.b, x = c)) := by
        intro r' hr1 hr2
        obtain ⟨y, y1, y2⟩ := cat_ex (s := x) (t := x) (by omega)
        have hy := congrArg List.length y2
        rw [List.length_append] at hy
        rw [y1, Option.bind_some, e2]
        refine Dr.some (And.intro (fun t ht => ?_) fun t ht => by cases ht)
        simp only [Sum.inl.injEq] at ht
        subst ht
        have hsum : (r'.b.length : Int) + ((k / 2 : Nat) : Int) * y.b.length = n := by
          rw [hr1, hy]
          have : (k : Int) = ((k % 2 : Nat) : Int) + 2 * ((k / 2 : Nat) : Int) := by omega
          rw [this] at i2
          rw [Int.add_mul] at i2
          push_cast at i2 ⊢
          rw [Int.mul_add]
          rw [show (2 : Int) * ((k : Int) / 2) * (x.b.length : Int) = (k : Int) / 2 * (x.b.length : Int) + (k : Int) / 2 * (x.b.length : Int) by rw [Int.mul_assoc, Int.two_mul]] at i2
          omega
        refine ⟨⟨by dsimp only; omega, hsum, by dsimp only; omega, by dsimp only; omega, fun h => ?_, fun z hz => ?_, hr2⟩, by dsimp only; omega⟩
        · dsimp only at h ⊢
          have h2 : 1 * (y.b.length : Int) ≤ ((k / 2 : Nat) : Int) * y.b.length := Int.mul_le_mul_of_nonneg_right (by omega) (by omega)
          omega
        · dsimp only at hz
          rw [y2] at hz
          rcases List.mem_append.1 hz with h | h <;> exact i6 z h
      rw [e1]
      by_cases hodd : ((k % 2 : Nat) : Int) = 1
      · rw [if_pos (by simpa using hodd)]
        obtain ⟨y, y1, y2⟩ := cat_ex (s := r) (t := x) (by omega)
        rw [y1]
        simp only [Option.bind_some]
        refine step y (by rw [y2, hodd]; simp) fun z hz => ?_
        rw [y2] at hz
        rcases List.mem_append.1 hz with h | h
        · exact i7 z h
        · exact i6 z h
      · rw [if_neg (by simpa using hodd)]
        simp only [Option.bind_some]
        refine step r ?_ i7
        have : ((k % 2 : Nat) : Int) = 0 := by omega
        rw [this]; simp
    · rw [if_neg (by simpa using hm)]
      refine Dr.some (And.intro (fun t ht => by cases ht) fun t ht => ?_)
      simp only [Sum.inr.injEq] at ht
      subst ht
      have : m = 0 := by omega
      subst this
      simp at i2
      exact ⟨i2, i7⟩
  exact h
end Prg
end Go.Wk
namespace Go.Wk
open Go
namespace Prg
set_option maxRecDepth 10000
theorem mem_len {l : List Str} {n : Nat} (h : l.all (fun s => decide (s.b.length ≤ n)) = true) {s : Str} (hs : s ∈ l) : s.b.length ≤ n := by
  simpa using List.all_eq_true.1 h s hs
theorem some_dr {b : List UInt8} (hb : b.length ≤ 2000) {p : Int} (h0 : 0 ≤ p) (h1 : p ≤ 900000) : DrA (spec_l1Some ⟨b, p⟩) b p (p + 2) (fun s => s.b.length ≤ 4) := by
  unfold spec_l1Some
  refine pk hb h0 (by omega) fun v _ _ => ?_
  dsimp only
  refine Dr.ite (fun _ => ofx hb (by decide) (by omega) (by omega) fun s hs => DrF (lo := p) (hi := p + 2) (P := fun s : Str => s.b.length ≤ 4) rfl (by dsimp only; omega) (by dsimp only; omega) (mem_len (by decide) hs)) fun _ => ?_
  refine Dr.ite (fun _ => nm hb (by decide) (by omega) (by omega) fun n hn => ?_) fun _ => ?_
  · obtain ⟨k, hk, rfl⟩ : ∃ k : Nat, k ≤ 255 ∧ n = (k : Int) := by
      simp only [List.mem_cons, List.not_mem_nil, or_false] at hn
      exact ⟨n.toNat, by omega, by omega⟩
    dsimp only
    rw [l30Dec_ok (by omega), Option.bind_some]
    exact DrF (lo := p) (hi := p + 2) (P := fun s : Str => s.b.length ≤ 4) rfl (by dsimp only; omega) (by dsimp only; omega) (by dsimp only; rw [(numS_ok (by omega)).2]; have := decD_len k (by omega); omega)
  refine Dr.ite (fun _ => ?_) fun _ => ?_
  · unfold spec_KeyWords
    rw [Option.bind_some]
    exact ofx hb (by decide) (by omega) (by omega) fun s hs => DrF (lo := p) (hi := p + 2) (P := fun s : Str => s.b.length ≤ 4) rfl (by dsimp only; omega) (by dsimp only; omega) (mem_len (by decide) hs)
  · exact ofx hb (by decide) (by omega) (by omega) fun s hs => DrF (lo := p) (hi := p + 2) (P := fun s : Str => s.b.length ≤ 4) rfl (by dsimp only; omega) (by dsimp only; omega) (mem_len (by decide) hs)
theorem bad_dr {b : List UInt8} (hb : b.length ≤ 2000) {p : Int} (h0 : 0 ≤ p) (h1 : p ≤ 800000) : DrA (spec_l1Bad ⟨b, p⟩) b p (p + 3) (fun s => s.b.length ≤ 5) := by
  unfold spec_l1Bad
  refine pk hb h0 (by omega) fun v _ _ => ?_
  dsimp only
  refine Dr.ite (fun _ => ofx hb (by decide) (by omega) (by omega) fun s hs => DrF (lo := p) (hi := p + 3) (P := fun s : Str => s.b.length ≤ 5) rfl (by dsimp only; omega) (by dsimp only; omega) (mem_len (by decide) hs)) fun _ => ?_
  exact DrA.bind (some_dr hb (p := p + 1) (by omega) (by omega)) fun s q g1 g2 g3 => DrF (lo := p) (hi := p + 3) (P := fun s : Str => s.b.length ≤ 5) rfl (by dsimp only; omega) (by dsimp only; omega) (by dsimp only; omega)
def shortT (s : Str) : Prop := s.b.length ≤ 590 ∨ ∃ l, s.b = 59 :: l
theorem l1Text_dr {b : List UInt8} (hb : b.length ≤ 2000) {p : Int} (h0 : 0 ≤ p) (h1 : p ≤ 1000) : Dr (spec_l1Text ⟨b, p⟩) (fun r => shortT r.1) := by
  unfold spec_l1Text
  refine ofx hb (by decide) h0 (by omega) fun s hs => ?_
  have hs2 := mem_len (n := 2) (by decide) hs
  dsimp only
  refine pk hb (by omega) (by omega) fun v _ _ => ?_
  dsimp only
  refine nm hb (by decide) (by omega) (by omega) fun n hn => ?_
  have hn2 : 0 ≤ n ∧ n ≤ 20 := by
    simp only [List.mem_cons, List.not_mem_nil, or_false] at hn
    omega
  dsimp only
  refine Dr.bind (P := fun t : Int × Str => p ≤ t.1 ∧ t.1 ≤ p + 203 ∧ t.2.b.length ≤ 150) ?_ fun t ht => ?_
  · refine Dr.bind (P := fun t : Int × Str => p ≤ t.1 ∧ t.1 ≤ p + 203 ∧ t.2.b.length ≤ 150) ?_ fun t ht => Dr.some ht
    refine Dr.loop (I := fun st : Int × Str × Int => p ≤ st.1 ∧ st.1 + 10 * st.2.2 ≤ p + 203 ∧ 0 ≤ st.2.2 ∧ (st.2.1.b.length : Int) + 7 * st.2.2 ≤ 150) (fun st => st.2.2.toNat) ⟨by dsimp only; omega, by dsimp only; omega, hn2.1, by dsimp only; omega⟩ ?_
    rintro ⟨q, t, m⟩ ⟨i1, i2, i3, i4⟩
    dsimp only at i1 i2 i3 i4 ⊢
    by_cases hm : 0 < m
    · rw [if_pos (by simpa using hm)]
      refine Dr.bind (P := fun u : Int × Str => q ≤ u.1 ∧ u.1 ≤ q + 3 ∧ u.2.b.length ≤ t.b.length + 5) ?_ fun u hu => ?_
      · refine Dr.ite (fun _ => ?_) fun _ => ?_
        · refine DrA.bind (bad_dr hb (p := q) (by omega) (by omega)) fun x q2 k1 k2 k3 => ?_
          obtain ⟨y, y1, y2⟩ := cat_ex (s := t) (t := x) (by omega)
          dsimp only
          rw [y1]
          refine Dr.some ⟨k1, k2, ?_⟩
          dsimp only
          rw [y2, List.length_append]; omega
        · refine DrA.bind (some_dr hb (p := q) (by omega) (by omega)) fun x q2 k1 k2 k3 => ?_
          obtain ⟨y, y1, y2⟩ := cat_ex (s := t) (t := x) (by omega)
          dsimp only
          rw [y1]
          refine Dr.some ⟨k1, by dsimp only; omega, ?_⟩
          dsimp only
          rw [y2, List.length_append]; omega
      · obtain ⟨u1, u2, u3⟩ := hu
        refine ofx hb (by decide) (by omega) (by omega) fun x hx => ?_
        have hx2 := mem_len (n := 2) (by decide) hx
        obtain ⟨y, y1, y2⟩ := cat_ex (s := u.2) (t := x) (by omega)
        have hy := congrArg List.length y2
        rw [List.length_append] at hy
        have hw : w64 (m - 1) = m - 1 := w64_id (by omega) (by omega)
        dsimp only
        rw [y1, hw]
        refine Dr.some (And.intro (fun z hz => ?_) fun z hz => by cases hz)
        simp only [Sum.inl.injEq] at hz
        subst hz
        dsimp only
        exact ⟨⟨by omega, by omega, by omega, by omega⟩, by omega⟩
    · rw [if_neg (by simpa using hm)]
      refine Dr.some (And.intro (fun z hz => by cases hz) fun z hz => ?_)
      simp only [Sum.inr.injEq] at hz
      subst hz
      exact ⟨i1, by dsimp only; omega, by dsimp only; omega⟩
  obtain ⟨t1, t2, t3⟩ := ht
  refine pk hb (by omega) (by omega) fun v2 _ _ => ?_
  dsimp only
  refine Dr.ite (fun _ => ?_) fun _ => Dr.some (.inl (by dsimp only; omega))
  refine nm hb (by decide) (by omega) (by omega) fun k hk => ?_
  have hk2 : 600 ≤ k ∧ k ≤ 601 := by
    simp only [List.mem_cons, List.not_mem_nil, or_false] at hk
    omega
  obtain ⟨x, x1, x2, x3⟩ := many_ok (s := mkS [59]) (c := 59) rfl (n := k) (by omega) (by omega)
  dsimp only
  rw [x1, Option.bind_some]
  refine nm hb (by decide) (by omega) (by omega) fun j hj => ?_
  have hj2 : 0 ≤ j ∧ j ≤ 2401 := by
    simp only [List.mem_cons, List.not_mem_nil, or_false] at hj
    omega
  obtain ⟨y, y1, y2, y3⟩ := many_ok (s := mkS [32]) (c := 32) rfl (n := j) (by omega) (by omega)
  obtain ⟨z, z1, z2⟩ := cat_ex (s := x) (t := y) (by omega)
  dsimp only
  rw [y1, Option.bind_some, z1, Option.bind_some]
  refine Dr.some (.inr ?_)
  dsimp only
  rw [z2]
  match hx : x.b, x2, x3 with
  | [], h, _ => simp at h; omega
  | a :: l, _, h =>
    have : a = 59 := h a (by simp)
    subst this
    exact ⟨_, rfl⟩
end Prg
end Go.Wk
namespace Go.Wk
open Go
namespace Prg
set_option maxRecDepth 10000
theorem aT : ∀ (r : List (List Word_)) (x : List Word_), x ≠ [] → (∀ y ∈ r, y ≠ []) → (txt (x ++ (r.map (cM :: ·)).flatten)).length = (txt x).length + (r.map (fun y => (txt y).length + 3)).sum
  | [], x, _, _ => by simp
  | y :: r, x, hx, h => by
    have hy := h y (by simp)
    have ih := aT r (x ++ cM :: y) (by simp) fun z hz => h z (by simp [hz])
    have e1 : x ++ ((y :: r).map (cM :: ·)).flatten = (x ++ cM :: y) ++ (r.map (cM :: ·)).flatten := by simp
    rw [e1, ih, txt_app hx (by simp), txt_cons hy]
    simp [cM, mkS]
    omega
theorem name_len {s : Str} (h : nameB s = true) : s.b.length ≤ 4 := by
  unfold nameB at h
  simp only [Bool.and_eq_true, decide_eq_true_iff] at h
  exact h.1.2
theorem txtE_len : ∀ {d : Nat} {e : Expr_}, formE d e = true → (txt (wE d e)).length + 7 ≤ 15 * partsE e
  | 0, e, h => by rw [formE] at h; cases h
  | d + 1, e, h => by
    obtain ⟨h1, h2⟩ := form_kids h
    obtain ⟨i1, i2, i3, i4, i5, i6, i7, i8, i9⟩ := head_iff h1
    rw [partsE_eq, wE]
    by_cases c1 : e.op = 1
    · rw [if_pos c1, txt_one]
      obtain ⟨n, hn⟩ : ∃ n : Nat, e.n_ = n := ⟨e.n_.toNat, by have := i2 c1; omega⟩
      have hn2 := i2 c1
      rw [hn]
      dsimp only
      rw [(numS_ok (by omega)).2]
      have := decD_len n (by omega)
      omega
    rw [if_neg c1]
    by_cases c2 : e.op = 2
    · rw [if_pos c2, txt_one]
      have := name_len (i4 (.inl c2))
      dsimp only
      omega
    rw [if_neg c2]
    by_cases c3 : e.op = 13
    · rw [if_pos c3]
      have hn := name_len (i4 (.inr c3))
      generalize e.kids = ks at h2
      cases ks with
      | nil =>
        show (txt [⟨1, e.name⟩, pL, pR]).length + 7 ≤ _
        rw [txt_cons (by simp), txt_cons (by simp), txt_one]
        simp [pL, pR, mkS]
        omega
      | cons k ks =>
        have hk := txtE_len (h2 k (by simp))
        have hne := wE_ne (h2 k (by simp))
        have e1 := aT (ks.map (wE d)) (wE d k) hne (fun y hy => by
          obtain ⟨z, hz, rfl⟩ := List.mem_map.1 hy
          exact wE_ne (h2 z (by simp [hz])))
        have hs : ∀ l : List Expr_, (∀ z ∈ l, formE d z = true) → ((l.map (wE d)).map (fun y => (txt y).length + 3)).sum ≤ 15 * partsL l := by
          intro l
          induction l with
          | nil => intro _; simp
          | cons z l ih =>
            intro hl
            have g1 := txtE_len (hl z (by simp))
            have g2 := ih fun y hy => hl y (by simp [hy])
            rw [partsL_cons]
            simp at g2 ⊢
            omega
        have hs2 := hs ks fun z hz => h2 z (by simp [hz])
        have hax : aW ((k :: ks).map (wE d)) ≠ [] := by simp [aW, hne]
        rw [txt_cons (by simp), txt_cons (by simp), txt_app hax (by simp), txt_one]
        have e2 : txt (aW ((k :: ks).map (wE d))) = txt (wE d k ++ ((ks.map (wE d)).map (cM :: ·)).flatten) := rfl
        rw [e2]
        simp only [List.length_append, List.length_cons, e1, partsL_cons]
        have hp : pL.text.b.length = 1 := rfl
        have hp2 : pR.text.b.length = 1 := rfl
        rw [hp, hp2]
        omega
    rw [if_neg c3]
    by_cases c4 : e.op = 11 ∨ e.op = 12
    · rw [if_pos c4]
      obtain ⟨a, ha⟩ := i7 c4
      have hk : kid e 0 = a := by unfold kid; rw [ha]; rfl
      have hf := h2 a (by rw [ha]; simp)
      have g1 := txtE_len hf
      have g2 := br_txt_len (decide (lvI a.op < 5)) (wE_ne hf)
      have hsg : (sgW e.op).text.b.length = 1 := sg_len e.op
      rw [hk, ha, partsL_cons, partsL_nil, txt_cons (brW_ne (wE_ne hf))]
      simp only [List.length_append, List.length_cons, hsg]
      omega
    · rw [if_neg c4]
      rw [inB_iff] at i1
      obtain ⟨a, b, ha⟩ := i8 (by omega)
      have hk : kid e 0 = a := by unfold kid; rw [ha]; rfl
      have hk1 : kid e 1 = b := by unfold kid; rw [ha]; rfl
      have hf := h2 a (by rw [ha]; simp)
      have hf2 := h2 b (by rw [ha]; simp)
      have g1 := txtE_len hf
      have g2 := br_txt_len (decide (lvI a.op < lvI e.op)) (wE_ne hf)
      have g3 := txtE_len hf2
      have g4 := br_txt_len (decide (lvI b.op ≤ lvI e.op)) (wE_ne hf2)
      have hsg : (sgW e.op).text.b.length = 1 := sg_len e.op
      rw [hk, hk1, ha, partsL_cons, partsL_cons, partsL_nil, txt_app (brW_ne (wE_ne hf)) (by simp), txt_cons (brW_ne (wE_ne hf2))]
      simp only [List.length_append, List.length_cons, hsg]
      omega
theorem drawRead_ok (code : List UInt8) : ∃ s, spec_DrawReadExpr code = some s ∧ shortT s := by
  obtain ⟨b, h1, hb⟩ := open_ok code
  have h : Dr (spec_DrawReadExpr code) shortT := by
    unfold spec_DrawReadExpr
    rw [h1, Option.bind_some]
    refine pk hb (by omega) (by omega) fun v _ _ => ?_
    dsimp only
    refine Dr.ite (fun _ => Dr.bind (l1Text_dr hb (by omega) (by omega)) fun r hr => Dr.some hr) fun _ => ?_
    refine DrA.bind (any_dr hb (p := 0 + 1) (by omega) (by omega) (d := 3) (by omega) (by omega)) fun e q g1 g2 g3 => ?_
    dsimp only
    have hf : formE 6 e = true := form_mono g3.1
    have hp : partsE e ≤ 26 := g3.2.1
    refine nm hb (by decide) (by omega) (by omega) fun need _ => ?_
    dsimp only
    obtain ⟨T, t1, t2⟩ := text_ok 6 e need hf (by omega)
    have hl := txtE_len hf
    have hl2 := br_txt_len (decide (lvI e.op < need)) (wE_ne hf)
    have hT : T.b.length ≤ 387 := by rw [t2]; omega
    rw [t1, Option.bind_some]
    refine pk hb (by omega) (by omega) fun v2 _ _ => ?_
    dsimp only
    refine Dr.ite (fun _ => ?_) fun _ => ?_
    · refine ofx hb (by decide) (by omega) (by omega) fun s hs => ?_
      have hs2 := mem_len (n := 7) (by decide) hs
      obtain ⟨x, x1, x2⟩ := cat_ex (s := T) (t := s) (by omega)
      dsimp only
      rw [x1]
      exact Dr.some (.inl (by rw [x2, List.length_append]; omega))
    refine Dr.ite (fun _ => ?_) fun _ => ?_
    · refine ofx hb (by decide) (by omega) (by omega) fun s hs => ?_
      have hs2 := mem_len (n := 7) (by decide) hs
      obtain ⟨x, x1, x2⟩ := cat_ex (s := s) (t := T) (by omega)
      have hx := congrArg List.length x2
      rw [List.length_append] at hx
      dsimp only
      rw [x1, Option.bind_some]
      refine ofx hb (by decide) (by omega) (by omega) fun s2 hs2' => ?_
      have hs3 := mem_len (n := 7) (by decide) hs2'
      obtain ⟨y, y1, y2⟩ := cat_ex (s := x) (t := s2) (by omega)
      dsimp only
      rw [y1]
      exact Dr.some (.inl (by rw [y2, List.length_append]; omega))
    refine Dr.ite (fun _ => ?_) fun _ => Dr.some (.inl (by omega))
    refine nm hb (by decide) (by omega) (by omega) fun n hn => ?_
    have hn2 : 0 ≤ n ∧ n ≤ 100 := by
      simp only [List.mem_cons, List.not_mem_nil, or_false] at hn
      omega
    obtain ⟨x, x1, x2, _⟩ := many_ok (s := mkS [40]) (c := 40) rfl (n := n) (by omega) (by omega)
    obtain ⟨y, y1, y2⟩ := cat_ex (s := x) (t := T) (by omega)
    have hy := congrArg List.length y2
    rw [List.length_append] at hy
    dsimp only
    rw [x1, Option.bind_some, y1, Option.bind_some]
    refine nm hb (by decide) (by omega) (by omega) fun m hm => ?_
    have hm2 : 0 ≤ m ∧ m ≤ 100 := by
      simp only [List.mem_cons, List.not_mem_nil, or_false] at hm
      omega
    obtain ⟨z, z1, z2, _⟩ := many_ok (s := mkS [41]) (c := 41) rfl (n := m) (by omega) (by omega)
    obtain ⟨u, u1, u2⟩ := cat_ex (s := y) (t := z) (by omega)
    dsimp only
    rw [z1, Option.bind_some, u1]
    exact Dr.some (.inl (by rw [u2, List.length_append]; omega))
  exact h
end Prg
end Go.Wk
namespace Go.Wk
open Go
namespace Prg
set_option maxRecDepth 10000
theorem law_readPlain (code : List UInt8) : laws_FnReadPlain code = some true := by
  unfold laws_FnReadPlain
  by_cases h0 : decide (1048576 < (code.length : Int)) = true
  · rw [if_pos h0]
  rw [if_neg h0]
  obtain ⟨s, hs, _⟩ := drawRead_ok code
  obtain ⟨e, ok, h1, h2, h3⟩ := readExpr_ok s
  rw [hs, Option.bind_some, h2, h1, Option.bind_some, Option.bind_some]
  rcases h3 with ⟨rfl, hb, ws, hc, hr⟩ | ⟨rfl, rfl⟩
  · obtain ⟨f1, f2⟩ := valid_form hb
    have ht : textV e = (toS (txt (wE 6 e)), true) := by unfold textV; rw [if_pos hb]
    obtain ⟨r1, r2⟩ := read_own hb
    have hcost := rd_cost hr 6 f1
    have hown := nW_own (d := 6) (e := e)
    have hle : decide (((wE 6 e).length : Int) ≤ (ws.length : Int)) = true := by
      simp at hcost ⊢; omega
    simp only [ne_eq, not_true_eq_false, decide_false, Bool.false_eq_true, if_false, if_true, Bool.not_true, Option.bind_some, sameSE, textI_ok, ht, r1, cutWords_ok, cutV_some hc, cutV_some r2, sameE, valid_E, hb, hle]
  · simp only [ne_eq, not_true_eq_false, decide_false, Bool.false_eq_true, if_false, if_true, Bool.not_true, Bool.not_false, Option.bind_some, sameSE, decide_true]
end Prg
end Go.Wk
