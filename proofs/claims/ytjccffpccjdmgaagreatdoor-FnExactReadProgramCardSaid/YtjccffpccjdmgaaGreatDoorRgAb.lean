/- A part of the proof of FnExactReadProgramCardSaid. -/
import Derived.Test.YtjccffpccjdmgaaGreatDoorRgA
namespace Go.Wk
open Go
namespace Prg
set_option maxRecDepth 10000
theorem simP : ∀ (k : Nat) (acc : List Str) (ws : List Word_), ws.length + 1 ≤ k → vW ws → acc.length + ws.length ≤ 1000 →
      (∀ (r0 : l3Reader) (n : Nat), r0.list.length ≤ 1000 → vW r0.list → AtW r0.list n ws → match pP k acc ws with
        | some p => ∃ (m : Nat) (w : Word_), AtW r0.list m (w :: p.2) ∧ w.text = mkS [41] ∧ loopM (fun (xs2_1 : Int × (List Str)) => (Option.bind (if decide (0 ≤ xs2_1.1) then Option.bind (pspec_l3Reader__is (⟨r0.list, xs2_1.1⟩ : l3Reader) (mkS [41])) fun r3_1 => some (!(r3_1)) else some false : Option (Bool)) fun s2_1 => if s2_1 then Option.bind (if decide (0 < ((xs2_1.2.length : Int))) then Option.bind (pspec_l3Reader__want (⟨r0.list, xs2_1.1⟩ : l3Reader) (mkS [44])) fun r3_2 => some r3_2.at_ else some xs2_1.1 : Option (Int)) fun s2_2 => Option.bind (pspec_l3Reader__name (⟨r0.list, s2_2⟩ : l3Reader)) fun r2_1 => Option.bind (appM xs2_1.2 ([r2_1.1] : List Str)) fun ys2_1 => some (.inl (r2_1.2.at_, ys2_1)) else some (.inr (xs2_1.1, xs2_1.2)) : Option ((Int × (List Str)) ⊕ (Int × (List Str))))) ((n : Int), acc) = some ((m : Int), p.1)
        | none => ∃ acc', loopM (fun (xs2_1 : Int × (List Str)) => (Option.bind (if decide (0 ≤ xs2_1.1) then Option.bind (pspec_l3Reader__is (⟨r0.list, xs2_1.1⟩ : l3Reader) (mkS [41])) fun r3_1 => some (!(r3_1)) else some false : Option (Bool)) fun s2_1 => if s2_1 then Option.bind (if decide (0 < ((xs2_1.2.length : Int))) then Option.bind (pspec_l3Reader__want (⟨r0.list, xs2_1.1⟩ : l3Reader) (mkS [44])) fun r3_2 => some r3_2.at_ else some xs2_1.1 : Option (Int)) fun s2_2 => Option.bind (pspec_l3Reader__name (⟨r0.list, s2_2⟩ : l3Reader)) fun r2_1 => Option.bind (appM xs2_1.2 ([r2_1.1] : List Str)) fun ys2_1 => some (.inl (r2_1.2.at_, ys2_1)) else some (.inr (xs2_1.1, xs2_1.2)) : Option ((Int × (List Str)) ⊕ (Int × (List Str))))) ((n : Int), acc) = some (-1, acc')) ∧
      (match pP k acc ws with
        | some p => loopM (fun (xs2_1 : (List Word_) × Bool × (List Str)) => (Option.bind (if !(xs2_1.2.1) then Option.bind (pimpl_wordReader__take (⟨xs2_1.1, xs2_1.2.1⟩ : wordReader) 3 (mkS [41])) fun r3_1 => some (r3_1.2.list, r3_1.2.bad, !(r3_1.1)) else some (xs2_1.1, xs2_1.2.1, false) : Option ((List Word_) × Bool × Bool)) fun s2_1 => if s2_1.2.2 then Option.bind (if decide (0 < ((xs2_1.2.2.length : Int))) then Option.bind (pimpl_wordReader__want (⟨s2_1.1, s2_1.2.1⟩ : wordReader) 3 (mkS [44])) fun r3_2 => some (r3_2.list, r3_2.bad) else some (s2_1.1, s2_1.2.1) : Option ((List Word_) × Bool)) fun s2_2 => Option.bind (pimpl_wordReader__name (⟨s2_2.1, s2_2.2⟩ : wordReader)) fun r2_1 => Option.bind (appM xs2_1.2.2 ([r2_1.1] : List Str)) fun ys2_1 => some (.inl (r2_1.2.list, r2_1.2.bad, ys2_1)) else some (.inr (s2_1.1, s2_1.2.1, xs2_1.2.2)) : Option (((List Word_) × Bool × (List Str)) ⊕ ((List Word_) × Bool × (List Str))))) (ws, false, acc) = some (p.2, false, p.1)
        | none => ∃ acc' ws', loopM (fun (xs2_1 : (List Word_) × Bool × (List Str)) => (Option.bind (if !(xs2_1.2.1) then Option.bind (pimpl_wordReader__take (⟨xs2_1.1, xs2_1.2.1⟩ : wordReader) 3 (mkS [41])) fun r3_1 => some (r3_1.2.list, r3_1.2.bad, !(r3_1.1)) else some (xs2_1.1, xs2_1.2.1, false) : Option ((List Word_) × Bool × Bool)) fun s2_1 => if s2_1.2.2 then Option.bind (if decide (0 < ((xs2_1.2.2.length : Int))) then Option.bind (pimpl_wordReader__want (⟨s2_1.1, s2_1.2.1⟩ : wordReader) 3 (mkS [44])) fun r3_2 => some (r3_2.list, r3_2.bad) else some (s2_1.1, s2_1.2.1) : Option ((List Word_) × Bool)) fun s2_2 => Option.bind (pimpl_wordReader__name (⟨s2_2.1, s2_2.2⟩ : wordReader)) fun r2_1 => Option.bind (appM xs2_1.2.2 ([r2_1.1] : List Str)) fun ys2_1 => some (.inl (r2_1.2.list, r2_1.2.bad, ys2_1)) else some (.inr (s2_1.1, s2_1.2.1, xs2_1.2.2)) : Option (((List Word_) × Bool × (List Str)) ⊕ ((List Word_) × Bool × (List Str))))) (ws, false, acc) = some (ws', true, acc')) := by
  intro k
  induction k with
  | zero => intro acc ws h; omega
  | succ k ih =>
    intro acc ws hk hv hl
    have hlt : ∀ x : Str, acc.length + [x].length ≤ 2147483648 := fun x => by simp; omega
    have e2 : decide (0 < (acc.length : Int)) = !decide (acc = []) := by cases acc <;> simp
    have htk := tk_is hv (t := mkS [41]) rfl (by decide)
    rw [pP]
    refine ⟨fun r0 n hll hvl ha => ?_, ?_⟩
    · have e0 : decide (0 ≤ (n : Int)) = true := by simp
      by_cases ht : isT ws (mkS [41]) = true
      · rw [if_pos ht]
        cases ws with
        | nil => cases ht
        | cons w r =>
          refine ⟨n, w, ha, by simpa [isT] using ht, loopM_inr ?_⟩
          dsimp only
          rw [if_pos e0, sIs ha, ht]; rfl
      · have ht : isT ws (mkS [41]) = false := by simpa using ht
        rw [if_neg (by simp [ht])]
        have hw : SpW r0.list (if acc = [] then some ws else wT (mkS [44]) ws) (Option.bind (if decide (0 < (acc.length : Int)) then Option.bind (pspec_l3Reader__want ⟨r0.list, (n : Int)⟩ (mkS [44])) fun r => some r.at_ else some (n : Int)) fun a => some ⟨r0.list, a⟩) := by
          rw [e2]
          by_cases h0 : acc = []
          · rw [if_pos h0, decide_eq_true h0]
            exact ⟨n, ha, rfl⟩
          · rw [if_neg h0, decide_eq_false h0]
            have h1 := sWant hll ha (mkS [44])
            cases hq : wT (mkS [44]) ws with
            | none =>
              rw [hq] at h1
              show _ = _
              simp only [Bool.not_false, if_true]
              rw [show pspec_l3Reader__want ⟨r0.list, (n : Int)⟩ (mkS [44]) = some ⟨r0.list, -1⟩ from h1]; rfl
            | some q =>
              rw [hq] at h1
              obtain ⟨m, a1, h1⟩ := h1
              refine ⟨m, a1, ?_⟩
              simp only [Bool.not_false, if_true]
              rw [h1]; rfl
        obtain ⟨z, hz⟩ : ∃ z : Int, (if decide (0 < (acc.length : Int)) = true then Option.bind (pspec_l3Reader__want ⟨r0.list, (n : Int)⟩ (mkS [44])) fun r => some r.at_ else some (n : Int)) = some z := by
          cases hx : (if decide (0 < (acc.length : Int)) = true then Option.bind (pspec_l3Reader__want ⟨r0.list, (n : Int)⟩ (mkS [44])) fun r => some r.at_ else some (n : Int)) with
          | some z => exact ⟨z, rfl⟩
          | none =>
            rw [hx] at hw
            cases hy : (if acc = [] then some ws else wT (mkS [44]) ws) with
            | none => rw [hy] at hw; cases hw
            | some q => rw [hy] at hw; obtain ⟨m, _, h⟩ := hw; cases h
        rw [hz, Option.bind_some] at hw
        have step : ∀ (x : Str) (y : Int), pspec_l3Reader__name ⟨r0.list, z⟩ = some (x, ⟨r0.list, y⟩) → loopM (fun (xs2_1 : Int × (List Str)) => (Option.bind (if decide (0 ≤ xs2_1.1) then Option.bind (pspec_l3Reader__is (⟨r0.list, xs2_1.1⟩ : l3Reader) (mkS [41])) fun r3_1 => some (!(r3_1)) else some false : Option (Bool)) fun s2_1 => if s2_1 then Option.bind (if decide (0 < ((xs2_1.2.length : Int))) then Option.bind (pspec_l3Reader__want (⟨r0.list, xs2_1.1⟩ : l3Reader) (mkS [44])) fun r3_2 => some r3_2.at_ else some xs2_1.1 : Option (Int)) fun s2_2 => Option.bind (pspec_l3Reader__name (⟨r0.list, s2_2⟩ : l3Reader)) fun r2_1 => Option.bind (appM xs2_1.2 ([r2_1.1] : List Str)) fun ys2_1 => some (.inl (r2_1.2.at_, ys2_1)) else some (.inr (xs2_1.1, xs2_1.2)) : Option ((Int × (List Str)) ⊕ (Int × (List Str))))) ((n : Int), acc) = loopM (fun (xs2_1 : Int × (List Str)) => (Option.bind (if decide (0 ≤ xs2_1.1) then Option.bind (pspec_l3Reader__is (⟨r0.list, xs2_1.1⟩ : l3Reader) (mkS [41])) fun r3_1 => some (!(r3_1)) else some false : Option (Bool)) fun s2_1 => if s2_1 then Option.bind (if decide (0 < ((xs2_1.2.length : Int))) then Option.bind (pspec_l3Reader__want (⟨r0.list, xs2_1.1⟩ : l3Reader) (mkS [44])) fun r3_2 => some r3_2.at_ else some xs2_1.1 : Option (Int)) fun s2_2 => Option.bind (pspec_l3Reader__name (⟨r0.list, s2_2⟩ : l3Reader)) fun r2_1 => Option.bind (appM xs2_1.2 ([r2_1.1] : List Str)) fun ys2_1 => some (.inl (r2_1.2.at_, ys2_1)) else some (.inr (xs2_1.1, xs2_1.2)) : Option ((Int × (List Str)) ⊕ (Int × (List Str))))) (y, acc ++ [x]) := by
          intro x y hn
          refine loopM_inl ?_
          dsimp only
          rw [if_pos e0, sIs ha, ht]
          simp only [Option.bind_some, Bool.not_false, if_true]
          rw [hz, Option.bind_some, hn, Option.bind_some, appM_ok (hlt x)]; rfl
        cases hy : (if acc = [] then some ws else wT (mkS [44]) ws) with
        | none =>
          rw [hy] at hw
          have hz1 : z = -1 := by
            have := Option.some.inj hw
            exact congrArg l3Reader.at_ this
          rw [Option.bind_none]
          refine ⟨acc ++ [mkS []], ?_⟩
          rw [step (mkS []) (-1) (by rw [hz1]; exact sNameB _)]
          exact loopM_inr rfl
        | some q =>
          rw [hy] at hw
          obtain ⟨m, a1, hw⟩ := hw
          have hz1 : z = (m : Int) := congrArg l3Reader.at_ (Option.some.inj hw)
          have h2 := sName hll a1
          rw [Option.bind_some]
          cases hn : nT q with
          | none =>
            rw [hn] at h2
            obtain ⟨x, h2⟩ := h2
            refine ⟨acc ++ [x], ?_⟩
            rw [step x (-1) (by rw [hz1]; exact h2)]
            exact loopM_inr rfl
          | some p =>
            obtain ⟨x, q2⟩ := p
            rw [hn] at h2
            obtain ⟨m2, a2, h2⟩ := h2
            have su : SufS q2 ws := by
              have s1 := nT_suf hn
              split at hy
              · cases hy; exact s1
              · exact SufS.trans s1.le (wT_suf hy)
            have h3 := (ih (acc ++ [x]) q2 (by have := su.1; omega) (su.le.vW hv) (by have := su.1; simp; omega)).1 r0 m2 hll hvl a2
            rw [step x (m2 : Int) (by rw [hz1]; exact h2)]
            exact h3
    · by_cases ht : isT ws (mkS [41]) = true
      · rw [if_pos ht]
        refine loopM_inr ?_
        dsimp only
        rw [if_pos (show (!false) = true from rfl), take_ok, htk, ht]; rfl
      · have ht : isT ws (mkS [41]) = false := by simpa using ht
        rw [if_neg (by simp [ht])]
        have hw : ImW (if acc = [] then some ws else wT (mkS [44]) ws) (Option.bind (if decide (0 < (acc.length : Int)) then Option.bind (pimpl_wordReader__want ⟨ws, false⟩ 3 (mkS [44])) fun r => some (r.list, r.bad) else some (ws, false)) fun a => some ⟨a.1, a.2⟩) := by
          rw [e2]
          by_cases h0 : acc = []
          · rw [if_pos h0, decide_eq_true h0]
            rfl
          · rw [if_neg h0, decide_eq_false h0]
            have h1 := iWant hv (t := mkS [44]) rfl (by decide)
            simp only [Bool.not_false, if_true]
            cases hq : wT (mkS [44]) ws with
            | none =>
              rw [hq] at h1
              obtain ⟨ws', h1⟩ := h1
              exact ⟨ws', by rw [h1]; rfl⟩
            | some q =>
              rw [hq] at h1
              show _ = _
              rw [show pimpl_wordReader__want ⟨ws, false⟩ 3 (mkS [44]) = some ⟨q, false⟩ from h1]; rfl
        obtain ⟨z, hz⟩ : ∃ z : List Word_ × Bool, (if decide (0 < (acc.length : Int)) = true then Option.bind (pimpl_wordReader__want ⟨ws, false⟩ 3 (mkS [44])) fun r => some (r.list, r.bad) else some (ws, false)) = some z := by
          cases hx : (if decide (0 < (acc.length : Int)) = true then Option.bind (pimpl_wordReader__want ⟨ws, false⟩ 3 (mkS [44])) fun r => some (r.list, r.bad) else some (ws, false)) with
          | some z => exact ⟨z, rfl⟩
          | none =>
            rw [hx] at hw
            cases hy : (if acc = [] then some ws else wT (mkS [44]) ws) with
            | none => rw [hy] at hw; obtain ⟨_, h⟩ := hw; cases h
            | some q => rw [hy] at hw; cases hw
        rw [hz, Option.bind_some] at hw
        have step : ∀ (x : Str) (ws' : List Word_) (b : Bool), pimpl_wordReader__name ⟨z.1, z.2⟩ = some (x, ⟨ws', b⟩) → loopM (fun (xs2_1 : (List Word_) × Bool × (List Str)) => (Option.bind (if !(xs2_1.2.1) then Option.bind (pimpl_wordReader__take (⟨xs2_1.1, xs2_1.2.1⟩ : wordReader) 3 (mkS [41])) fun r3_1 => some (r3_1.2.list, r3_1.2.bad, !(r3_1.1)) else some (xs2_1.1, xs2_1.2.1, false) : Option ((List Word_) × Bool × Bool)) fun s2_1 => if s2_1.2.2 then Option.bind (if decide (0 < ((xs2_1.2.2.length : Int))) then Option.bind (pimpl_wordReader__want (⟨s2_1.1, s2_1.2.1⟩ : wordReader) 3 (mkS [44])) fun r3_2 => some (r3_2.list, r3_2.bad) else some (s2_1.1, s2_1.2.1) : Option ((List Word_) × Bool)) fun s2_2 => Option.bind (pimpl_wordReader__name (⟨s2_2.1, s2_2.2⟩ : wordReader)) fun r2_1 => Option.bind (appM xs2_1.2.2 ([r2_1.1] : List Str)) fun ys2_1 => some (.inl (r2_1.2.list, r2_1.2.bad, ys2_1)) else some (.inr (s2_1.1, s2_1.2.1, xs2_1.2.2)) : Option (((List Word_) × Bool × (List Str)) ⊕ ((List Word_) × Bool × (List Str))))) (ws, false, acc) = loopM (fun (xs2_1 : (List Word_) × Bool × (List Str)) => (Option.bind (if !(xs2_1.2.1) then Option.bind (pimpl_wordReader__take (⟨xs2_1.1, xs2_1.2.1⟩ : wordReader) 3 (mkS [41])) fun r3_1 => some (r3_1.2.list, r3_1.2.bad, !(r3_1.1)) else some (xs2_1.1, xs2_1.2.1, false) : Option ((List Word_) × Bool × Bool)) fun s2_1 => if s2_1.2.2 then Option.bind (if decide (0 < ((xs2_1.2.2.length : Int))) then Option.bind (pimpl_wordReader__want (⟨s2_1.1, s2_1.2.1⟩ : wordReader) 3 (mkS [44])) fun r3_2 => some (r3_2.list, r3_2.bad) else some (s2_1.1, s2_1.2.1) : Option ((List Word_) × Bool)) fun s2_2 => Option.bind (pimpl_wordReader__name (⟨s2_2.1, s2_2.2⟩ : wordReader)) fun r2_1 => Option.bind (appM xs2_1.2.2 ([r2_1.1] : List Str)) fun ys2_1 => some (.inl (r2_1.2.list, r2_1.2.bad, ys2_1)) else some (.inr (s2_1.1, s2_1.2.1, xs2_1.2.2)) : Option (((List Word_) × Bool × (List Str)) ⊕ ((List Word_) × Bool × (List Str))))) (ws', b, acc ++ [x]) := by
          intro x ws' b hn
          refine loopM_inl ?_
          dsimp only
          rw [if_pos (show (!false) = true from rfl), take_ok, htk, ht]
          simp only [Option.bind_some, Bool.not_false, if_true, Bool.false_eq_true, if_false]
          rw [hz, Option.bind_some, hn, Option.bind_some, appM_ok (hlt x)]; rfl
        cases hy : (if acc = [] then some ws else wT (mkS [44]) ws) with
        | none =>
          rw [hy] at hw
          obtain ⟨ws1, hw⟩ := hw
          obtain ⟨x, ws2, hn⟩ := iNameB z.1
          have hz2 : z.2 = true := by
            have := Option.some.inj hw
            exact congrArg wordReader.bad this
          rw [Option.bind_none]
          refine ⟨acc ++ [x], ws2, ?_⟩
          rw [step x ws2 true (by rw [hz2]; exact hn)]
          exact loopM_inr rfl
        | some q =>
          rw [hy] at hw
          have hz1 : z.1 = q := congrArg wordReader.list (Option.some.inj hw)
          have hz2 : z.2 = false := congrArg wordReader.bad (Option.some.inj hw)
          have h2 := iName (ws := q)
          rw [Option.bind_some]
          cases hn : nT q with
          | none =>
            rw [hn] at h2
            obtain ⟨x, ws2, h2⟩ := h2
            refine ⟨acc ++ [x], ws2, ?_⟩
            rw [step x ws2 true (by rw [hz1, hz2]; exact h2)]
            exact loopM_inr rfl
          | some p =>
            obtain ⟨x, q2⟩ := p
            rw [hn] at h2
            have su : SufS q2 ws := by
              have s1 := nT_suf hn
              split at hy
              · cases hy; exact s1
              · exact SufS.trans s1.le (wT_suf hy)
            have h3 := (ih (acc ++ [x]) q2 (by have := su.1; omega) (su.le.vW hv) (by have := su.1; simp; omega)).2
            rw [step x q2 false (by rw [hz1, hz2]; exact h2)]
            exact h3
theorem fnS_read {k : Nat} {ws : List Word_} (hk : 2 * ws.length + 2 ≤ k) (hv : vW ws) (hl : ws.length ≤ 1000) {list : List Word_} {n : Nat} (hll : list.length ≤ 1000) (hvl : vW list) (ha : AtW list n ws) : SpO list (pF k ws) (pspec_l3Reader__fn ⟨list, (n : Int)⟩) := by
  unfold pspec_l3Reader__fn pF
  have bad2 : ∀ (nm : Str) (ps : List Str), (Option.bind (pspec_l3Reader__want ⟨list, -1⟩ (mkS [41])) fun r0_4 => Option.bind (pspec_l3Reader__block ⟨list, r0_4.at_⟩) fun r0_5 => some ((⟨nm, ps, r0_5.1⟩ : Fn_), (⟨list, r0_5.2.at_⟩ : l3Reader))) = some (⟨nm, ps, []⟩, ⟨list, -1⟩) := by
    intro nm ps
    rw [sWantB, Option.bind_some, sBlockB]; rfl
  have bad1 : ∀ (nm : Str), (Option.bind (Option.bind (loopM (fun (xs2_1 : Int × (List Str)) => (Option.bind (if decide (0 ≤ xs2_1.1) then Option.bind (pspec_l3Reader__is (⟨(⟨list,n⟩:l3Reader).list, xs2_1.1⟩ : l3Reader) (mkS [41])) fun r3_1 => some (!(r3_1)) else some false : Option (Bool)) fun s2_1 => if s2_1 then Option.bind (if decide (0 < ((xs2_1.2.length : Int))) then Option.bind (pspec_l3Reader__want (⟨(⟨list,n⟩:l3Reader).list, xs2_1.1⟩ : l3Reader) (mkS [44])) fun r3_2 => some r3_2.at_ else some xs2_1.1 : Option (Int)) fun s2_2 => Option.bind (pspec_l3Reader__name (⟨(⟨list,n⟩:l3Reader).list, s2_2⟩ : l3Reader)) fun r2_1 => Option.bind (appM xs2_1.2 ([r2_1.1] : List Str)) fun ys2_1 => some (.inl (r2_1.2.at_, ys2_1)) else some (.inr (xs2_1.1, xs2_1.2)) : Option ((Int × (List Str)) ⊕ (Int × (List Str))))) (-1, [])) fun e0 => some e0) fun s0_1 => Option.bind (pspec_l3Reader__want ⟨list, s0_1.1⟩ (mkS [41])) fun r0_4 => Option.bind (pspec_l3Reader__block ⟨list, r0_4.at_⟩) fun r0_5 => some ((⟨nm, s0_1.2, r0_5.1⟩ : Fn_), (⟨list, r0_5.2.at_⟩ : l3Reader))) = some (⟨nm, [], []⟩, ⟨list, -1⟩) := by
    intro nm
    exact bindt (bindt (loopM_inr rfl) rfl) (bad2 nm [])
  have h1 := sWant hll ha (mkS [102, 110])
  show SpO list (Option.bind (wT (mkS [102, 110]) ws) _) _
  cases hq1 : wT (mkS [102, 110]) ws with
  | none =>
    rw [hq1] at h1
    rw [show pspec_l3Reader__want ⟨list, (n : Int)⟩ (mkS [102, 110]) = some ⟨list, -1⟩ from h1, Option.bind_some]
    dsimp only
    rw [sNameB, Option.bind_some]
    dsimp only
    rw [sWantB]
    exact ⟨_, bad1 _⟩
  | some a =>
  rw [hq1] at h1
  obtain ⟨m1, a1, h1⟩ := h1
  have su1 := wT_suf hq1
  rw [h1, Option.bind_some, Option.bind_some]
  dsimp only
  have h2 := sName hll a1
  cases hq2 : nT a with
  | none =>
    rw [hq2] at h2
    obtain ⟨x, h2⟩ := h2
    rw [h2, Option.bind_some]
    dsimp only
    rw [sWantB]
    exact ⟨_, bad1 _⟩
  | some b =>
  obtain ⟨nm, b⟩ := b
  rw [hq2] at h2
  obtain ⟨m2, a2, h2⟩ := h2
  have su2 := nT_suf hq2
  rw [h2, Option.bind_some, Option.bind_some]
  dsimp only at a2 ⊢
  have h3 := sWant hll a2 (mkS [40])
  cases hq3 : wT (mkS [40]) b with
  | none =>
    rw [hq3] at h3
    rw [show pspec_l3Reader__want ⟨list, (m2 : Int)⟩ (mkS [40]) = some ⟨list, -1⟩ from h3]
    exact ⟨_, bad1 _⟩
  | some c =>
  rw [hq3] at h3
  obtain ⟨m3, a3, h3⟩ := h3
  have su3 := wT_suf hq3
  have sc : SufS c ws := SufS.trans (su3.le.trans su2.le) su1
  rw [h3, Option.bind_some, Option.bind_some]
  dsimp only
  have h4 := (simP k [] c (by have := sc.1; omega) (sc.le.vW hv) (by have := sc.1; simp; omega)).1 ⟨list, (n : Int)⟩ m3 hll hvl a3
  cases hq4 : pP k [] c with
  | none =>
    rw [hq4] at h4
    obtain ⟨acc', h4⟩ := h4
    exact ⟨_, bindt (bindt h4 rfl) (bad2 nm acc')⟩
  | some d =>
  obtain ⟨ps, d⟩ := d
  rw [hq4] at h4
  obtain ⟨m4, w, a4, hw, h4⟩ := h4
  have su4 := pP_suf _ _ _ _ _ hq4
  have h5 := sWant hll a4 (mkS [41])
  have hw2 : wT (mkS [41]) (w :: d) = some d := by simp [wT, isT, hw]
  rw [hw2] at h5
  obtain ⟨m5, a5, h5⟩ := h5
  have sd : SufS d ws := SufS.trans su4.le sc
  have h6 := ((sim k).1 d (by have := sd.1; omega) (sd.le.vW hv) (by have := sd.1; omega)).1 list m5 hll hvl a5
  rw [Option.bind_some]
  dsimp only
  cases hq6 : pK k d with
  | none =>
    rw [hq6] at h6
    obtain ⟨x, h6⟩ := h6
    refine ⟨⟨nm, ps, x⟩, bindt (bindt h4 rfl) ?_⟩
    dsimp only
    rw [h5, Option.bind_some, h6]; rfl
  | some q =>
    rw [hq6] at h6
    obtain ⟨m6, a6, h6⟩ := h6
    refine ⟨m6, a6, bindt (bindt h4 rfl) ?_⟩
    dsimp only
    rw [h5, Option.bind_some, h6]; rfl
theorem fnI_read {k : Nat} {ws : List Word_} (hk : 2 * ws.length + 2 ≤ k) (hv : vW ws) (hl : ws.length ≤ 1000) : ImO (pF k ws) (pimpl_wordReader__fn ⟨ws, false⟩) := by
  unfold pimpl_wordReader__fn pF
  have bad2 : ∀ (nm : Str) (ps : List Str) (ws1 : List Word_), ∃ ws2, (Option.bind (pimpl_wordReader__block ⟨ws1, true⟩) fun r0_4 => some ((⟨nm, ps, r0_4.1⟩ : Fn_), r0_4.2)) = some (⟨nm, ps, []⟩, ⟨ws2, true⟩) := by
    intro nm ps ws1
    obtain ⟨ws2, h⟩ := iBlockB ws1
    exact ⟨ws2, by rw [h]; rfl⟩
  have bad1 : ∀ (nm : Str) (ws1 : List Word_), ∃ x ws2, (Option.bind (pimpl_wordReader__want ⟨ws1, true⟩ 3 (mkS [40])) fun r0_3 => Option.bind (Option.bind (loopM (fun (xs2_1 : (List Word_) × Bool × (List Str)) => (Option.bind (if !(xs2_1.2.1) then Option.bind (pimpl_wordReader__take (⟨xs2_1.1, xs2_1.2.1⟩ : wordReader) 3 (mkS [41])) fun r3_1 => some (r3_1.2.list, r3_1.2.bad, !(r3_1.1)) else some (xs2_1.1, xs2_1.2.1, false) : Option ((List Word_) × Bool × Bool)) fun s2_1 => if s2_1.2.2 then Option.bind (if decide (0 < ((xs2_1.2.2.length : Int))) then Option.bind (pimpl_wordReader__want (⟨s2_1.1, s2_1.2.1⟩ : wordReader) 3 (mkS [44])) fun r3_2 => some (r3_2.list, r3_2.bad) else some (s2_1.1, s2_1.2.1) : Option ((List Word_) × Bool)) fun s2_2 => Option.bind (pimpl_wordReader__name (⟨s2_2.1, s2_2.2⟩ : wordReader)) fun r2_1 => Option.bind (appM xs2_1.2.2 ([r2_1.1] : List Str)) fun ys2_1 => some (.inl (r2_1.2.list, r2_1.2.bad, ys2_1)) else some (.inr (s2_1.1, s2_1.2.1, xs2_1.2.2)) : Option (((List Word_) × Bool × (List Str)) ⊕ ((List Word_) × Bool × (List Str))))) (r0_3.list, r0_3.bad, [])) fun e0 => some e0) fun s0_1 => Option.bind (pimpl_wordReader__block ⟨s0_1.1, s0_1.2.1⟩) fun r0_4 => some ((⟨nm, s0_1.2.2, r0_4.1⟩ : Fn_), r0_4.2)) = some (x, ⟨ws2, true⟩) := by
    intro nm ws1
    obtain ⟨ws3, h3⟩ := iWantB ws1 3 (mkS [40])
    obtain ⟨ws4, h4⟩ := bad2 nm [] ws3
    exact ⟨_, ws4, by rw [h3, Option.bind_some]; exact bindt (bindt (loopM_inr rfl) rfl) h4⟩
  have h1 := iWantT (tk_key hv (t := mkS [102, 110]) (by decide))
  show ImO (Option.bind (wT (mkS [102, 110]) ws) _) _
  cases hq1 : wT (mkS [102, 110]) ws with
  | none =>
    rw [hq1] at h1
    obtain ⟨ws1, h1⟩ := h1
    obtain ⟨x, ws2, h2⟩ := iNameB ws1
    obtain ⟨y, ws3, h3⟩ := bad1 x ws2
    rw [h1, Option.bind_some, h2, Option.bind_some]
    exact ⟨_, _, h3⟩
  | some a =>
  rw [hq1] at h1
  have su1 := wT_suf hq1
  rw [show pimpl_wordReader__want ⟨ws, false⟩ 4 (mkS [102, 110]) = some ⟨a, false⟩ from h1, Option.bind_some, Option.bind_some]
  have h2 := iName (ws := a)
  cases hq2 : nT a with
  | none =>
    rw [hq2] at h2
    obtain ⟨x, ws2, h2⟩ := h2
    obtain ⟨y, ws3, h3⟩ := bad1 x ws2
    rw [h2, Option.bind_some]
    exact ⟨_, _, h3⟩
  | some b =>
  obtain ⟨nm, b⟩ := b
  rw [hq2] at h2
  have su2 := nT_suf hq2
  have hvb := (su2.le.trans su1.le).vW hv
  rw [show pimpl_wordReader__name ⟨a, false⟩ = some (nm, ⟨b, false⟩) from h2, Option.bind_some, Option.bind_some]
  dsimp only
  have h3 := iWant hvb (t := mkS [40]) rfl (by decide)
  cases hq3 : wT (mkS [40]) b with
  | none =>
    rw [hq3] at h3
    obtain ⟨ws3, h3⟩ := h3
    obtain ⟨ws4, h4⟩ := bad2 nm [] ws3
    rw [h3, Option.bind_some]
    exact ⟨_, ws4, bindt (bindt (loopM_inr rfl) rfl) h4⟩
  | some c =>
  rw [hq3] at h3
  have su3 := wT_suf hq3
  have sc : SufS c ws := SufS.trans (su3.le.trans su2.le) su1
  rw [show pimpl_wordReader__want ⟨b, false⟩ 3 (mkS [40]) = some ⟨c, false⟩ from h3, Option.bind_some, Option.bind_some]
  dsimp only
  have h4 := (simP k [] c (by have := sc.1; omega) (sc.le.vW hv) (by have := sc.1; simp; omega)).2
  cases hq4 : pP k [] c with
  | none =>
    rw [hq4] at h4
    obtain ⟨acc', ws4, h4⟩ := h4
    obtain ⟨ws5, h5⟩ := bad2 nm acc' ws4
    exact ⟨_, ws5, bindt (bindt h4 rfl) h5⟩
  | some d =>
  obtain ⟨ps, d⟩ := d
  rw [hq4] at h4
  have su4 := pP_suf _ _ _ _ _ hq4
  have sd : SufS d ws := SufS.trans su4.le sc
  have h6 := ((sim k).1 d (by have := sd.1; omega) (sd.le.vW hv) (by have := sd.1; omega)).2
  unfold OkI at h6
  rw [Option.bind_some]
  dsimp only
  cases hq6 : pK k d with
  | none =>
    rw [hq6] at h6
    obtain ⟨x, ws6, h6⟩ := h6
    refine ⟨⟨nm, ps, x⟩, ws6, bindt (bindt h4 rfl) ?_⟩
    dsimp only
    rw [h6]; rfl
  | some q =>
    rw [hq6] at h6
    refine bindt (bindt h4 rfl) ?_
    dsimp only
    rw [show pimpl_wordReader__block ⟨d, false⟩ = some (q.1, ⟨q.2, false⟩) from h6]; rfl
theorem simG {k0 : Nat} : ∀ (k : Nat) (acc : List Fn_) (ws : List Word_), ws.length + 1 ≤ k → 2 * ws.length + 2 ≤ k0 → vW ws → acc.length + ws.length ≤ 1000 →
      (∀ (list : List Word_) (n : Nat), list.length ≤ 1000 → vW list → AtW list n ws → match pG k0 k acc ws with
        | some p => loopM (fun (xs2_1 : Int × (List Fn_)) => (Option.bind (if decide (0 ≤ xs2_1.1) then some (decide (xs2_1.1 < (((list,true).1.length : Int)))) else some false : Option (Bool)) fun s2_1 => if s2_1 then Option.bind (pspec_l3Reader__fn (⟨(list,true).1, xs2_1.1⟩ : l3Reader)) fun r2_1 => Option.bind (appM xs2_1.2 ([r2_1.1] : List Fn_)) fun ys2_1 => some (.inl (r2_1.2.at_, ys2_1)) else some (.inr (xs2_1.1, xs2_1.2)) : Option ((Int × (List Fn_)) ⊕ (Int × (List Fn_))))) ((n : Int), acc) = some ((list.length : Int), p)
        | none => ∃ acc', loopM (fun (xs2_1 : Int × (List Fn_)) => (Option.bind (if decide (0 ≤ xs2_1.1) then some (decide (xs2_1.1 < (((list,true).1.length : Int)))) else some false : Option (Bool)) fun s2_1 => if s2_1 then Option.bind (pspec_l3Reader__fn (⟨(list,true).1, xs2_1.1⟩ : l3Reader)) fun r2_1 => Option.bind (appM xs2_1.2 ([r2_1.1] : List Fn_)) fun ys2_1 => some (.inl (r2_1.2.at_, ys2_1)) else some (.inr (xs2_1.1, xs2_1.2)) : Option ((Int × (List Fn_)) ⊕ (Int × (List Fn_))))) ((n : Int), acc) = some (-1, acc')) ∧
      (match pG k0 k acc ws with
        | some p => loopM (fun (xs2_1 : (List Word_) × Bool × (List Fn_)) => (Option.bind (if !(xs2_1.2.1) then some (decide (0 < ((xs2_1.1.length : Int)))) else some false : Option (Bool)) fun s2_1 => if s2_1 then Option.bind (pimpl_wordReader__fn (⟨xs2_1.1, xs2_1.2.1⟩ : wordReader)) fun r2_1 => Option.bind (appM xs2_1.2.2 ([r2_1.1] : List Fn_)) fun ys2_1 => some (.inl (r2_1.2.list, r2_1.2.bad, ys2_1)) else some (.inr (xs2_1.1, xs2_1.2.1, xs2_1.2.2)) : Option (((List Word_) × Bool × (List Fn_)) ⊕ ((List Word_) × Bool × (List Fn_))))) (ws, false, acc) = some ([], false, p)
        | none => ∃ acc' ws', loopM (fun (xs2_1 : (List Word_) × Bool × (List Fn_)) => (Option.bind (if !(xs2_1.2.1) then some (decide (0 < ((xs2_1.1.length : Int)))) else some false : Option (Bool)) fun s2_1 => if s2_1 then Option.bind (pimpl_wordReader__fn (⟨xs2_1.1, xs2_1.2.1⟩ : wordReader)) fun r2_1 => Option.bind (appM xs2_1.2.2 ([r2_1.1] : List Fn_)) fun ys2_1 => some (.inl (r2_1.2.list, r2_1.2.bad, ys2_1)) else some (.inr (xs2_1.1, xs2_1.2.1, xs2_1.2.2)) : Option (((List Word_) × Bool × (List Fn_)) ⊕ ((List Word_) × Bool × (List Fn_))))) (ws, false, acc) = some (ws', true, acc')) := by
  intro k
  induction k with
  | zero => intro acc ws h; omega
  | succ k ih =>
    intro acc ws hk hk0 hv hl
    have hlt : ∀ x : Fn_, acc.length + [x].length ≤ 2147483648 := fun x => by simp; omega
    rw [pG]
    by_cases h0 : ws = []
    · subst h0
      rw [if_pos rfl]
      refine ⟨fun list n hll hvl ha => ?_, loopM_inr rfl⟩
      have := at_nil ha
      refine loopM_inr ?_
      have e0 : decide (0 ≤ (n : Int)) = true := by simp
      have e1 : decide ((n : Int) < (list.length : Int)) = false := by simp; omega
      dsimp only
      rw [if_pos e0, Option.bind_some, e1, this]; rfl
    · rw [if_neg h0]
      have hpos := List.length_pos_iff.2 h0
      refine ⟨fun list n hll hvl ha => ?_, ?_⟩
      · have hlt2 : n < list.length := by
          cases ws with
          | nil => exact absurd rfl h0
          | cons w r => exact (at_cons ha).1
        have e0 : decide (0 ≤ (n : Int)) = true := by simp
        have e1 : decide ((n : Int) < (list.length : Int)) = true := by simp; omega
        have h1 := fnS_read hk0 hv (by omega) hll hvl ha
        have step : ∀ (x : Fn_) (y : Int), pspec_l3Reader__fn ⟨list, (n : Int)⟩ = some (x, ⟨list, y⟩) → loopM (fun (xs2_1 : Int × (List Fn_)) => (Option.bind (if decide (0 ≤ xs2_1.1) then some (decide (xs2_1.1 < (((list,true).1.length : Int)))) else some false : Option (Bool)) fun s2_1 => if s2_1 then Option.bind (pspec_l3Reader__fn (⟨(list,true).1, xs2_1.1⟩ : l3Reader)) fun r2_1 => Option.bind (appM xs2_1.2 ([r2_1.1] : List Fn_)) fun ys2_1 => some (.inl (r2_1.2.at_, ys2_1)) else some (.inr (xs2_1.1, xs2_1.2)) : Option ((Int × (List Fn_)) ⊕ (Int × (List Fn_))))) ((n : Int), acc) = loopM (fun (xs2_1 : Int × (List Fn_)) => (Option.bind (if decide (0 ≤ xs2_1.1) then some (decide (xs2_1.1 < (((list,true).1.length : Int)))) else some false : Option (Bool)) fun s2_1 => if s2_1 then Option.bind (pspec_l3Reader__fn (⟨(list,true).1, xs2_1.1⟩ : l3Reader)) fun r2_1 => Option.bind (appM xs2_1.2 ([r2_1.1] : List Fn_)) fun ys2_1 => some (.inl (r2_1.2.at_, ys2_1)) else some (.inr (xs2_1.1, xs2_1.2)) : Option ((Int × (List Fn_)) ⊕ (Int × (List Fn_))))) (y, acc ++ [x]) := by
          intro x y hn
          refine loopM_inl ?_
          dsimp only
          rw [if_pos e0, Option.bind_some, e1, if_pos rfl, hn, Option.bind_some, appM_ok (hlt x)]; rfl
        cases hq : pF k0 ws with
        | none =>
          rw [hq] at h1
          obtain ⟨x, h1⟩ := h1
          refine ⟨acc ++ [x], ?_⟩
          rw [step x (-1) h1]
          exact loopM_inr rfl
        | some p =>
          obtain ⟨f, q⟩ := p
          rw [hq] at h1
          obtain ⟨m, a1, h1⟩ := h1
          have su := pF_suf hq
          have h2 := (ih (acc ++ [f]) q (by have := su.1; omega) (by have := su.1; omega) (su.le.vW hv) (by have := su.1; simp; omega)).1 list m hll hvl a1
          rw [step f (m : Int) h1, Option.bind_some]
          exact h2
      · have e1 : decide (0 < (ws.length : Int)) = true := by simp; omega
        have h1 := fnI_read hk0 hv (by omega)
        have step : ∀ (x : Fn_) (ws' : List Word_) (b : Bool), pimpl_wordReader__fn ⟨ws, false⟩ = some (x, ⟨ws', b⟩) → loopM (fun (xs2_1 : (List Word_) × Bool × (List Fn_)) => (Option.bind (if !(xs2_1.2.1) then some (decide (0 < ((xs2_1.1.length : Int)))) else some false : Option (Bool)) fun s2_1 => if s2_1 then Option.bind (pimpl_wordReader__fn (⟨xs2_1.1, xs2_1.2.1⟩ : wordReader)) fun r2_1 => Option.bind (appM xs2_1.2.2 ([r2_1.1] : List Fn_)) fun ys2_1 => some (.inl (r2_1.2.list, r2_1.2.bad, ys2_1)) else some (.inr (xs2_1.1, xs2_1.2.1, xs2_1.2.2)) : Option (((List Word_) × Bool × (List Fn_)) ⊕ ((List Word_) × Bool × (List Fn_))))) (ws, false, acc) = loopM (fun (xs2_1 : (List Word_) × Bool × (List Fn_)) => (Option.bind (if !(xs2_1.2.1) then some (decide (0 < ((xs2_1.1.length : Int)))) else some false : Option (Bool)) fun s2_1 => if s2_1 then Option.bind (pimpl_wordReader__fn (⟨xs2_1.1, xs2_1.2.1⟩ : wordReader)) fun r2_1 => Option.bind (appM xs2_1.2.2 ([r2_1.1] : List Fn_)) fun ys2_1 => some (.inl (r2_1.2.list, r2_1.2.bad, ys2_1)) else some (.inr (xs2_1.1, xs2_1.2.1, xs2_1.2.2)) : Option (((List Word_) × Bool × (List Fn_)) ⊕ ((List Word_) × Bool × (List Fn_))))) (ws', b, acc ++ [x]) := by
          intro x ws' b hn
          refine loopM_inl ?_
          dsimp only
          rw [if_pos (show (!false) = true from rfl), Option.bind_some, e1, if_pos rfl, hn, Option.bind_some, appM_ok (hlt x)]; rfl
        cases hq : pF k0 ws with
        | none =>
          rw [hq] at h1
          obtain ⟨x, ws', h1⟩ := h1
          refine ⟨acc ++ [x], ws', ?_⟩
          rw [step x ws' true h1]
          exact loopM_inr rfl
        | some p =>
          obtain ⟨f, q⟩ := p
          rw [hq] at h1
          have su := pF_suf hq
          have h2 := (ih (acc ++ [f]) q (by have := su.1; omega) (by have := su.1; omega) (su.le.vW hv) (by have := su.1; simp; omega)).2
          rw [step f q false h1, Option.bind_some]
          exact h2
end Prg
end Go.Wk
namespace Go.Wk
open Go
namespace Prg
set_option maxRecDepth 10000
theorem tok_valid : ∀ (k : Nat) (l : List UInt8), l.length ≤ k → ∀ ws, tok l = some ws → vW ws := by
  intro k
  induction k with
  | zero =>
    intro l hl ws h
    have : l = [] := List.eq_nil_of_length_eq_zero (by omega)
    subst this
    rw [tok_nil] at h
    cases h
    exact fun w hw => by cases hw
  | succ k ih =>
    intro l hl ws h
    cases l with
    | nil =>
      rw [tok_nil] at h
      cases h
      exact fun w hw => by cases hw
    | cons c r =>
      rw [tok_cons] at h
      simp at hl
      by_cases h1 : blkB c = true
      · rw [if_pos h1] at h
        exact ih r hl ws h
      rw [if_neg h1] at h
      by_cases h2 : wordB (mkWd c (r.takeWhile (runP c))) = true
      · rw [if_pos h2] at h
        obtain ⟨ws', h3, h4⟩ := Option.map_eq_some_iff.1 h
        have := ih _ (Nat.le_trans (drop_le _ _) hl) ws' h3
        subst h4
        intro w hw
        rcases List.mem_cons.1 hw with rfl | hw
        · exact h2
        · exact this w hw
      · rw [if_neg h2] at h; cases h
theorem cutR_valid {s : Str} {ws : List Word_} (h : cutR s = some ws) : vW ws ∧ ws.length ≤ 600 := by
  unfold cutR at h
  split at h
  · rw [Option.filter_eq_some_iff, decide_eq_true_iff] at h
    exact ⟨tok_valid _ _ (Nat.le_refl _) _ h.1, h.2⟩
  · cases h
def noE : Expr_ := ⟨0, 0, mkS [], []⟩
theorem at_zero (ws : List Word_) : AtW ws 0 ws := ⟨rfl, Nat.zero_le _⟩
theorem cutV_some {s : Str} {ws : List Word_} (h : cutR s = some ws) : cutV s = (ws, true) := by unfold cutV; rw [h]
theorem cutV_none {s : Str} (h : cutR s = none) : cutV s = ([], false) := by unfold cutV; rw [h]
end Prg
end Go.Wk
namespace Go.Wk
open Go
namespace Prg
set_option maxRecDepth 10000
section
variable {α : Type}
theorem forN_mark2 {X : Type} {body : Int → List α × Int → Option ((List α × Int) ⊕ X)} (f : Int → α → α) (s : α → Nat) (B : Int) {a : List α} {k : Int} (hk : 0 ≤ k) (hB : k + sums s a ≤ B)
    (hb : ∀ (l : List α) x r (k : Int), x ∈ a → 0 ≤ k → k + s x ≤ B → body (l.length : Int) (l ++ x :: r, k) = some (.inl (l ++ f k x :: r, k + s x))) :
    forN body ((a.length : Int) - 0).toNat 0 (a, k) = some (.inl (mkL f s a k, k + sums s a)) := by
  rcases forN_list (xs := a) (body := body) (s := (a, k)) (fun l st => ∃ r, a = l ++ r ∧ st = (mkL f s l k ++ r, k + sums s l)) (fun _ => False)
    ⟨a, rfl, by simp [mkL, sums]⟩ (fun l x r st he ⟨r', h1, h2⟩ => .inl (by
      have hr : r' = x :: r := by
        rw [he] at h1
        exact (List.append_cancel_left h1).symm
      subst hr
      have hsum : sums s a = sums s l + (s x + sums s r) := by rw [he, sums_append]; rfl
      have := hb (mkL f s l k) x r (k + sums s l) (by rw [he]; simp) (by omega) (by omega)
      rw [mkL_length] at this
      refine ⟨_, by rw [h2]; exact this, r, by simpa using he, ?_⟩
      rw [mkL_append, sums_append]
      simp only [mkL, sums, List.append_assoc, List.cons_append, List.nil_append, Prod.mk.injEq, true_and]
      omega)) with ⟨st, h1, r, h2, h3⟩ | ⟨_, _, h⟩
  · have : r = [] := by
      have := congrArg List.length h2
      simp at this
      exact this
    subst this
    rw [h1, h3]
    simp
  · exact h.elim
theorem forN_held2 {X : Type} {body : Int → Int → Option (Int ⊕ X)} (f : Int → α → α) (s : α → Nat) (B : Int) {a : List α} {k : Int} (hk : 0 ≤ k) (hB : k + sums s a ≤ B)
    (hb : ∀ (l : List α) x r (j : Int), x ∈ a → mkL f s a k = l ++ f j x :: r → 0 ≤ j → j + s x ≤ B → body (l.length : Int) j = some (.inl (j + s x))) :
    forN body (((mkL f s a k).length : Int) - 0).toNat 0 k = some (.inl (k + sums s a)) := by
  rw [mkL_length]
  rcases forN_list (xs := a) (body := body) (s := k) (fun l st => st = k + sums s l) (fun _ => False)
    (by simp [sums]) (fun l x r st he h2 => .inl (by
      subst h2
      have hsum : sums s a = sums s l + (s x + sums s r) := by rw [he, sums_append]; rfl
      have := hb (mkL f s l k) x (mkL f s r (k + sums s l + s x)) (k + sums s l) (by rw [he]; simp) (by rw [he, mkL_append]; rfl) (by omega) (by omega)
      rw [mkL_length] at this
      refine ⟨_, this, ?_⟩
      rw [sums_append]
      simp only [sums]
      omega)) with ⟨st, h1, h2⟩ | ⟨_, _, h⟩
  · rw [h1, h2]
  · exact h.elim
end
theorem eqE_ok : ∀ e : Expr_, laws_eqExpr e e = some true := by
  intro e
  induction e using exprInd with
  | h e ih =>
    have hs : laws_eqExprS e.kids e.kids = some true := by
      rw [laws_eqExprS, if_neg (by simp)]
      generalize e.kids = ks at ih
      rw [forN_any (xs := ks) (body := (fun (i1_1 : Int) (xs1_1 : Unit) => (Option.bind (getI ks i1_1) fun x1_1 => Option.bind (getI ks i1_1) fun x1_2 => Option.bind (laws_eqExpr x1_1 x1_2) fun r1_1 => if !(r1_1) then some (.inr false) else some (.inl ()) : Option ((Unit) ⊕ (Bool))))) (fun _ => false) false (fun l x r he => by
        rw [he, getI_mid, Option.bind_some, Option.bind_some, ih x (by rw [he]; simp)]; rfl)]
      have : ks.any (fun _ => false) = false := by simp
      rw [this]; rfl
    rw [laws_eqExpr, if_neg (by simp), if_neg (by simp), if_neg (by simp), hs]; rfl
theorem mark_loop : ∀ (n : Nat) (s : Str), n ≤ 100000 → s.b.length + n ≤ 200000 → ∃ t : Str, loopM (fun (xs2_1 : Int × Str) => (if decide (0 < xs2_1.1) then Option.bind (catS (strL ([(byteI (w64 (48 + (xs2_1.1.tmod 10))))] : List UInt8)) xs2_1.2) fun x2_1 => some (.inl (w64 (xs2_1.1.tdiv 10), x2_1)) else some (.inr xs2_1.2) : Option ((Int × Str) ⊕ (Str)))) ((n : Int), s) = some t ∧ t.b.length ≤ s.b.length + n := by
  intro n
  induction n using Nat.strongRecOn with
  | ind n ih =>
    intro s hn hs
    by_cases h0 : n = 0
    · subst h0
      exact ⟨s, loopM_inr rfl, by omega⟩
    · have e1 : decide (0 < (n : Int)) = true := by simp; omega
      have e2 : w64 ((n : Int).tdiv 10) = ((n / 10 : Nat) : Int) := by
        have : (n : Int).tdiv 10 = ((n / 10 : Nat) : Int) := by rw [Int.tdiv_eq_ediv_of_nonneg (by omega)]; omega
        rw [this, w64_id (by omega) (by omega)]
      generalize hc : strL [byteI (w64 (48 + (n : Int).tmod 10))] = c
      have hc1 : c.b.length = 1 := by rw [← hc, strL_b (by simp)]; rfl
      obtain ⟨t, ht, ht2⟩ : ∃ t, catS c s = some t ∧ t.b = c.b ++ s.b := by
        refine ⟨⟨c.b ++ s.b, by simp; omega⟩, catS_some.2 ⟨by omega, rfl⟩, rfl⟩
      have ht3 : t.b.length = s.b.length + 1 := by rw [ht2]; simp; omega
      obtain ⟨u, h1, h2⟩ := ih (n / 10) (by omega) t (by omega) (by omega)
      refine ⟨u, ?_, by omega⟩
      rw [loopM_inl (s' := (((n / 10 : Nat) : Int), t))]
      · exact h1
      · dsimp only
        rw [if_pos e1, hc, ht, Option.bind_some, e2]
theorem markText_ok {k : Int} (h : k ≤ 100000) : ∃ t, laws_markText k = some t := by
  unfold laws_markText
  by_cases h0 : k ≤ 0
  · exact ⟨_, if_pos (by simpa using h0)⟩
  · obtain ⟨n, rfl⟩ : ∃ n : Nat, k = n := ⟨k.toNat, by omega⟩
    obtain ⟨t, h1, h2⟩ := mark_loop n (mkS []) (by omega) (by show 0 + n ≤ _; omega)
    have h3 : t.b.length ≤ n := by simpa [mkS] using h2
    refine ⟨⟨109 :: t.b, by simp; omega⟩, ?_⟩
    rw [if_neg (by simpa using h0), h1]
    simp only [Option.bind_some]
    have : catS (mkS [109]) t = some ⟨109 :: t.b, by simp; omega⟩ := catS_some.2 ⟨by show 1 + t.b.length ≤ _; omega, rfl⟩
    rw [this]; rfl
noncomputable def mtI (k : Int) : Str := (laws_markText k).getD (mkS [])
theorem mt_ok {k : Int} (h : k ≤ 100000) : laws_markText k = some (mtI k) := by
  obtain ⟨t, ht⟩ := markText_ok h
  unfold mtI; rw [ht]; rfl
mutual
noncomputable def mkE : Expr_ → Int → Expr_
  | ⟨_, _, _, ks⟩, k => ⟨k, k + 1, mtI (k + 2), mkEs ks (k + 3)⟩
noncomputable def mkEs : List Expr_ → Int → List Expr_
  | [], _ => []
  | x :: r, k => mkE x k :: mkEs r (k + 3 * partsE x)
end
theorem mkE_eq (e : Expr_) (k : Int) : mkE e k = ⟨k, k + 1, mtI (k + 2), mkEs e.kids (k + 3)⟩ := by cases e; rw [mkE]
def szE (e : Expr_) : Nat := 3 * partsE e
theorem mkEs_eq : ∀ (l : List Expr_) (k : Int), mkEs l k = mkL (fun k x => mkE x k) szE l k
  | [], k => by rw [mkEs]; rfl
  | x :: r, k => by
    rw [mkEs, mkEs_eq r]
    show _ = mkE x k :: mkL _ _ r (k + szE x)
    unfold szE
    congr 2
theorem sumE_eq : ∀ l : List Expr_, sums szE l = 3 * partsL l
  | [] => by rw [partsL_nil]; rfl
  | x :: r => by
    rw [partsL_cons]
    show szE x + sums szE r = _
    rw [sumE_eq r]; unfold szE; omega
theorem markS_ok : ∀ (e : Expr_) (k : Int), 0 ≤ k → k + 3 * partsL e.kids ≤ 90000 → laws_markExprS e.kids k = some (k + 3 * partsL e.kids, mkEs e.kids k) := by
  intro e
  induction e using exprInd with
  | h e ih =>
    intro k hk hB
    rw [laws_markExprS]
    generalize e.kids = ks at ih hB
    have hs := sumE_eq ks
    rw [forN_mark2 (body := (fun (i1_1 : Int) (xs1_1 : (List Expr_) × Int) => (Option.bind (getI xs1_1.1 i1_1) fun x1_1 => Option.bind (laws_markText (w64 ((w64 (xs1_1.2 + 1)) + 1))) fun r1_1 => Option.bind (laws_markExprS x1_1.kids (w64 ((w64 ((w64 (xs1_1.2 + 1)) + 1)) + 1))) fun r1_2 => some (.inl (((((xs1_1.1.set (i1_1).toNat (⟨xs1_1.2, x1_1.n_, x1_1.name, x1_1.kids⟩ : Expr_)).set (i1_1).toNat (⟨xs1_1.2, w64 (xs1_1.2 + 1), x1_1.name, x1_1.kids⟩ : Expr_)).set (i1_1).toNat (⟨xs1_1.2, w64 (xs1_1.2 + 1), r1_1, x1_1.kids⟩ : Expr_)).set (i1_1).toNat (⟨xs1_1.2, w64 (xs1_1.2 + 1), r1_1, r1_2.2⟩ : Expr_)), r1_2.1)) : Option (((List Expr_) × Int) ⊕ (Empty))))) (fun k x => mkE x k) szE 90000 hk (by omega) (fun l x r k hx hk hB => by
      have hp := partsE_eq x
      unfold szE at hB ⊢
      have w1 : w64 (k + 1) = k + 1 := w64_id (by omega) (by omega)
      have w2 : w64 (k + 1 + 1) = k + 2 := (w64_id (by omega) (by omega)).trans (by omega)
      have w3 : w64 (k + 2 + 1) = k + 3 := (w64_id (by omega) (by omega)).trans (by omega)
      have hi := ih x hx (k + 3) (by omega) (by omega)
      have hn : ((l.length : Int)).toNat = l.length := by omega
      dsimp only
      rw [getI_mid, Option.bind_some, w1, w2, w3, mt_ok (by omega), Option.bind_some, hi, Option.bind_some, hn]
      simp only [set_mid]
      rw [mkE_eq, hp]
      congr 3
      omega)]
    rw [hs, mkEs_eq]
    simp only [Option.bind_some, Sum.elim_inl]
    congr 2
theorem heldS_ok : ∀ (e : Expr_) (k : Int), 0 ≤ k → k + 3 * partsL e.kids ≤ 90000 → laws_heldExprS (mkEs e.kids k) k = some (k + 3 * partsL e.kids) := by
  intro e
  induction e using exprInd with
  | h e ih =>
    intro k hk hB
    generalize e.kids = ks at ih hB
    rw [laws_heldExprS, mkEs_eq]
    generalize hm : mkL (fun k x => mkE x k) szE ks k = ms
    have hs := sumE_eq ks
    have hf := forN_held2 (body := (fun (i1_1 : Int) (xs1_1 : Int) => (Option.bind (getI ms i1_1) fun x1_1 => if decide (x1_1.op ≠ xs1_1) then some (.inr (-1)) else if decide (x1_1.n_ ≠ (w64 (xs1_1 + 1))) then some (.inr (-1)) else Option.bind (laws_markText (w64 ((w64 (xs1_1 + 1)) + 1))) fun r1_1 => if decide (x1_1.name ≠ r1_1) then some (.inr (-1)) else Option.bind (laws_heldExprS x1_1.kids (w64 ((w64 ((w64 (xs1_1 + 1)) + 1)) + 1))) fun r1_2 => if decide (r1_2 < 0) then some (.inr (-1)) else some (.inl r1_2) : Option ((Int) ⊕ (Int))))) (fun k x => mkE x k) szE 90000 hk (a := ks) (by omega) (fun l x r j hx he hj hB => by
      have hp := partsE_eq x
      unfold szE at hB ⊢
      have w1 : w64 (j + 1) = j + 1 := w64_id (by omega) (by omega)
      have w2 : w64 (j + 1 + 1) = j + 2 := (w64_id (by omega) (by omega)).trans (by omega)
      have w3 : w64 (j + 2 + 1) = j + 3 := (w64_id (by omega) (by omega)).trans (by omega)
      have hi := ih x hx (j + 3) (by omega) (by omega)
      have hg : getI ms (l.length : Int) = some (mkE x j) := by rw [← hm, he, getI_mid]
      rw [hg, Option.bind_some, w1, w2, w3, mt_ok (by omega), Option.bind_some, mkE_eq]
      try dsimp only
      rw [hi, Option.bind_some]
      have e1 : decide (j + 3 + 3 * (partsL x.kids : Int) < 0) = false := by simp; omega
      simp only [ne_eq, not_true_eq_false, decide_false, Bool.false_eq_true, if_false, e1]
      congr 2
      omega)
    rw [hm] at hf
    rw [hf, hs]
    simp only [Option.bind_some, Sum.elim_inl]
    congr 1
theorem parts_valid {e : Expr_} (h : validB e = true) : partsE e ≤ 30 := by
  unfold validB at h
  rw [Bool.and_eq_true, decide_eq_true_iff] at h
  exact h.2
end Prg
end Go.Wk
namespace Go.Wk
open Go
namespace Prg
set_option maxRecDepth 10000
def noP : Program_ := ⟨[]⟩
noncomputable def rdG (ws : List Word_) : Option (List Fn_) := pG 2000 1001 [] ws
theorem readP_some {s : Str} {ws : List Word_} (h : cutR s = some ws) : (match rdG ws with
    | some fns => spec_ReadProgram s = some (if progB ⟨fns⟩ then (⟨fns⟩, true) else (noP, false)) ∧ impl_ReadProgram s = some (if progB ⟨fns⟩ then (⟨fns⟩, true) else (noP, false))
    | none => spec_ReadProgram s = some (noP, false) ∧ impl_ReadProgram s = some (noP, false)) := by
  obtain ⟨hv, hl⟩ := cutR_valid h
  obtain ⟨h1, h2⟩ := simG (k0 := 2000) 1001 [] ws (by omega) (by omega) hv (by simp; omega)
  replace h1 := h1 ws 0 (by omega) hv (at_zero ws)
  unfold rdG
  cases hq : pG 2000 1001 [] ws with
  | some fns =>
    rw [hq] at h1 h2
    constructor
    · unfold spec_ReadProgram
      rw [cutWordsS_ok, cutV_some h, Option.bind_some]
      dsimp only
      rw [if_neg (by simp)]
      refine bindt (bindt h1 rfl) ?_
      have e1 : decide ((ws.length : Int) < 0) = false := by simp
      dsimp only
      rw [e1, if_neg (by simp), progS_ok]
      cases progB ⟨fns⟩ <;> rfl
    · unfold impl_ReadProgram
      rw [cutWords_ok, cutV_some h, Option.bind_some]
      refine bindt (bindt h2 rfl) ?_
      dsimp only
      rw [if_neg (by simp), progI_ok]
      cases progB ⟨fns⟩ <;> rfl
  | none =>
    rw [hq] at h1 h2
    obtain ⟨acc1, h1⟩ := h1
    obtain ⟨acc2, ws2, h2⟩ := h2
    constructor
    · unfold spec_ReadProgram
      rw [cutWordsS_ok, cutV_some h, Option.bind_some]
      dsimp only
      rw [if_neg (by simp)]
      exact bindt (bindt h1 rfl) rfl
    · unfold impl_ReadProgram
      rw [cutWords_ok, cutV_some h, Option.bind_some]
      exact bindt (bindt h2 rfl) rfl
theorem readP_none {s : Str} (h : cutR s = none) : spec_ReadProgram s = some (noP, false) ∧ impl_ReadProgram s = some (noP, false) := by
  constructor
  · unfold spec_ReadProgram
    rw [cutWordsS_ok, cutV_none h]; rfl
  · unfold impl_ReadProgram
    rw [cutWords_ok, cutV_none h, Option.bind_some]
    exact bindt (bindt (loopM_inr rfl) rfl) rfl
theorem readProgram_ok (s : Str) : ∃ p ok, spec_ReadProgram s = some (p, ok) ∧ impl_ReadProgram s = some (p, ok) ∧ ((ok = true ∧ progB p = true ∧ ∃ ws, cutR s = some ws ∧ rdG ws = some p.fns) ∨ (ok = false ∧ p = noP)) := by
  cases h : cutR s with
  | none => exact ⟨_, _, (readP_none h).1, (readP_none h).2, .inr ⟨rfl, rfl⟩⟩
  | some ws =>
    have h1 := readP_some h
    cases hq : rdG ws with
    | none =>
      rw [hq] at h1
      exact ⟨_, _, h1.1, h1.2, .inr ⟨rfl, rfl⟩⟩
    | some fns =>
      rw [hq] at h1
      dsimp only at h1
      cases hp : progB ⟨fns⟩ with
      | true =>
        rw [hp] at h1
        exact ⟨_, _, h1.1, h1.2, .inl ⟨rfl, hp, ws, rfl, hq⟩⟩
      | false =>
        rw [hp] at h1
        exact ⟨_, _, h1.1, h1.2, .inr ⟨rfl, rfl⟩⟩
theorem pSK_cnt : ∀ k : Nat, (∀ ws s r, pS k ws = some (s, r) → cntS s + r.length ≤ ws.length) ∧ (∀ ws b r, pK k ws = some (b, r) → cntL b + r.length ≤ ws.length) ∧ (∀ acc ws b r, pB k acc ws = some (b, r) → cntL b + r.length ≤ cntL acc + ws.length) := by
  intro k
  induction k with
  | zero => exact ⟨fun ws s r h => (by rw [pS] at h; cases h), fun ws s r h => (by rw [pK] at h; cases h), fun acc ws s r h => (by rw [pB] at h; cases h)⟩
  | succ k ih =>
    obtain ⟨i1, i2, i3⟩ := ih
    refine ⟨fun ws s r h => ?_, fun ws b r h => ?_, fun acc ws b r h => ?_⟩
    · rw [pS] at h
      obtain ⟨⟨op, nm, q⟩, h1, h⟩ := Option.bind_eq_some_iff.1 h
      obtain ⟨⟨e, q2⟩, h2, h⟩ := Option.bind_eq_some_iff.1 h
      have s1 := (headS_suf h1).1
      have s2 := (rE_suf h2).1
      dsimp only at h s2
      split at h
      · obtain ⟨q3, h3, h⟩ := Option.bind_eq_some_iff.1 h
        obtain ⟨⟨e2, q4⟩, h4, h⟩ := Option.bind_eq_some_iff.1 h
        obtain ⟨q5, h5, h⟩ := Option.map_eq_some_iff.1 h
        cases h
        have s3 := (wT_suf h3).1
        have s4 := (rE_suf h4).1
        have s5 := (wT_suf h5).1
        rw [cntS_eq]
        dsimp only at s5 ⊢
        rw [cntL_nil]
        omega
      · split at h
        · obtain ⟨⟨b, q3⟩, h3, h⟩ := Option.bind_eq_some_iff.1 h
          have c3 := i2 _ _ _ h3
          dsimp only at h
          split at h
          · obtain ⟨⟨c, q4⟩, h4, h⟩ := Option.map_eq_some_iff.1 h
            have c4 := i2 _ _ _ h4
            rw [List.length_tail] at c4
            cases h
            rw [cntS_eq]
            dsimp only
            omega
          · cases h
            rw [cntS_eq]
            dsimp only
            rw [cntL_nil]
            omega
        · split at h
          · obtain ⟨⟨b, q3⟩, h3, h⟩ := Option.map_eq_some_iff.1 h
            have c3 := i2 _ _ _ h3
            cases h
            rw [cntS_eq]
            dsimp only
            rw [cntL_nil]
            omega
          · obtain ⟨q3, h3, h⟩ := Option.map_eq_some_iff.1 h
            have s3 := (wT_suf h3).1
            cases h
            rw [cntS_eq]
            dsimp only
            rw [cntL_nil]
            omega
    · rw [pK] at h
      obtain ⟨q, h1, h⟩ := Option.bind_eq_some_iff.1 h
      have s1 := (wT_suf h1).1
      have c1 := i3 _ _ _ _ h
      rw [cntL_nil] at c1
      omega
    · rw [pB] at h
      split at h
      · cases h
        rw [List.length_tail]
        omega
      · obtain ⟨⟨s, q⟩, h1, h⟩ := Option.bind_eq_some_iff.1 h
        have c1 := i1 _ _ _ h1
        have c2 := i3 _ _ _ _ h
        rw [cntL_app, cntL_cons, cntL_nil] at c2
        dsimp only at c2
        omega
theorem pF_cnt {k : Nat} {ws r : List Word_} {f : Fn_} (h : pF k ws = some (f, r)) : cntL f.body + r.length ≤ ws.length := by
  unfold pF at h
  obtain ⟨a, h1, h⟩ := Option.bind_eq_some_iff.1 h
  obtain ⟨⟨n, b⟩, h2, h⟩ := Option.bind_eq_some_iff.1 h
  obtain ⟨c, h3, h⟩ := Option.bind_eq_some_iff.1 h
  obtain ⟨⟨ps, d⟩, h4, h⟩ := Option.bind_eq_some_iff.1 h
  obtain ⟨⟨q, r'⟩, h5, h⟩ := Option.map_eq_some_iff.1 h
  cases h
  have s1 := (wT_suf h1).1
  have s2 := (nT_suf h2).1
  have s3 := (wT_suf h3).1
  have s4 := (pP_suf _ _ _ _ _ h4).1
  have s5 := (pSK_cnt k).2.1 _ _ _ h5
  dsimp only at *
  omega
theorem pG_cnt {k0 : Nat} : ∀ (k : Nat) (acc : List Fn_) (ws : List Word_) (fns : List Fn_), pG k0 k acc ws = some fns → cntF fns ≤ cntF acc + ws.length
  | 0, acc, ws, fns, h => by rw [pG] at h; cases h
  | k + 1, acc, ws, fns, h => by
    rw [pG] at h
    split at h
    · cases h; omega
    · obtain ⟨⟨f, q⟩, h1, h⟩ := Option.bind_eq_some_iff.1 h
      have c1 := pF_cnt h1
      have c2 := pG_cnt k _ _ _ h
      rw [cntF_app] at c2
      simp only [cntF] at c2
      omega
theorem read_cnt {ws : List Word_} {p : Program_} (hl : ws.length ≤ 1000) (h : rdG ws = some p.fns) (hp : progB p = true) : cntF p.fns ≤ 40 := by
  have h1 := pG_cnt 1001 [] ws p.fns h
  unfold progB at hp
  simp only [Bool.and_eq_true, decide_eq_true_iff] at hp
  have h2 := hp.2.2
  simp only [cntF] at h1
  rw [w64_id (by omega) (by omega)] at h2
  omega
end Prg
end Go.Wk
namespace Go.Wk
open Go
namespace Prg
set_option maxRecDepth 10000
theorem any_false {α : Type} (l : List α) : l.any (fun _ => false) = false := by simp
theorem eqEs_ok (ks : List Expr_) : laws_eqExprS ks ks = some true := by
  rw [laws_eqExprS, if_neg (by simp)]
  rw [forN_any (xs := ks) (body := (fun (i1_1 : Int) (xs1_1 : Unit) => (Option.bind (getI ks i1_1) fun x1_1 => Option.bind (getI ks i1_1) fun x1_2 => Option.bind (laws_eqExpr x1_1 x1_2) fun r1_1 => if !(r1_1) then some (.inr false) else some (.inl ()) : Option ((Unit) ⊕ (Bool))))) (fun _ => false) false (fun l x r he => by
    rw [he, getI_mid, Option.bind_some, Option.bind_some, eqE_ok x]; rfl), any_false]; rfl
theorem eqSs_ok : ∀ l : List Stmt_, laws_eqStmtS l l = some true := by
  intro l
  induction l using stmtsInd with
  | h l ih =>
    rw [laws_eqStmtS, if_neg (by simp)]
    rw [forN_any (xs := l) (body := (fun (i1_1 : Int) (xs1_1 : Unit) => (Option.bind (getI l i1_1) fun x1_1 => Option.bind (getI l i1_1) fun x1_2 => Option.bind (laws_eqStmt x1_1 x1_2) fun r1_1 => if !(r1_1) then some (.inr false) else some (.inl ()) : Option ((Unit) ⊕ (Bool))))) (fun _ => false) false (fun p x r he => by
      obtain ⟨h1, h2⟩ := ih x (by rw [he]; simp)
      have h3 : laws_eqStmt x x = some true := by
        rw [laws_eqStmt, if_neg (by simp), if_neg (by simp), eqEs_ok, h1, h2]; rfl
      rw [he, getI_mid, Option.bind_some, Option.bind_some, h3]; rfl), any_false]; rfl
theorem eqStr_ok (l : List Str) : laws_eqStringS l l = some true := by
  unfold laws_eqStringS
  rw [if_neg (by simp)]
  rw [forN_any (xs := l) (body := (fun (i1_1 : Int) (xs1_1 : Unit) => (Option.bind (getI l i1_1) fun x1_1 => Option.bind (getI l i1_1) fun x1_2 => if decide (x1_1 ≠ x1_2) then some (.inr false) else some (.inl ()) : Option ((Unit) ⊕ (Bool))))) (fun _ => false) false (fun p x r he => by
    rw [he, getI_mid, Option.bind_some, Option.bind_some, if_neg (by simp)]; rfl), any_false]; rfl
theorem eqP_ok (p : Program_) : laws_eqProgram p p = some true := by
  unfold laws_eqProgram laws_eqFnS
  rw [if_neg (by simp)]
  generalize p.fns = l
  rw [forN_any (xs := l) (body := (fun (i1_1 : Int) (xs1_1 : Unit) => (Option.bind (getI l i1_1) fun x1_1 => Option.bind (getI l i1_1) fun x1_2 => Option.bind (laws_eqFn x1_1 x1_2) fun r1_1 => if !(r1_1) then some (.inr false) else some (.inl ()) : Option ((Unit) ⊕ (Bool))))) (fun _ => false) false (fun q x r he => by
    have h3 : laws_eqFn x x = some true := by
      unfold laws_eqFn
      rw [if_neg (by simp), eqStr_ok, eqSs_ok]; rfl
    rw [he, getI_mid, Option.bind_some, Option.bind_some, h3]; rfl), any_false]; rfl
mutual
def szS : Stmt_ → Nat
  | ⟨_, _, a, b, e⟩ => 2 + 3 * partsL a + szL b + szL e
def szL : List Stmt_ → Nat
  | [] => 0
  | s :: l => szS s + szL l
end
theorem szS_eq (s : Stmt_) : szS s = 2 + 3 * partsL s.args + szL s.body + szL s.else_ := by cases s; rw [szS]
theorem szL_sum : ∀ l : List Stmt_, sums szS l = szL l
  | [] => by rw [szL]; rfl
  | s :: l => by
    rw [szL, ← szL_sum l]; rfl
mutual
noncomputable def mkSt : Stmt_ → Int → Stmt_
  | ⟨_, _, a, b, e⟩, k => ⟨k, mtI (k + 1), mkEs a (k + 2), mkSts b (k + 2 + 3 * (partsL a : Int)), mkSts e (k + 2 + 3 * (partsL a : Int) + szL b)⟩
noncomputable def mkSts : List Stmt_ → Int → List Stmt_
  | [], _ => []
  | s :: l, k => mkSt s k :: mkSts l (k + szS s)
end
theorem mkSt_eq (s : Stmt_) (k : Int) : mkSt s k = ⟨k, mtI (k + 1), mkEs s.args (k + 2), mkSts s.body (k + 2 + 3 * (partsL s.args : Int)), mkSts s.else_ (k + 2 + 3 * (partsL s.args : Int) + szL s.body)⟩ := by cases s; rw [mkSt]
theorem mkSts_eq : ∀ (l : List Stmt_) (k : Int), mkSts l k = mkL (fun k x => mkSt x k) szS l k
  | [], k => by rw [mkSts]; rfl
  | x :: r, k => by
    rw [mkSts, mkSts_eq r]; rfl
theorem markEs_ok (ks : List Expr_) (k : Int) (h0 : 0 ≤ k) (hB : k + 3 * partsL ks ≤ 90000) : laws_markExprS ks k = some (k + 3 * partsL ks, mkEs ks k) := markS_ok ⟨0, 0, mkS [], ks⟩ k h0 hB
theorem heldEs_ok (ks : List Expr_) (k : Int) (h0 : 0 ≤ k) (hB : k + 3 * partsL ks ≤ 90000) : laws_heldExprS (mkEs ks k) k = some (k + 3 * partsL ks) := heldS_ok ⟨0, 0, mkS [], ks⟩ k h0 hB
theorem markSs_ok : ∀ (l : List Stmt_) (k : Int), 0 ≤ k → k + szL l ≤ 90000 → laws_markStmtS l k = some (k + szL l, mkSts l k) := by
  intro l
  induction l using stmtsInd with
  | h l ih =>
    intro k hk hB
    rw [laws_markStmtS]
    have hs := szL_sum l
    rw [forN_mark2 (body := (fun (i1_1 : Int) (xs1_1 : (List Stmt_) × Int) => (Option.bind (getI xs1_1.1 i1_1) fun x1_1 => Option.bind (laws_markText (w64 (xs1_1.2 + 1))) fun r1_1 => Option.bind (laws_markExprS x1_1.args (w64 ((w64 (xs1_1.2 + 1)) + 1))) fun r1_2 => Option.bind (getI (((xs1_1.1.set (i1_1).toNat (⟨xs1_1.2, x1_1.name, x1_1.args, x1_1.body, x1_1.else_⟩ : Stmt_)).set (i1_1).toNat (⟨xs1_1.2, r1_1, x1_1.args, x1_1.body, x1_1.else_⟩ : Stmt_)).set (i1_1).toNat (⟨xs1_1.2, r1_1, r1_2.2, x1_1.body, x1_1.else_⟩ : Stmt_)) i1_1) fun x1_2 => Option.bind (laws_markStmtS x1_2.body r1_2.1) fun r1_3 => Option.bind (getI ((((xs1_1.1.set (i1_1).toNat (⟨xs1_1.2, x1_1.name, x1_1.args, x1_1.body, x1_1.else_⟩ : Stmt_)).set (i1_1).toNat (⟨xs1_1.2, r1_1, x1_1.args, x1_1.body, x1_1.else_⟩ : Stmt_)).set (i1_1).toNat (⟨xs1_1.2, r1_1, r1_2.2, x1_1.body, x1_1.else_⟩ : Stmt_)).set (i1_1).toNat (⟨x1_2.op, x1_2.name, x1_2.args, r1_3.2, x1_2.else_⟩ : Stmt_)) i1_1) fun x1_3 => Option.bind (laws_markStmtS x1_3.else_ r1_3.1) fun r1_4 => some (.inl ((((((xs1_1.1.set (i1_1).toNat (⟨xs1_1.2, x1_1.name, x1_1.args, x1_1.body, x1_1.else_⟩ : Stmt_)).set (i1_1).toNat (⟨xs1_1.2, r1_1, x1_1.args, x1_1.body, x1_1.else_⟩ : Stmt_)).set (i1_1).toNat (⟨xs1_1.2, r1_1, r1_2.2, x1_1.body, x1_1.else_⟩ : Stmt_)).set (i1_1).toNat (⟨x1_2.op, x1_2.name, x1_2.args, r1_3.2, x1_2.else_⟩ : Stmt_)).set (i1_1).toNat (⟨x1_3.op, x1_3.name, x1_3.args, x1_3.body, r1_4.2⟩ : Stmt_)), r1_4.1)) : Option (((List Stmt_) × Int) ⊕ (Empty))))) (fun k x => mkSt x k) szS 90000 hk (by omega) (fun p x r k hx hk hB => by
      obtain ⟨i1, i2⟩ := ih x hx
      have hz := szS_eq x
      have w1 : w64 (k + 1) = k + 1 := w64_id (by omega) (by omega)
      have w2 : w64 (k + 1 + 1) = k + 2 := (w64_id (by omega) (by omega)).trans (by omega)
      have hn : ((p.length : Int)).toNat = p.length := by omega
      have j1 := i1 (k + 2 + 3 * (partsL x.args : Int)) (by omega) (by omega)
      have j2 := i2 (k + 2 + 3 * (partsL x.args : Int) + szL x.body) (by omega) (by omega)
      dsimp only
      rw [getI_mid, Option.bind_some, w1, w2, mt_ok (by omega), Option.bind_some, markEs_ok x.args (k + 2) (by omega) (by omega), Option.bind_some, hn]
      simp only [set_mid]
      rw [getI_mid, Option.bind_some]
      dsimp only
      rw [j1, Option.bind_some]
      simp only [set_mid]
      rw [getI_mid, Option.bind_some]
      dsimp only
      rw [j2, Option.bind_some]
      simp only [set_mid]
      rw [mkSt_eq, hz]
      congr 3
      omega)]
    rw [hs, mkSts_eq]
    simp only [Option.bind_some, Sum.elim_inl]
theorem heldSs_ok : ∀ (l : List Stmt_) (k : Int), 0 ≤ k → k + szL l ≤ 90000 → laws_heldStmtS (mkSts l k) k = some (k + szL l) := by
  intro l
  induction l using stmtsInd with
  | h l ih =>
    intro k hk hB
    rw [laws_heldStmtS, mkSts_eq]
    generalize hm : mkL (fun k x => mkSt x k) szS l k = ms
    have hs := szL_sum l
    have hf := forN_held2 (body := (fun (i1_1 : Int) (xs1_1 : Int) => (Option.bind (getI ms i1_1) fun x1_1 => if decide (x1_1.op ≠ xs1_1) then some (.inr (-1)) else Option.bind (laws_markText (w64 (xs1_1 + 1))) fun r1_1 => if decide (x1_1.name ≠ r1_1) then some (.inr (-1)) else Option.bind (laws_heldExprS x1_1.args (w64 ((w64 (xs1_1 + 1)) + 1))) fun r1_2 => if decide (r1_2 < 0) then some (.inr (-1)) else Option.bind (laws_heldStmtS x1_1.body r1_2) fun r1_3 => if decide (r1_3 < 0) then some (.inr (-1)) else Option.bind (laws_heldStmtS x1_1.else_ r1_3) fun r1_4 => if decide (r1_4 < 0) then some (.inr (-1)) else some (.inl r1_4) : Option ((Int) ⊕ (Int))))) (fun k x => mkSt x k) szS 90000 hk (a := l) (by omega) (fun p x r j hx he hj hB => by
      obtain ⟨i1, i2⟩ := ih x hx
      have hz := szS_eq x
      have w1 : w64 (j + 1) = j + 1 := w64_id (by omega) (by omega)
      have w2 : w64 (j + 1 + 1) = j + 2 := (w64_id (by omega) (by omega)).trans (by omega)
      have j1 := i1 (j + 2 + 3 * (partsL x.args : Int)) (by omega) (by omega)
      have j2 := i2 (j + 2 + 3 * (partsL x.args : Int) + szL x.body) (by omega) (by omega)
      have hg : getI ms (p.length : Int) = some (mkSt x j) := by rw [← hm, he, getI_mid]
      have e1 : decide (j + 2 + 3 * (partsL x.args : Int) < 0) = false := by simp; omega
      have e2 : decide (j + 2 + 3 * (partsL x.args : Int) + szL x.body < 0) = false := by simp; omega
      have e3 : decide (j + 2 + 3 * (partsL x.args : Int) + szL x.body + szL x.else_ < 0) = false := by simp; omega
      rw [hg, Option.bind_some, w1, w2, mt_ok (by omega), Option.bind_some, mkSt_eq]
      dsimp only
      rw [heldEs_ok x.args (j + 2) (by omega) (by omega), Option.bind_some, e1, j1, Option.bind_some, e2, j2, Option.bind_some, e3]
      simp only [ne_eq, not_true_eq_false, decide_false, Bool.false_eq_true, if_false]
      congr 2
      omega)
    rw [hm] at hf
    rw [hf, hs]
    simp only [Option.bind_some, Sum.elim_inl]
def one1 (_ : Str) : Nat := 1
theorem sum_one : ∀ l : List Str, sums one1 l = l.length
  | [] => rfl
  | s :: l => by
    show one1 s + sums one1 l = _
    rw [sum_one l]; simp [one1]; omega
noncomputable def mkTs (l : List Str) (k : Int) : List Str := mkL (fun k _ => mtI k) one1 l k
theorem markTs_ok (l : List Str) (k : Int) (hk : 0 ≤ k) (hB : k + l.length ≤ 90000) : laws_markStringS l k = some (k + l.length, mkTs l k) := by
  unfold laws_markStringS
  have hs := sum_one l
  rw [forN_mark2 (body := (fun (i1_1 : Int) (xs1_1 : (List Str) × Int) => (Option.bind (laws_markText xs1_1.2) fun r1_1 => Option.bind (getI xs1_1.1 i1_1) fun x1_1 => some (.inl ((xs1_1.1.set (i1_1).toNat r1_1), w64 (xs1_1.2 + 1))) : Option (((List Str) × Int) ⊕ (Empty))))) (fun k _ => mtI k) one1 90000 hk (by omega) (fun p x r k hx hk hB => by
    have h1 : one1 x = 1 := rfl
    have w1 : w64 (k + 1) = k + 1 := w64_id (by omega) (by omega)
    have hn : ((p.length : Int)).toNat = p.length := by omega
    dsimp only
    rw [mt_ok (by omega), Option.bind_some, getI_mid, Option.bind_some, w1, hn, set_mid]; rfl)]
  rw [hs]; rfl
theorem heldTs_ok (l : List Str) (k : Int) (hk : 0 ≤ k) (hB : k + l.length ≤ 90000) : laws_heldStringS (mkTs l k) k = some (k + l.length) := by
  unfold laws_heldStringS mkTs
  have hs := sum_one l
  generalize hm : mkL (fun k (_ : Str) => mtI k) one1 l k = ms
  have hf := forN_held2 (body := (fun (i1_1 : Int) (xs1_1 : Int) => (Option.bind (getI ms i1_1) fun x1_1 => Option.bind (laws_markText xs1_1) fun r1_1 => if decide (x1_1 ≠ r1_1) then some (.inr (-1)) else some (.inl (w64 (xs1_1 + 1))) : Option ((Int) ⊕ (Int))))) (fun k _ => mtI k) one1 90000 hk (a := l) (by omega) (fun p x r j hx he hj hB => by
    have h1 : one1 x = 1 := rfl
    have w1 : w64 (j + 1) = j + 1 := w64_id (by omega) (by omega)
    have hg : getI ms (p.length : Int) = some (mtI j) := by rw [← hm, he, getI_mid]
    rw [hg, Option.bind_some, mt_ok (by omega), Option.bind_some, w1, if_neg (by simp)]; rfl)
  rw [hm] at hf
  rw [hf, hs]; rfl
def szF (f : Fn_) : Nat := 1 + f.params.length + szL f.body
noncomputable def mkFn (f : Fn_) (k : Int) : Fn_ := ⟨mtI k, mkTs f.params (k + 1), mkSts f.body (k + 1 + f.params.length)⟩
noncomputable def mkFs (l : List Fn_) (k : Int) : List Fn_ := mkL (fun k x => mkFn x k) szF l k
theorem markFs_ok (l : List Fn_) (k : Int) (hk : 0 ≤ k) (hB : k + sums szF l ≤ 90000) : laws_markFnS l k = some (k + sums szF l, mkFs l k) := by
  unfold laws_markFnS
  rw [forN_mark2 (body := (fun (i1_1 : Int) (xs1_1 : (List Fn_) × Int) => (Option.bind (laws_markText xs1_1.2) fun r1_1 => Option.bind (getI xs1_1.1 i1_1) fun x1_1 => Option.bind (laws_markStringS x1_1.params (w64 (xs1_1.2 + 1))) fun r1_2 => Option.bind (getI ((xs1_1.1.set (i1_1).toNat (⟨r1_1, x1_1.params, x1_1.body⟩ : Fn_)).set (i1_1).toNat (⟨r1_1, r1_2.2, x1_1.body⟩ : Fn_)) i1_1) fun x1_2 => Option.bind (laws_markStmtS x1_2.body r1_2.1) fun r1_3 => some (.inl ((((xs1_1.1.set (i1_1).toNat (⟨r1_1, x1_1.params, x1_1.body⟩ : Fn_)).set (i1_1).toNat (⟨r1_1, r1_2.2, x1_1.body⟩ : Fn_)).set (i1_1).toNat (⟨x1_2.name, x1_2.params, r1_3.2⟩ : Fn_)), r1_3.1)) : Option (((List Fn_) × Int) ⊕ (Empty))))) (fun k x => mkFn x k) szF 90000 hk hB (fun p x r k hx hk hB => by
    have hz : szF x = 1 + x.params.length + szL x.body := rfl
    have w1 : w64 (k + 1) = k + 1 := w64_id (by omega) (by omega)
    have hn : ((p.length : Int)).toNat = p.length := by omega
    dsimp only
    rw [mt_ok (by omega), Option.bind_some, getI_mid, Option.bind_some, w1, markTs_ok x.params (k + 1) (by omega) (by omega), Option.bind_some, hn]
    simp only [set_mid]
    rw [getI_mid, Option.bind_some]
    dsimp only
    rw [markSs_ok x.body _ (by omega) (by omega), Option.bind_some]
    simp only [set_mid]
    rw [hz]
    unfold mkFn
    congr 3
    omega)]
  rfl
theorem heldFs_ok (l : List Fn_) (k : Int) (hk : 0 ≤ k) (hB : k + sums szF l ≤ 90000) : laws_heldFnS (mkFs l k) k = some (k + sums szF l) := by
  unfold laws_heldFnS mkFs
  generalize hm : mkL (fun k x => mkFn x k) szF l k = ms
  have hf := forN_held2 (body := (fun (i1_1 : Int) (xs1_1 : Int) => (Option.bind (getI ms i1_1) fun x1_1 => Option.bind (laws_markText xs1_1) fun r1_1 => if decide (x1_1.name ≠ r1_1) then some (.inr (-1)) else Option.bind (laws_heldStringS x1_1.params (w64 (xs1_1 + 1))) fun r1_2 => if decide (r1_2 < 0) then some (.inr (-1)) else Option.bind (laws_heldStmtS x1_1.body r1_2) fun r1_3 => if decide (r1_3 < 0) then some (.inr (-1)) else some (.inl r1_3) : Option ((Int) ⊕ (Int))))) (fun k x => mkFn x k) szF 90000 hk (a := l) hB (fun p x r j hx he hj hB => by
    have hz : szF x = 1 + x.params.length + szL x.body := rfl
    have w1 : w64 (j + 1) = j + 1 := w64_id (by omega) (by omega)
    have hg : getI ms (p.length : Int) = some (mkFn x j) := by rw [← hm, he, getI_mid]
    have e1 : decide (j + 1 + (x.params.length : Int) < 0) = false := by simp; omega
    have e2 : decide (j + 1 + (x.params.length : Int) + szL x.body < 0) = false := by simp; omega
    rw [hg, Option.bind_some, mt_ok (by omega), Option.bind_some, w1]
    unfold mkFn
    dsimp only
    rw [heldTs_ok x.params (j + 1) (by omega) (by omega), Option.bind_some, e1, heldSs_ok x.body _ (by omega) (by omega), Option.bind_some, e2]
    simp only [ne_eq, not_true_eq_false, decide_false, Bool.false_eq_true, if_false]
    congr 2
    omega)
  rw [hm] at hf
  rw [hf]; rfl
theorem partsL_valid : ∀ {l : List Expr_}, l.all validB = true → partsL l ≤ 30 * l.length
  | [], _ => by rw [partsL_nil]; omega
  | e :: l, h => by
    simp only [List.all_cons, Bool.and_eq_true] at h
    have h1 := parts_valid h.1
    have h2 := partsL_valid h.2
    rw [partsL_cons]
    simp only [List.length_cons]
    omega
theorem sz_cnt : ∀ (d : Nat) (l : List Stmt_), l.all (formS d) = true → szL l ≤ 182 * cntL l
  | 0, [], _ => by rw [szL]; omega
  | 0, s :: l, h => by simp [formS] at h
  | d + 1, [], _ => by rw [szL]; omega
  | d + 1, s :: l, h => by
    simp only [List.all_cons, Bool.and_eq_true] at h
    have h2 := sz_cnt (d + 1) l h.2
    have h1 := h.1
    rw [formS] at h1
    simp only [Bool.and_eq_true] at h1
    obtain ⟨g1, g2, g3⟩ := h1
    have b1 := sz_cnt d s.body g2
    have b2 := sz_cnt d s.else_ g3
    unfold hdB at g1
    simp only [Bool.and_eq_true, decide_eq_true_iff] at g1
    have a1 := partsL_valid g1.2.2.2.1
    have a2 : s.args.length ≤ 2 := by
      rw [g1.2.1]
      unfold argN
      split <;> omega
    rw [szL, cntL_cons, szS_eq, cntS_eq]
    omega
theorem szF_le : ∀ {l : List Fn_}, l.all fnB = true → sums szF l ≤ 4 * l.length + 182 * cntF l
  | [], _ => by simp [sums, cntF]
  | f :: l, h => by
    simp only [List.all_cons, Bool.and_eq_true] at h
    have h2 := szF_le h.2
    have h1 := h.1
    unfold fnB at h1
    simp only [Bool.and_eq_true, decide_eq_true_iff] at h1
    have h3 := sz_cnt 4 f.body h1.2.2.2
    have h4 := h1.2.1
    have h5 : szF f = 1 + f.params.length + szL f.body := rfl
    show szF f + sums szF l ≤ _
    simp only [cntF, List.length_cons]
    omega
theorem law_readProgram (s : Str) : laws_FnExactReadProgram s = some true := by
  unfold laws_FnExactReadProgram
  by_cases h0 : decide (1048576 < (s.b.length : Int)) = true
  · rw [if_pos h0]
  rw [if_neg h0]
  obtain ⟨p, ok, h1, h2, h3⟩ := readProgram_ok s
  have hp : sums szF p.fns ≤ 10000 := by
    rcases h3 with ⟨_, h4, ws, h5, h6⟩ | ⟨_, rfl⟩
    · have h7 := read_cnt (by have := (cutR_valid h5).2; omega) h6 h4
      unfold progB at h4
      simp only [Bool.and_eq_true] at h4
      have h8 := szF_le h4.2.1
      have h9 := h4.1
      unfold inB at h9
      simp at h9
      omega
    · simp [sums, noP]
  have hm : laws_markProgram p 1 = some (1 + (sums szF p.fns : Int), mkFs p.fns 1) := by
    unfold laws_markProgram
    rw [markFs_ok p.fns 1 (by omega) (by omega)]; rfl
  have hh : laws_heldProgram ⟨mkFs p.fns 1⟩ 1 = some (1 + (sums szF p.fns : Int)) := by
    unfold laws_heldProgram
    dsimp only
    rw [heldFs_ok p.fns 1 (by omega) (by omega), Option.bind_some, if_neg (by simp; omega)]
  have e1 : decide (1 + (sums szF p.fns : Int) < 0) = false := by simp; omega
  simp only [h1, h2, Option.bind_some, eqP_ok, Bool.not_true, Bool.false_eq_true, if_false, ne_eq, not_true_eq_false, decide_false, hm, hh, e1]
end Prg
end Go.Wk
