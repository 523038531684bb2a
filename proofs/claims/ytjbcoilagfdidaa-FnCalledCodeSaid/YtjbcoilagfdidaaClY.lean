/- A part of the proof of FnCalledCodeSaid. -/
import Derived.Test.YtjbcoilagfdidaaClX
/- The law of CalledCode. -/
namespace Go.Wk
open Go
namespace Unt
set_option maxRecDepth 10000

def argsL (p : Int) : List Int := (List.range p.toNat).map fun (j : Nat) => (j : Int)
def addC (u : Unit_) : Code_ := ⟨(mainC u).params, (mainC u).params + 1, [⟨[], [⟨14, (mainC u).params, argsL (mainC u).params, (u.codes.length : Int) - 1⟩], 3, (mainC u).params, []⟩]⟩
def xU (u : Unit_) : Unit_ := ⟨u.codes ++ [addC u]⟩

theorem four {p : Int} (h0 : 0 ≤ p) (h3 : p ≤ 3) : p = 0 ∨ p = 1 ∨ p = 2 ∨ p = 3 := by omega
theorem argsL_ok (p : Int) (h0 : 0 ≤ p) (h3 : p ≤ 3) : forN (S := List Int) (X := Empty) (fun i xs => Option.bind (appM xs ([i] : List Int)) fun ys => some (.inl ys)) ((p : Int) - 0).toNat 0 ([] : List Int) = some (.inl (argsL p)) := by
  obtain rfl | rfl | rfl | rfl := four h0 h3 <;> rfl
theorem argsL_len {p : Int} (h0 : 0 ≤ p) : ((argsL p).length : Int) = p := by simp [argsL]; omega
theorem argsL_in {p r : Int} (h : r ∈ argsL p) : 0 ≤ r ∧ r < p := by
  simp only [argsL, List.mem_map, List.mem_range] at h
  obtain ⟨j, h1, rfl⟩ := h
  omega
theorem args_at {inn : List Int} {p : Int} (h3 : p ≤ 3) (hl : (inn.length : Int) = p) : (argsL p).map (at_ (inn ++ [0])) = inn := by
  subst hl
  rcases inn with _ | ⟨a, _ | ⟨b, _ | ⟨c, _ | ⟨d, r⟩⟩⟩⟩
  · rfl
  · rfl
  · rfl
  · rfl
  · simp at h3; omega

section
variable {α : Type}
theorem getI_app {xs ys : List α} {i : Int} (h : i < (xs.length : Int)) : getI (xs ++ ys) i = getI xs i := by
  unfold getI
  split
  · rw [List.getElem?_append_left (by omega)]
  · rfl
theorem allI_append {p : Int → α → Bool} {ys : List α} : ∀ {xs : List α} {i : Int}, allI p (xs ++ ys) i = (allI p xs i && allI p ys (i + xs.length))
  | [], i => by simp [allI]
  | x :: r, i => by
    simp only [List.cons_append, allI, allI_append (xs := r), Bool.and_assoc, List.length_cons]
    rw [show i + 1 + (r.length : Int) = i + ((r.length + 1 : Nat) : Int) by omega]
theorem allI_congr2 {p q : Int → α → Bool} : ∀ {xs : List α} {i : Int}, (∀ (j : Nat) (x : α), xs[j]? = some x → p (i + j) x = q (i + j) x) → allI p xs i = allI q xs i
  | [], _, _ => rfl
  | x :: r, i, h => by
    have h0 := h 0 x rfl
    simp only [Int.natCast_zero, Int.add_zero] at h0
    have hr : allI p r (i + 1) = allI q r (i + 1) := allI_congr2 fun j y hy => by
      have h2 := h (j + 1) y (by simpa using hy)
      rw [show i + ((j + 1 : Nat) : Int) = i + 1 + (j : Int) by omega] at h2
      exact h2
    simp only [allI, h0, hr]
theorem sums_app {f : α → Nat} {y : α} : ∀ {xs : List α}, sums f (xs ++ [y]) = sums f xs + f y
  | [] => by simp [sums]
  | x :: r => by simp only [List.cons_append, sums, sums_app (xs := r)]; omega
end

theorem insB_app {u : Unit_} {l : List Code_} {k : Int} (hk : k ≤ (u.codes.length : Int)) (c : Code_) (x : Ins_) : insB ⟨u.codes ++ l⟩ k c x = insB u k c x := by
  have : (inB x.n_ 0 (k - 1) && decide ((x.args.length : Int) = parOf ⟨u.codes ++ l⟩ x.n_)) = (inB x.n_ 0 (k - 1) && decide ((x.args.length : Int) = parOf u x.n_)) := by
    cases h : inB x.n_ 0 (k - 1) with
    | false => rfl
    | true =>
      have := inB_iff.1 h
      have e : parOf ⟨u.codes ++ l⟩ x.n_ = parOf u x.n_ := by unfold parOf; rw [getI_app (by omega)]
      rw [e]
  unfold insB
  rw [this]
theorem codeB_app {u : Unit_} {l : List Code_} {k : Int} (hk : k ≤ (u.codes.length : Int)) (c : Code_) : codeB ⟨u.codes ++ l⟩ k c = codeB u k c := by
  have h1 : insB ⟨u.codes ++ l⟩ k c = insB u k c := funext (insB_app hk c)
  have h2 : blockB ⟨u.codes ++ l⟩ k c = blockB u k c := by
    funext b x
    unfold blockB
    rw [h1]
  unfold codeB
  rw [h2]

section
variable {u : Unit_} (hu : Ok u)
include hu
theorem main_p : 0 ≤ (mainC u).params ∧ (mainC u).params ≤ 3 := ⟨(hu.cok hu.main).params.1, (hu.cok hu.main).params.2.2⟩
theorem addC_ok : codeB (xU u) (u.codes.length : Int) (addC u) = true := by
  have hp := main_p hu
  have hl := hu.codes
  have hpar : parOf (xU u) ((u.codes.length : Int) - 1) = (mainC u).params := by
    unfold parOf xU
    rw [getI_app (by omega), hu.main]
  simp only [codeB, addC, Bool.and_eq_true, inB_iff, allI, Bool.and_true]
  refine ⟨⟨by omega, by omega⟩, ⟨by omega, by omega⟩, ⟨by simp, by simp⟩, ?_⟩
  simp only [blockB, Bool.and_eq_true, decide_eq_true_eq, List.all_cons, List.all_nil, Bool.and_true]
  refine ⟨by simp [jumpN], ?_, trivial, ?_⟩
  · rw [if_neg (by decide), inB_iff]; omega
  · simp only [insB, Bool.and_eq_true, inB_iff]
    refine ⟨⟨by decide, by decide⟩, ?_, ?_, ?_⟩
    · simp only [regsB, List.all_eq_true, inB_iff]
      intro r hr
      have := argsL_in hr
      omega
    · rw [if_pos (by simp [makesB, inB])]
      rw [inB_iff]; omega
    · rw [if_pos trivial, Bool.and_eq_true, inB_iff, decide_eq_true_eq, hpar]
      exact ⟨by omega, argsL_len hp.1⟩
theorem xU_ok (h3 : (u.codes.length : Int) ≠ 4) (h8 : cntU u ≠ 800) : Ok (xU u) := by
  have hl := hu.codes
  have hv := hu.valid
  simp only [unitB, Bool.and_eq_true, decide_eq_true_eq] at hv
  refine ⟨?_, fun c hc b hb => ?_⟩
  · simp only [unitB, Bool.and_eq_true, decide_eq_true_eq]
    refine ⟨by rw [inB_iff]; simp [xU]; omega, ?_, ?_⟩
    · have e : allI (codeB (xU u)) (u.codes ++ [addC u]) 0 = true := by
        rw [allI_append, allI_congr2 (p := codeB (xU u)) (q := codeB u) (xs := u.codes) (i := 0) (fun j x hj => codeB_app (l := [addC u]) (by have := (List.getElem?_eq_some_iff.1 hj).1; omega) x), hv.2.1, Int.zero_add]
        simp only [allI, addC_ok hu, Bool.and_true]
      exact e
    · have : cntU (xU u) = cntU u + 1 := by
        unfold cntU xU
        rw [sums_app]
        rfl
      omega
  · simp only [xU, List.mem_append, List.mem_singleton] at hc
    rcases hc with hc | rfl
    · exact hu.small c hc b hb
    · simp only [addC, List.mem_singleton] at hb
      subst hb
      simp
theorem x_last : lastI (xU u) = (u.codes.length : Int) := by have _ := hu; simp [lastI, xU]
theorem x_main : mainC (xU u) = addC u := by
  unfold mainC
  rw [x_last hu]
  simp [xU]
theorem x_get {k : Int} {c : Code_} (h : getI u.codes k = some c) : getI (xU u).codes k = some c := by
  have _ := hu
  unfold xU
  rw [getI_app (getI_pos h).2, h]
variable {inn : List Int} (hf : fitsB u inn = true)
include hf
theorem inn_len : (inn.length : Int) = (mainC u).params := by
  have _ := hu
  simp only [fitsB, Bool.and_eq_true, decide_eq_true_eq] at hf
  exact hf.2.2
theorem x_init : initR (addC u) inn = inn ++ [0] := by
  have hl := inn_len hu hf
  have hp := main_p hu
  unfold initR addC
  simp only
  rw [List.take_of_length_le (by omega), show ((mainC u).params + 1).toNat - inn.length = 1 by omega]
  rfl
theorem x_fits (hx : Ok (xU u)) : fitsB (xU u) inn = true := by
  have hl := inn_len hu hf
  simp only [fitsB, Bool.and_eq_true, decide_eq_true_eq] at hf ⊢
  rw [x_main hu]
  exact ⟨hx.valid, hf.2.1, hl⟩
theorem x_run (N : Nat) : runU (xU u) inn (N + 1) = match callE (xU u) 60000 N ((u.codes.length : Int) - 1) inn (tr (xU u) (lastI (xU u)) s0 0) with
    | .done v 0 s => .stop 3 0 s
    | .done v (m + 1) s => .done v m s
    | .stop e m s => .stop e m s := by
  have hl := inn_len hu hf
  have hp := main_p hu
  unfold runU
  rw [x_main hu, x_init hu hf, exec_succ]
  have hb : blkAt (addC u) 0 = ⟨[], [⟨14, (mainC u).params, argsL (mainC u).params, (u.codes.length : Int) - 1⟩], 3, (mainC u).params, []⟩ := rfl
  rw [hb]
  simp only
  rw [runI, effI_14 _ _ rfl]
  simp only
  rw [args_at hp.2 hl]
  cases callE (xU u) 60000 N ((u.codes.length : Int) - 1) inn (tr (xU u) (lastI (xU u)) s0 0) with
  | stop e m s => rfl
  | done v m s =>
    simp only [runI]
    cases m with
    | zero => rfl
    | succ m =>
      simp only [if_true]
      congr 1
      unfold at_
      rw [List.getD_eq_getElem?_getD, List.getElem?_set_self (by simp; omega)]
      rfl
theorem run_x {n : Nat} (he : endR (runU u inn n) ≠ 3) (hr : remR (runU u inn n) = 0) (e : Nat) (hn : n + 2 + e ≤ 60000) :
    match runU u inn n with
    | .done v _ s => ∃ s', Se s s' ∧ runU (xU u) inn (n + 2 + e) = .done v e s'
    | .stop q _ s => ∃ s', Se s s' ∧ runU (xU u) inn (n + 2 + e) = .stop q (e + 1) s' := by
  have hmain := hu.main
  have hc := hu.cok hmain
  have hmo := runU_mo u inn n (1 + e)
  have hrel : Re (n + (1 + e)) (runU u inn (n + (1 + e))) (callE (xU u) 60000 (n + (1 + e)) ((u.codes.length : Int) - 1) inn (tr (xU u) (lastI (xU u)) s0 0)) := by
    unfold callE
    rw [x_get hu hmain]
    exact exec_rel hu (fun k c h => x_get hu h) 60001 _ 60000 _ _ _ 0 _ _ (by omega) (by omega) hmain (getI_of (by decide) (by have := hc.nb; omega)) (Se.tr tr_Se.symm)
  rw [show n + 2 + e = (n + (1 + e)) + 1 by omega, x_run hu hf]
  cases hq : runU u inn n with
  | done v m s =>
    rw [hq] at hmo hr
    have hr' : m = 0 := hr
    subst hr'
    have h1 : runU u inn (n + (1 + e)) = .done v (0 + (1 + e)) s := hmo
    rw [h1] at hrel
    cases hq2 : callE (xU u) 60000 (n + (1 + e)) ((u.codes.length : Int) - 1) inn (tr (xU u) (lastI (xU u)) s0 0) with
    | stop q m' s' => rw [hq2] at hrel; exact hrel.elim
    | done v' m' s' =>
      rw [hq2] at hrel
      obtain ⟨rfl, h2, _, h3⟩ := hrel
      obtain rfl : m' = e + 1 := by omega
      exact ⟨s', h3, rfl⟩
  | stop q m s =>
    rw [hq] at hmo hr he
    have hr' : m = 0 := hr
    subst hr'
    rcases hmo with ⟨_, h1⟩ | ⟨h1, _⟩
    · rw [h1] at hrel
      cases hq2 : callE (xU u) 60000 (n + (1 + e)) ((u.codes.length : Int) - 1) inn (tr (xU u) (lastI (xU u)) s0 0) with
      | done v' m' s' => rw [hq2] at hrel; exact hrel.elim
      | stop q' m' s' =>
        rw [hq2] at hrel
        obtain ⟨rfl, h2, _, h3⟩ := hrel
        obtain rfl : m' = e + 1 := by omega
        exact ⟨s', h3, rfl⟩
    · exact absurd h1 he
end

theorem loopL_add {α X : Type} {f : α → Nat} {g : Int → α → Int → Option (Int ⊕ X)} (hg : ∀ i x s, g i x s = some (.inl (w64 (s + (f x : Int))))) : ∀ (xs : List α) (i s : Int), 0 ≤ s → s + sums f xs ≤ 1000000 → loopL g xs i s = some (.inl (s + sums f xs))
  | [], i, s, _, _ => by simp [loopL, sums]
  | x :: r, i, s, h0, hb => by
    simp only [sums] at hb
    simp only [loopL, hg]
    rw [w64_id (by omega) (by omega), loopL_add hg r _ _ (by omega) (by omega)]
    simp only [sums]
    congr 2
    omega
theorem insCount_ok {u : Unit_} (hu : Ok u) : impl_InsCount u = some (cntU u : Int) := by
  unfold impl_InsCount
  have hv := hu.valid
  simp only [unitB, Bool.and_eq_true, inB_iff, decide_eq_true_eq] at hv
  rw [implValid_ok u hu.small, hu.valid, Option.bind_some]
  simp only [Bool.not_true, Bool.false_eq_true, if_false]
  rw [forN_loopL (xs := u.codes) (fun (_ : Int) (x1_1 : Code_) (xs1_1 : Int) => (some (.inl (w64 (xs1_1 + (cntC x1_1 : Int)))) : Option (Int ⊕ Empty))) (by
    intro l x r s h
    have hx : getI u.codes (l.length : Int) = some x := by rw [h, getI_mid]
    have hc := hu.cok hx
    rw [hx, Option.bind_some, count_ok x (by have := hc.nb; omega) (fun b hb => by
      have := hu.small x (by rw [h]; simp) b hb
      exact ⟨this.1, this.2.1⟩)]
    rfl)]
  rw [loopL_add (f := cntC) (fun _ _ _ => rfl) u.codes 0 0 (Int.le_refl _) (by have := hv.2.2; unfold cntU at this; omega)]
  simp [cntU]

theorem outSe {v : Int} {a b : Nat} {s s' : St} (h : Se s s') : outR (.done v a s) = outR (.done v b s') := by
  unfold outR stR endR valR
  rw [h.1, h.2]
theorem outSe' {e : Int} {a b : Nat} {s s' : St} (h : Se s s') : outR (.stop e a s) = outR (.stop e b s') := by
  unfold outR stR endR valR
  rw [h.1, h.2]

theorem lawCalled (code : List UInt8) : laws_FnCalledCode code = some true := by
  unfold laws_FnCalledCode
  by_cases hc : (1048576 : Int) < (code.length : Int)
  · rw [if_pos (by simpa using hc)]
  rw [if_neg (by simpa using hc)]
  unfold spec_DrawStepsOf
  obtain ⟨⟨u, inn, st⟩, hd, hw⟩ := drawRun_ok code
  rw [hd]
  simp only [Option.bind_some]
  have hs : Small u := W.small hw
  rw [implSteps_ok u hs, specSteps_ok u hs]
  simp only [Option.bind_some, ne_eq, not_true_eq_false, decide_false, Bool.false_eq_true, if_false]
  by_cases hn : stepsR u inn < 0
  · simp [hn]
  by_cases h4 : (u.codes.length : Int) = 4
  · simp [h4]
  simp only [hn, h4, decide_false, Bool.false_eq_true, if_false]
  -- it ends
  have hf : fitsB u inn = true := by
    cases h : fitsB u inn with
    | true => rfl
    | false => unfold stepsR at hn; rw [h] at hn; simp at hn
  have hend : endR (runU u inn 60000) ≠ 3 := fun h => by unfold stepsR at hn; rw [hf, if_pos rfl, if_pos h] at hn; omega
  have hst : stepsR u inn = 60000 - remR (runU u inn 60000) := by unfold stepsR; rw [hf, if_pos rfl, if_neg hend]
  obtain ⟨h1, h2⟩ := fits_V hf
  have hu : Ok u := ⟨h1, hs⟩
  have hrem : remR (runU u inn 60000) ≤ 60000 := (runU_GS hu h2 (Nat.le_refl _)).2.1
  obtain ⟨n, hnn⟩ : ∃ n : Nat, n + remR (runU u inn 60000) = 60000 := ⟨60000 - remR (runU u inn 60000), by omega⟩
  have hsn : stepsR u inn = (n : Int) := by omega
  rw [hsn, w64_id (n := (n : Int) + 2) (by omega) (by omega), w64_id (n := (n : Int) + 1) (by omega) (by omega)]
  by_cases h60 : (60000 : Int) < (n : Int) + 2
  · simp [h60]
  simp only [h60, decide_false, Bool.false_eq_true, if_false, insCount_ok hu, Option.bind_some]
  by_cases h8 : (cntU u : Int) = 800
  · simp [h8]
  simp only [h8, decide_false, Bool.false_eq_true, if_false]
  have hx := xU_ok hu h4 (by omega)
  have hp := main_p hu
  rw [hu.main]
  simp only [Option.bind_some]
  rw [show fitI (mainC u).params = some () by rw [fitI, if_pos (by omega)]]
  simp only [Option.bind_some]
  rw [argsL_ok _ hp.1 hp.2]
  simp only [Option.bind_some, Sum.elim_inl]
  rw [w64_id (n := (mainC u).params + 1) (by omega) (by omega)]
  have hcl := hu.codes
  rw [appM_ok (xs := ([] : List Code_)) (ys := u.codes) (by simp; omega)]
  simp only [Option.bind_some, List.nil_append]
  rw [appM_ok (by simp; omega)]
  simp only [Option.bind_some]
  change Option.bind (impl_RunUnit u inn n) (fun r0_5 => Option.bind (impl_RunUnit (xU u) inn ((n : Int) + 2)) fun r0_6 => _) = _
  rw [implRunUnit_ok u hs, implRunUnit_ok (xU u) hx.small]
  simp only [Option.bind_some]
  have hjust := runU_just (u := u) (inn := inn) (n := n) (d := remR (runU u inn 60000)) (by rw [hnn]; exact hend) (by rw [hnn])
  have e1 : runR u inn (n : Int) = (outR (runU u inn n), true) := by
    unfold runR
    rw [hf, inB_iff.2 ⟨by omega, by omega⟩, Int.toNat_natCast]; rfl
  have hxf := x_fits hu hf hx
  have e2 : runR (xU u) inn ((n : Int) + 2) = (outR (runU (xU u) inn (n + 2)), true) := by
    unfold runR
    rw [hxf, inB_iff.2 ⟨by omega, by omega⟩, show ((n : Int) + 2).toNat = n + 2 by omega]; rfl
  have hnz : NoZ (runU u inn n) := exec_noz u 60001 n _ _ _ _ _
  have r1 := run_x hu hf hjust.1 hjust.2 0 (by omega)
  have r2 := run_x hu hf hjust.1 hjust.2 (60000 - (n + 2)) (by omega)
  rw [show n + 2 + (60000 - (n + 2)) = 60000 by omega] at r2
  rw [Nat.add_zero] at r1
  rw [e1, e2]
  change Option.bind _ (fun s0_3 => Option.bind (if true = true then if true = true then Option.bind (impl_SameOutcome (outR (runU (xU u) inn (n + 2))) (outR (runU u inn n))) fun r1_3 => if r1_3 then Option.bind (impl_StepsOf (xU u) inn) fun r1_4 => some (decide (r1_4 = s0_3)) else some false else some false else some false : Option Bool) fun s0_4 => some s0_4) = _
  rw [implSteps_ok (xU u) hx.small, sameOut_ok]
  have hsx : stepsR (xU u) inn = if endR (runU (xU u) inn 60000) = 3 then (-1 : Int) else 60000 - (remR (runU (xU u) inn 60000) : Int) := by unfold stepsR; rw [hxf, if_pos rfl]
  rw [hsx]
  cases hq : runU u inn n with
  | done v m s =>
    rw [hq] at r1 r2
    obtain ⟨s1, q1, q2⟩ := r1
    obtain ⟨s2, q3, q4⟩ := r2
    rw [q2, q4, outSe (a := m) (b := 0) q1]
    have e3 : (outR (.done v 0 s1)).end_ = 0 := rfl
    rw [e3]
    simp only [endR, remR]
    simp
    omega
  | stop e m s =>
    rw [hq] at r1 r2 hnz hjust
    obtain ⟨s1, q1, q2⟩ := r1
    obtain ⟨s2, q3, q4⟩ := r2
    rw [q2, q4, outSe' (a := m) (b := 0 + 1) q1]
    have e3 : (outR (.stop e (0 + 1) s1)).end_ = e := rfl
    rw [e3]
    have hne : e ≠ 0 := hnz
    have h3 : e ≠ 3 := hjust.1
    simp only [endR, remR]
    simp [hne, h3]
    omega
end Unt
end Go.Wk
