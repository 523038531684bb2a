/- A part of the proof of FnRoundCardSaid. -/
import Derived.Test.YtjccffpccjdmgaaGreatDoorRoA
namespace Go.Wk
open Go
namespace Prg
set_option maxRecDepth 10000
theorem tok_len : ∀ (k : Nat) (l : List UInt8), l.length ≤ k → ∀ ws, tok l = some ws → ws.length ≤ l.length := by
  intro k
  induction k with
  | zero =>
    intro l hl ws h
    have : l = [] := List.eq_nil_of_length_eq_zero (by omega)
    subst this
    rw [tok_nil] at h
    cases h; simp
  | succ k ih =>
    intro l hl ws h
    cases l with
    | nil => rw [tok_nil] at h; cases h; simp
    | cons c r =>
      rw [tok_cons] at h
      simp at hl
      by_cases h1 : blkB c = true
      · rw [if_pos h1] at h
        have := ih r hl ws h
        simp; omega
      rw [if_neg h1] at h
      by_cases h2 : wordB (mkWd c (r.takeWhile (runP c))) = true
      · rw [if_pos h2] at h
        obtain ⟨ws', h3, h4⟩ := Option.map_eq_some_iff.1 h
        have hd := drop_le (runP c) r
        have := ih _ (Nat.le_trans hd hl) ws' h3
        subst h4
        simp; omega
      · rw [if_neg h2] at h; cases h
theorem cut_of {s : Str} {ws : List Word_} (h1 : s.b.length ≤ 3000) (h2 : tok s.b = some ws) (h3 : ws.length ≤ 600) : cutR s = some ws := by
  unfold cutR
  rw [if_pos h1, h2]
  simp [h3]
theorem cut_tok {s : Str} {ws : List Word_} (h : cutR s = some ws) : tok s.b = some ws := by
  unfold cutR at h
  split at h
  · rw [Option.filter_eq_some_iff] at h; exact h.1
  · cases h
theorem rd_par {ws : List Word_} {e : Expr_} (h : Rd (.E 1 ws e [])) : Rd (.E 1 (pL :: (ws ++ [pR])) e []) :=
  lift (hi := 5) (lo := 1) 4 (by omega) (by omega) (by omega) (.par rfl (rd_goes h []) rfl) fun _ _ _ => rfl
theorem read_not {s : Str} {ws : List Word_} (h : cutR s = some ws) (hb : bal ws ≠ 0) : ∃ e, impl_ReadExpr s = some (e, false) := by
  obtain ⟨e, ok, _, h2, h3⟩ := readExpr_ok s
  rcases h3 with ⟨rfl, _, ws', hc, hr⟩ | ⟨rfl, rfl⟩
  · rw [h] at hc
    cases hc
    exact absurd (rd_bal hr (cutR_valid h).1) hb
  · exact ⟨_, h2⟩
def headS : Job → Prop
  | .E _ ws _ _ => vW ws → isT ws (mkS [59]) = false
  | .L _ _ _ _ _ => True
  | .A _ _ _ => True
  | .M _ _ _ _ => True
theorem rd_headS {j : Job} (h : Rd j) : headS j := by
  induction h <;> try trivial
  case neg w ws e r hw _ _ => intro _; exact decide_eq_false (by rw [hw]; decide)
  case at_ w ws e r hw _ _ => intro _; exact decide_eq_false (by rw [hw]; decide)
  case par w ws e v r hw _ _ _ => intro _; exact decide_eq_false (by rw [hw]; decide)
  case num w r hw => intro hv; exact decide_eq_false (ne_sign (vW_head hv) (by omega) rfl (by decide))
  case var w r hw _ => intro hv; exact decide_eq_false (ne_sign (vW_head hv) (by omega) rfl (by decide))
  case call w v ws ks r hw _ _ _ => intro hv; exact decide_eq_false (ne_sign (vW_head hv) (by omega) rfl (by decide))
theorem short_len {s : Str} {ws : List Word_} {e : Expr_} (hs : shortT s) (hc : cutR s = some ws) (hr : Rd (.E 1 ws e [])) : ws.length ≤ 590 := by
  rcases hs with h | ⟨l, h⟩
  · have := tok_len _ _ (Nat.le_refl _) ws (cut_tok hc)
    omega
  · exfalso
    have ht := cut_tok hc
    have hv := (cutR_valid hc).1
    have hg := rd_headS hr hv
    have hf := take_f (run_sgn (c := 59) (by decide)) l
    rw [h, tok_cons, if_neg (by decide), hf.1, hf.2] at ht
    split at ht
    · obtain ⟨ws', _, h4⟩ := Option.map_eq_some_iff.1 ht
      subst h4
      have : (mkWd 59 []).text = mkS [59] := by
        show toS [59] = _
        exact Str.ext' (toS_b (by simp))
      unfold isT at hg
      simp [this] at hg
    · cases ht
theorem law_round (code : List UInt8) : laws_FnRound code = some true := by
  unfold laws_FnRound
  by_cases h0 : decide (1048576 < (code.length : Int)) = true
  · rw [if_pos h0]
  rw [if_neg h0]
  obtain ⟨s, hs, hsh⟩ := drawRead_ok code
  obtain ⟨e, ok, h1, h2, h3⟩ := readExpr_ok s
  rw [hs, Option.bind_some, h2, h1, Option.bind_some, Option.bind_some]
  rcases h3 with ⟨rfl, hb, ws, hc, hr⟩ | ⟨rfl, rfl⟩
  · by_cases hlen : 3000 < (s.b.length : Int) + 6
    · simp only [ne_eq, not_true_eq_false, decide_false, Bool.false_eq_true, if_false, if_true, Bool.not_true, Option.bind_some, sameSE, decide_true, hlen]
    have hl5 := short_len hsh hc hr
    have ht := cut_tok hc
    have hv := (cutR_valid hc).1
    have hbal : bal ws = 0 := rd_bal hr hv
    have w1 : wt pL = 1 := rfl
    have w2 : wt pR = -1 := rfl
    have l40 : (mkS [40]).b.length = 1 := rfl
    have l41 : (mkS [41]).b.length = 1 := rfl
    have l42 : (mkS [40, 40]).b.length = 2 := rfl
    have l43 : (mkS [41, 41]).b.length = 2 := rfl
    obtain ⟨x1, a1, b1⟩ := cat_ex (s := mkS [40]) (t := s) (by omega)
    have c1 := congrArg List.length b1
    rw [List.length_append] at c1
    obtain ⟨x2, a2, b2⟩ := cat_ex (s := x1) (t := mkS [41]) (by omega)
    have c2 := congrArg List.length b2
    rw [List.length_append] at c2
    obtain ⟨x3, a3, b3⟩ := cat_ex (s := mkS [40, 40]) (t := s) (by omega)
    have c3 := congrArg List.length b3
    rw [List.length_append] at c3
    obtain ⟨x4, a4, b4⟩ := cat_ex (s := x3) (t := mkS [41, 41]) (by omega)
    have c4 := congrArg List.length b4
    rw [List.length_append] at c4
    obtain ⟨x6, a6, b6⟩ := cat_ex (s := s) (t := mkS [41]) (by omega)
    have c6 := congrArg List.length b6
    rw [List.length_append] at c6
    have t1 : tok x1.b = some (pL :: ws) := by
      rw [b1]; show tok (40 :: s.b) = _
      rw [tok_open, ht]; rfl
    have t6 : tok x6.b = some (ws ++ [pR]) := by
      rw [b6]; show tok (s.b ++ [41]) = _
      rw [tok_close _ _ (Nat.le_refl _), ht]; rfl
    have t2 : tok x2.b = some (pL :: (ws ++ [pR])) := by
      rw [b2]; show tok (x1.b ++ [41]) = _
      rw [tok_close _ _ (Nat.le_refl _), t1]; rfl
    have t4 : tok x4.b = some (pL :: (pL :: (ws ++ [pR]) ++ [pR])) := by
      have : x4.b = 40 :: (x2.b ++ [41]) := by
        rw [b4, b3, b2, b1]
        show [40, 40] ++ s.b ++ [41, 41] = 40 :: (([40] ++ s.b ++ [41]) ++ [41])
        simp
      rw [this, tok_open, tok_close _ _ (Nat.le_refl _), t2]; rfl
    have r2 := (read_some (cut_of (by omega) t2 (by simp; omega)) (rd_par hr)).2
    rw [if_pos ⟨rfl, hb⟩] at r2
    have r4 := (read_some (cut_of (by omega) t4 (by simp; omega)) (rd_par (rd_par hr))).2
    rw [if_pos ⟨rfl, hb⟩] at r4
    obtain ⟨e1, r1⟩ := read_not (cut_of (by omega) t1 (by simp; omega)) (by rw [bal_cons, w1, hbal]; omega)
    obtain ⟨e6, r6⟩ := read_not (cut_of (by omega) t6 (by simp; omega)) (by rw [bal_app, bal_cons, w2, hbal]; show (0 : Int) + (-1 + 0) ≠ 0; omega)
    simp only [ne_eq, not_true_eq_false, decide_false, Bool.false_eq_true, if_false, if_true, Bool.not_true, Bool.not_false, Option.bind_some, sameSE, decide_true, hlen, a1, a2, a3, a4, a6, r1, r2, r4, r6, sameE]
  · simp only [ne_eq, not_true_eq_false, decide_false, Bool.false_eq_true, if_false, if_true, Bool.not_true, Bool.not_false, Option.bind_some, sameSE, decide_true]
end Prg
end Go.Wk
