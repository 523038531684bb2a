/- A part of the proof of FnExactCleanUnitSaid. -/
import Derived.Test.YtabgclojkbijbaaGreatCeA
namespace Go.Wk
open Go
namespace Unt
set_option maxRecDepth 10000
section
variable {u : Unit_} {k : Int} {c : Code_} (hck : COk u k c)
include hck
theorem once_nd {b : Int} {x : Block_} (hx : getI c.blocks b = some x) : ∃ l, impl_once x.next_ = some l ∧ l.Nodup ∧ ∀ y, y ∈ l ↔ y ∈ x.next_ := by
 have hgo : ∀ l : List Int, l.length ≤ 2 → l.Nodup → ∃ l', impl_once l = some l' ∧ l'.Nodup ∧ ∀ y, y ∈ l' ↔ y ∈ l := fun l hl hn => by
  unfold impl_once
  rw [cloneInt_ok _ (by omega), Option.bind_some, compact_id (sortI_strict hn)]
  exact ⟨_, rfl, (sortI_strict hn).imp fun h => by omega, fun y => sortI_mem⟩
 rcases next_shape hck hx with e | ⟨p, e⟩ | ⟨p, e⟩ | ⟨p, q, hpq, e⟩
 ·rw [e]; exact hgo [] (by simp) .nil
 ·rw [e]; exact hgo [p] (by simp) (by simp)
 ·rw [e]
  unfold impl_once
  rw [cloneInt_ok _ (by simp), Option.bind_some, compact_twice]
  exact ⟨_, rfl, by simp, fun y => by simp⟩
 ·rw [e]; exact hgo [p, q] (by simp) (by simp [hpq])
end
def nxJ (c : Code_) (b : Int) : Int :=
 if (blkD c b).jump ≠ 1 then -1 else if toOf c b = b ∨ 0 < (blkD c (toOf c b)).phis.length ∨ (predsL c (toOf c b)).length ≠ 1 then -1 else toOf c b
section
variable {u : Unit_} {k : Int} {c : Code_} (hck : COk u k c) (hsm : ∀ b ∈ c.blocks, SmB b)
include hck
theorem implNx_ok {b : Int} {x : Block_} (hx : getI c.blocks b = some x) : impl_joinNext c b = some (nxJ c b) := by
 have hnb := hck.nb
 have hxd := blkD_get hx
 unfold impl_joinNext nxJ
 rw [hx, Option.bind_some, hxd]
 by_cases hj : x.jump = 1
 ·obtain ⟨g1, _, g3, g4⟩ := to_get hck hx hj
  obtain ⟨y, hy, _⟩ := getI_in (xs := c.blocks) (j := toOf c b) (by omega) g4
  have hyd := blkD_get hy
  have hp := preds_ok c (toOf c b) (by omega) (inB_iff.2 (by omega))
  have hz : ¬ toOf c b = 0 := by omega
  simp only [hj, ne_eq, not_true_eq_false, decide_false, Bool.false_eq_true, if_false, g1, Option.bind_some, hz]
  by_cases a1 : toOf c b = b
  ·simp [a1]
  simp only [a1, decide_false, Bool.false_eq_true, if_false, hy, Option.bind_some, hyd, false_or]
  by_cases a2 : 0 < y.phis.length
  ·have a2' : (0 : Int) < (y.phis.length : Int) := by omega
   simp [a2, a2']
  have a2' : ¬ (0 : Int) < (y.phis.length : Int) := by omega
  simp only [a2', decide_false, Bool.false_eq_true, if_false, hp, Option.bind_some, a2, false_or]
  by_cases a3 : (predsL c (toOf c b)).length = 1
  ·have a3' : ((predsL c (toOf c b)).length : Int) = 1 := by omega
   simp [a3]
  ·have a3' : ¬ ((predsL c (toOf c b)).length : Int) = 1 := by omega
   simp [a3, a3']
 ·simp [hj]
include hsm
theorem specNx_ok {b : Int} {x : Block_} (hx : getI c.blocks b = some x) : spec_l18Next c b = some (nxJ c b) := by
 have hnb := hck.nb
 have hxd := blkD_get hx
 unfold spec_l18Next nxJ
 rw [hx, Option.bind_some, hxd]
 by_cases hj : x.jump = 1
 ·obtain ⟨g1, _, g3, g4⟩ := to_get hck hx hj
  obtain ⟨y, hy, _⟩ := getI_in (xs := c.blocks) (j := toOf c b) (by omega) g4
  have hyd := blkD_get hy
  have hp : spec_l7Preds c (toOf c b) = some (predsL c (toOf c b)) := l7Preds_ok c _ (by omega) fun y hy => (hsm y hy).next
  have hz : ¬ toOf c b = 0 := by omega
  simp only [hj, ne_eq, not_true_eq_false, decide_false, Bool.false_eq_true, if_false, g1, Option.bind_some, hz]
  by_cases a1 : toOf c b = b
  ·simp [a1]
  simp only [a1, decide_false, Bool.false_eq_true, if_false, hy, Option.bind_some, hyd, false_or]
  by_cases a2 : 0 < y.phis.length
  ·have a2' : (0 : Int) < (y.phis.length : Int) := by omega
   simp [a2, a2']
  have a2' : ¬ (0 : Int) < (y.phis.length : Int) := by omega
  simp only [a2', decide_false, Bool.false_eq_true, if_false, hp, Option.bind_some, a2, false_or]
  by_cases a3 : (predsL c (toOf c b)).length = 1
  ·have a3' : ((predsL c (toOf c b)).length : Int) = 1 := by omega
   simp [a3]
  ·have a3' : ¬ ((predsL c (toOf c b)).length : Int) = 1 := by omega
   simp [a3, a3']
 ·simp [hj]
omit hsm in
theorem nxJ_jn {b : Nat} {x : Block_} (hx : getI c.blocks (b : Int) = some x) (hn : ¬ nxJ c (b : Int) < 0) : ∃ n Y, nxJ c (b : Int) = ((n : Nat) : Int) ∧ Jn c b n x Y := by
 have hxd := blkD_get hx
 unfold nxJ at hn ⊢
 rw [hxd] at hn ⊢
 by_cases hj : x.jump = 1
 ·obtain ⟨g1, g2, g3, g4⟩ := to_get hck hx hj
  obtain ⟨y, hy, _⟩ := getI_in (xs := c.blocks) (j := toOf c b) (by omega) g4
  have hyd := blkD_get hy
  simp only [hj, ne_eq, not_true_eq_false, if_false] at hn ⊢
  split at hn
  ·omega
  ·rename_i hc
   rw [if_neg hc]
   simp only [not_or, ne_eq, Classical.not_not] at hc
   obtain ⟨c1, c2, c3⟩ := hc
   rw [hyd] at c2
   have hto : ((toOf c (b : Int)).toNat : Int) = toOf c (b : Int) := by omega
   refine ⟨(toOf c (b : Int)).toNat, y, hto.symm, ⟨by simpa using (getI_some.1 hx).2, (getI_some.1 hy).2, by omega, by omega, hj, by rw [hto]; exact g2, List.length_eq_zero_iff.1 (by omega), ?_⟩⟩
   rw [hto]
   obtain ⟨p, hp⟩ := List.length_eq_one_iff.1 c3
   have : (b : Int) ∈ predsL c (toOf c (b : Int)) := predsL_iff.2 ⟨x, hx, by rw [g2]; simp⟩
   rw [hp] at this ⊢
   simp at this
   rw [this]
 ·simp [hj] at hn
end
def upJ (k b : Int) (M : MapS Int) : MapS Int := MapS.del (MapS.ins M k ((MapS.get M b).getD 0)) b
theorem upJ_get (k b r : Int) (M : MapS Int) : (upJ k b M).get r = if r = b then none else if r = k then some ((M.get b).getD 0) else M.get r := by
 unfold upJ
 rw [get_del, get_ins]
section
variable {u : Unit_} {k : Int} {c : Code_} (hck : COk u k c) (hsm : ∀ b ∈ c.blocks, SmB b) {b n : Nat} {X Y : Block_} (h : Jn c b n X Y)
include hck hsm h
omit hsm in
theorem turnP {P : List (List (MapS Int))} (hl : P.length = c.blocks.length) (hP : ∀ b x, getI c.blocks b = some x → ∃ ms, getI P b = some ms ∧ BysOk c b x.phis ms) {l : List Int} (hnd : l.Nodup) (hm : ∀ y, y ∈ l ↔ y ∈ Y.next_) :
  ∃ P', forN (fun (i4_1 : Int) (xs4_1 : (List (List (MapS Int)))) => (Option.bind (getI l i4_1) fun x4_1 => Option.bind (getI xs4_1 x4_1) fun x4_2 => Option.bind (forN (S := (List (MapS Int))) (X := Empty) (fun i5_1 xs5_1 => Option.bind (getI xs5_1 i5_1) fun x5_1 => Option.bind (neM x5_1) fun u5_1 => some (.inl (xs5_1.set (i5_1).toNat (MapS.del (MapS.ins x5_1 (b:Int) ((MapS.get x5_1 (n:Int)).getD 0)) (n:Int))))) (((x4_2.length : Int) : Int) - 0).toNat 0 x4_2) (Sum.elim (fun xs4_2 => some (.inl (xs4_1.set (x4_1).toNat xs4_2))) (fun (e0 : Empty) => nomatch e0)) : Option (((List (List (MapS Int)))) ⊕ (Empty)))) (((l.length : Int) : Int) - 0).toNat 0 P = some (.inl P') ∧ P'.length = P.length ∧ ∀ (m : Nat) ms, P[m]? = some ms → P'[m]? = some (if (m : Int) ∈ Y.next_ then ms.map (upJ (b : Int) (n : Int)) else ms) := by
 have hYb := hck.bok (getI_some.2 ⟨by omega, by simpa using h.hY⟩ : getI c.blocks (n : Int) = some Y)
 rcases forN_list (xs := l) (body := (fun (i4_1 : Int) (xs4_1 : (List (List (MapS Int)))) => (Option.bind (getI l i4_1) fun x4_1 => Option.bind (getI xs4_1 x4_1) fun x4_2 => Option.bind (forN (S := (List (MapS Int))) (X := Empty) (fun i5_1 xs5_1 => Option.bind (getI xs5_1 i5_1) fun x5_1 => Option.bind (neM x5_1) fun u5_1 => some (.inl (xs5_1.set (i5_1).toNat (MapS.del (MapS.ins x5_1 (b:Int) ((MapS.get x5_1 (n:Int)).getD 0)) (n:Int))))) (((x4_2.length : Int) : Int) - 0).toNat 0 x4_2) (Sum.elim (fun xs4_2 => some (.inl (xs4_1.set (x4_1).toNat xs4_2))) (fun (e0 : Empty) => nomatch e0)) : Option (((List (List (MapS Int)))) ⊕ (Empty))))) (s := P) (fun pre P' => P'.length = P.length ∧ ∀ (m : Nat) ms, P[m]? = some ms → P'[m]? = some (if (m : Int) ∈ pre then ms.map (upJ (b : Int) (n : Int)) else ms)) (fun _ => False) ⟨rfl, fun m ms hms => by simpa using hms⟩ (fun pre to post P' he hI => by
  obtain ⟨i1, i2⟩ := hI
  have htom : to ∈ Y.next_ := (hm to).1 (by rw [he]; simp)
  have htor := hYb.next to htom
  obtain ⟨x, hx, hx2, _⟩ := getI_in (xs := c.blocks) (j := to) (by omega) htor.2
  obtain ⟨ms, hms, hb1, hb2⟩ := hP to x hx
  obtain ⟨m0, hms2⟩ := getI_some.1 hms
  have hnp : to ∉ pre := fun hp => by
   rw [he] at hnd
   exact (List.nodup_append.1 hnd).2.2 to hp to (by simp) rfl
  have hcur := i2 to.toNat ms hms2
  rw [show ((to.toNat : Nat) : Int) = to by omega, if_neg hnp] at hcur
  have hin := updLoop (xs := ms) (body := (fun (i5_1 : Int) (xs5_1 : (List (MapS Int))) => (Option.bind (getI xs5_1 i5_1) fun x5_1 => Option.bind (neM x5_1) fun u5_1 => some (.inl (xs5_1.set (i5_1).toNat (MapS.del (MapS.ins x5_1 (b:Int) ((MapS.get x5_1 (n:Int)).getD 0)) (n:Int)))) : Option (((List (MapS Int))) ⊕ (Empty))))) (upJ (b : Int) (n : Int)) (fun lq M r hMm => by
   obtain ⟨q, hq⟩ := List.getElem?_of_mem hMm
   have hql := (List.getElem?_eq_some_iff.1 hq).1
   have hf := List.getElem?_eq_getElem (l := x.phis) (i := q) (by omega)
   have hby := hb2 q _ M hf hq (n : Int) (h.oldN.2 htom)
   have hg : M.get (n : Int) = some _ := (lookM_some M.nodup).2 hby
   rw [getI_mid, Option.bind_some, neM_get hg, Option.bind_some, Int.toNat_natCast, set_mid]
   rfl)
  refine .inl ⟨P'.set to.toNat (ms.map (upJ (b : Int) (n : Int))), ?_, by simpa using i1, fun m ms' hms' => ?_⟩
  ·rw [show getI l (pre.length : Int) = some to by rw [he]; exact getI_mid, Option.bind_some, show getI P' to = some ms from getI_some.2 ⟨m0, hcur⟩, Option.bind_some]
   exact bindt hin rfl
  ·by_cases e : m = to.toNat
   ·subst e
    rw [hms2] at hms'; cases hms'
    rw [List.getElem?_set_self (by rw [i1]; exact (List.getElem?_eq_some_iff.1 hms2).1), if_pos (by simp; right; omega)]
   ·rw [List.getElem?_set_ne (Ne.symm e), i2 m ms' hms']
    have : (m : Int) ∈ pre ++ [to] ↔ (m : Int) ∈ pre := by
     simp only [List.mem_append, List.mem_singleton]
     constructor
     ·rintro (e2 | e2)
      ·exact e2
      ·omega
     ·exact .inl
    simp only [this]) with ⟨P', e1, e2, e3⟩ | ⟨_, _, e⟩
 ·refine ⟨P', e1, e2, fun m ms hms => ?_⟩
  rw [e3 m ms hms]
  simp only [hm]
 ·exact e.elim
theorem stepI {xs : List Block_} (hxs : xs = c.blocks) : (fun (i3_1 : Int) (xs3_1 : Unit) => (Option.bind (impl_joinNext (⟨(c.params,c.regs,c.blocks).1, (c.params,c.regs,c.blocks).2.1, (c.params,c.regs,c.blocks).2.2⟩ : Code_) i3_1) fun r3_1 => if decide (r3_1 < 0) then some (.inl ()) else Option.bind (impl_phisOf (⟨(c.params,c.regs,c.blocks).1, (c.params,c.regs,c.blocks).2.1, (c.params,c.regs,c.blocks).2.2⟩ : Code_)) fun r3_2 => Option.bind (getI (c.params,c.regs,c.blocks).2.2 i3_1) fun x3_1 => Option.bind (getI (c.params,c.regs,c.blocks).2.2 r3_1) fun x3_2 => Option.bind (neI i3_1 r3_1) fun u3_1 => Option.bind (appM x3_1.ins x3_2.ins) fun ys3_1 => Option.bind (impl_once x3_2.next_) fun r3_3 => Option.bind (forN (S := (List (List (MapS Int)))) (X := Empty) (fun i4_1 xs4_1 => Option.bind (getI r3_3 i4_1) fun x4_1 => Option.bind (getI xs4_1 x4_1) fun x4_2 => Option.bind (forN (S := (List (MapS Int))) (X := Empty) (fun i5_1 xs5_1 => Option.bind (getI xs5_1 i5_1) fun x5_1 => Option.bind (neM x5_1) fun u5_1 => some (.inl (xs5_1.set (i5_1).toNat (MapS.del (MapS.ins x5_1 i3_1 ((MapS.get x5_1 r3_1).getD 0)) r3_1)))) (((x4_2.length : Int) : Int) - 0).toNat 0 x4_2) (Sum.elim (fun xs4_2 => some (.inl (xs4_1.set (x4_1).toNat xs4_2))) (fun (e0 : Empty) => nomatch e0))) (((r3_3.length : Int) : Int) - 0).toNat 0 r3_2) (Sum.elim (fun xs3_2 => Option.bind (impl_settle (⟨(c.params,c.regs,c.blocks).1, (c.params,c.regs,c.blocks).2.1, (((c.params,c.regs,c.blocks).2.2.set (r3_1).toNat (⟨[], [], 1, 0, ([r3_1] : List Int)⟩ : Block_)).set (i3_1).toNat (⟨x3_1.phis, ys3_1, x3_2.jump, x3_2.on, x3_2.next_⟩ : Block_))⟩ : Code_) xs3_2) fun r3_5 => some (.inr (r3_5.params, r3_5.regs, r3_5.blocks))) (fun (e0 : Empty) => nomatch e0)) : Option ((Unit) ⊕ (Int × Int × (List Block_))))) (b : Int) () = some (.inr ((jnC c b n X Y).params, (jnC c b n X Y).regs, (jnC c b n X Y).blocks)) := by
 have hnb := hck.nb
 have hlb := h.lb; have hln := h.ln
 have hXg : getI c.blocks (b : Int) = some X := getI_some.2 ⟨by omega, by simpa using h.hX⟩
 have hYg : getI c.blocks (n : Int) = some Y := getI_some.2 ⟨by omega, by simpa using h.hY⟩
 have hnx : nxJ c (b : Int) = (n : Int) := by
  obtain ⟨g1, g2, g3, g4⟩ := to_get hck hXg h.jX
  have e : toOf c (b : Int) = (n : Int) := by
   have := h.xn
   rw [g2] at this
   simpa using this
  unfold nxJ
  rw [blkD_get hXg, e, blkD_get hYg, h.pr, h.ph]
  have := h.ne
  have h1 : ¬ (n : Int) = (b : Int) := by omega
  simp [h.jX, h1]
 obtain ⟨P, p1, p2, p3⟩ := phisOf_ok2 hck hsm
 obtain ⟨l, l1, l2, l3⟩ := once_nd hck hYg
 obtain ⟨P', q1, q2, q3⟩ := turnP hck h p2 p3 l2 l3
 have hsX := hsm X (List.mem_of_getElem? h.hX)
 have hsY := hsm Y (List.mem_of_getElem? h.hY)
 have hXi := hsX.ins; have hYi := hsY.ins
 have hset := settleJ (c := c) (xs := jn c.blocks b n X Y) (G := gJ c b n X Y) (P := P') (by rw [jn_len]; omega) (fun m y hy => by
  rw [h.get] at hy
  have hgen : ∀ x, c.blocks[m]? = some x → m ≠ n → ∀ ph, ph = x.phis → ∃ ms, P'[m]? = some ms ∧ ms.length = ph.length ∧ ∀ (q : Nat) f M, ph[q]? = some f → ms[q]? = some M → (predsL (wZ c (jn c.blocks b n X Y)) (m : Int)).map (fun p => (M.get p).getD 0) = gJ c b n X Y (m : Int) f := fun x hx hmn ph hph => by
   subst hph
   obtain ⟨ms, m1, m2, m3⟩ := p3 (m : Int) x (getI_some.2 ⟨by omega, by simpa using hx⟩)
   have m1' : P[m]? = some ms := by simpa using (getI_some.1 m1).2
   have hgetO : ∀ (q : Nat) f M, x.phis[q]? = some f → ms[q]? = some M → ∀ p ∈ predsL c (m : Int), M.get p = some (at_ f.args (idx p (predsL c (m : Int)) 0)) := fun q f M hf hM p hp => (lookM_some M.nodup).2 (m3 q f M hf hM p hp)
   refine ⟨_, q3 m ms m1', ?_, fun q f M' hf hM' => ?_⟩
   ·split <;> simp [m2]
   ·unfold gJ
    refine List.map_congr_left fun j hj => ?_
    have hsrc := h.srcP (m := (m : Int)) (by omega) hj
    by_cases hyn : (m : Int) ∈ Y.next_
    ·rw [if_pos hyn, List.getElem?_map] at hM'
     obtain ⟨M, hM, rfl⟩ := Option.map_eq_some_iff.1 hM'
     rw [upJ_get]
     unfold srcJ at hsrc ⊢
     have hjn : j ≠ (n : Int) := fun e => by
      subst e
      rcases h.newP.1 hj with ⟨e, _⟩ | ⟨_, e⟩ | ⟨_, e, _⟩
      ·have := h.ne; omega
      ·omega
      ·exact e rfl
     rw [if_neg hjn]
     by_cases e : j = (b : Int)
     ·rw [if_pos e] at hsrc ⊢
      rw [if_pos e, hgetO q f M hf hM _ hsrc]; rfl
     ·rw [if_neg e] at hsrc ⊢
      rw [if_neg e, hgetO q f M hf hM _ hsrc]; rfl
    ·rw [if_neg hyn] at hM'
     unfold srcJ at hsrc ⊢
     have e : j ≠ (b : Int) := fun e => by
      subst e
      rw [h.same (by omega) hyn] at hj
      have := h.oldB.1 hj
      omega
     rw [if_neg e] at hsrc ⊢
     rw [hgetO q f M' hf hM' _ hsrc]; rfl
  split at hy
  ·rename_i e
   cases hy
   subst e
   exact hgen X h.hX h.ne _ rfl
  ·split at hy
   ·rename_i e e2
    cases hy
    subst e2
    obtain ⟨ms, m1, m2, m3⟩ := p3 (m : Int) Y hYg
    have m1' : P[m]? = some ms := by simpa using (getI_some.1 m1).2
    refine ⟨_, q3 m ms m1', ?_, fun q f M hf => by simp [jnN] at hf⟩
    rw [if_neg h.yn, m2, h.ph]; rfl
   ·rename_i e e2
    exact hgen y hy e2 _ rfl)
 dsimp only
 refine bindt (implNx_ok hck hXg) ?_
 rw [hnx, if_neg (by simp)]
 refine bindt p1 ?_
 rw [hXg, Option.bind_some, hYg, Option.bind_some]
 refine bindt (a := ()) (by unfold neI; rw [if_neg (by have := h.ne; omega)]) ?_
 rw [appM_ok (by omega), Option.bind_some]
 refine bindt l1 (bindt q1 ?_)
 rw [Sum.elim_inl]
 refine bindt (a := jnC c b n X Y) ?_ rfl
 exact hset
end
end Unt
end Go.Wk
namespace Go.Wk
open Go
namespace Unt
set_option maxRecDepth 10000
def somS (G : Int → Phi_ → List Int) (xs : List Block_) (pre : List Int) : List Block_ := xs.mapIdx fun j y => if (j : Int) ∈ pre then finS G j y else y
section
variable {c : Code_} {xs : List Block_} {G : Int → Phi_ → List Int}
theorem somS_len {pre : List Int} : (somS G xs pre).length = xs.length := by simp [somS]
theorem somS_get {pre : List Int} {j : Nat} {y : Block_} (h : xs[j]? = some y) : (somS G xs pre)[j]? = some (if (j : Int) ∈ pre then finS G j y else y) := by
 unfold somS; rw [List.getElem?_mapIdx, h]; rfl
theorem somS_nil : somS G xs [] = xs := by
 apply List.ext_getElem?
 intro j
 unfold somS
 rw [List.getElem?_mapIdx]
 cases xs[j]? <;> simp
theorem next_somS {pre : List Int} : (somS G xs pre).map (·.next_) = xs.map (·.next_) := by
 apply List.ext_getElem?
 intro j
 rw [List.getElem?_map, List.getElem?_map]
 unfold somS
 rw [List.getElem?_mapIdx]
 cases xs[j]? with
 | none => rfl
 | some z =>
  simp only [Option.map_some]
  split <;> rfl
theorem somS_add {pre : List Int} {t : Nat} {y : Block_} (h : xs[t]? = some y) (hn : (t : Int) ∉ pre) : (somS G xs pre).set t (finS G t y) = somS G xs (pre ++ [(t : Int)]) := by
 have ht := (List.getElem?_eq_some_iff.1 h).1
 apply List.ext_getElem?
 intro j
 by_cases e : t = j
 ·subst e
  rw [List.getElem?_set_self (by rw [somS_len]; exact ht), somS_get h, if_pos (by simp)]
 ·rw [List.getElem?_set_ne e]
  unfold somS
  rw [List.getElem?_mapIdx, List.getElem?_mapIdx]
  have : (j : Int) ∈ pre ++ [(t : Int)] ↔ (j : Int) ∈ pre := by
   simp only [List.mem_append, List.mem_singleton]
   constructor
   ·rintro (h | h)
    ·exact h
    ·omega
   ·exact .inl
  simp only [this]
theorem somS_old {pre : List Int} {t : Int} (h : t ∈ pre) : somS G xs (pre ++ [t]) = somS G xs pre := by
 unfold somS
 have : ∀ j : Nat, ((j : Int) ∈ pre ++ [t]) ↔ ((j : Int) ∈ pre) := fun j => by
  simp only [List.mem_append, List.mem_singleton]
  constructor
  ·rintro (h' | h')
   ·exact h'
   ·rw [h']; exact h
  ·exact .inl
 simp only [this]
end
section
variable {u : Unit_} {k : Int} {c : Code_} (hck : COk u k c) (hsm : ∀ b ∈ c.blocks, SmB b) {b n : Nat} {X Y : Block_} (h : Jn c b n X Y)
include hck hsm h
omit hsm in
theorem Jn.som_all : somS (gJ c b n X Y) (jn c.blocks b n X Y) Y.next_ = stS (gJ c b n X Y) (jn c.blocks b n X Y) := by
 apply List.ext_getElem?
 intro m
 unfold somS stS
 rw [List.getElem?_mapIdx, List.getElem?_mapIdx]
 cases hy : (jn c.blocks b n X Y)[m]? with
 | none => rfl
 | some y =>
  simp only [Option.map_some]
  by_cases e : (m : Int) ∈ Y.next_
  ·rw [if_pos e]
  ·rw [if_neg e]
   congr 1
   have hgen : ∀ x, c.blocks[m]? = some x → m ≠ n → ∀ f ∈ x.phis, phS (gJ c b n X Y) (m : Int) f = f := fun x hx hm f hf => by
    have hl := ((hck.bok (getI_some.2 ⟨by omega, by simpa using hx⟩ : getI c.blocks (m : Int) = some x)).phis f hf).2.2.1
    unfold phS
    rw [h.gSame (by omega) e hl]
   have hfin : ∀ ph : List Phi_, (∀ f ∈ ph, phS (gJ c b n X Y) (m : Int) f = f) → ph.map (phS (gJ c b n X Y) (m : Int)) = ph := fun ph hp => by
    conv => rhs; rw [← List.map_id ph]
    exact List.map_congr_left hp
   rw [h.get] at hy
   split at hy
   ·rename_i e1
    cases hy
    subst e1
    unfold finS
    show jnB X Y = ⟨X.phis.map _, _, _, _, _⟩
    rw [hfin X.phis (hgen X h.hX h.ne)]; rfl
   ·split at hy
    ·cases hy; rfl
    ·rename_i e1 e2
     unfold finS
     rw [hfin _ (hgen y hy e2)]
theorem wayS {pre : List Int} {to : Int} {y : Block_} (hto : to ∈ Y.next_) (hty : (jn c.blocks b n X Y)[to.toNat]? = some y) (hn : to ∉ pre) :
  loopM (fun (xs5_1 : (List Block_) × Int) => (Option.bind (getI xs5_1.1 to) fun x5_1 => if decide (xs5_1.2 < ((x5_1.phis.length : Int))) then Option.bind (forN (S := (List Int)) (X := Empty) (fun i6_1 xs6_1 => Option.bind (getI (predsL (wZ c (jn c.blocks b n X Y)) to) i6_1) fun x6_1 => Option.bind (if decide (x6_1 = (b:Int)) then some (n:Int) else some x6_1 : Option (Int)) fun s6_1 => Option.bind (getI c.blocks to) fun x6_2 => Option.bind (getI x6_2.phis xs5_1.2) fun x6_3 => Option.bind (spec_l10At (predsL c to) s6_1) fun r6_1 => Option.bind (getI x6_3.args r6_1) fun x6_4 => Option.bind (appM xs6_1 ([x6_4] : List Int)) fun ys6_1 => some (.inl ys6_1)) ((((predsL (wZ c (jn c.blocks b n X Y)) to).length : Int) : Int) - 0).toNat 0 ([] : List Int)) (Sum.elim (fun xs5_2 => Option.bind (getI xs5_1.1 to) fun x5_2 => Option.bind (getI x5_2.phis xs5_1.2) fun x5_3 => some (.inl ((xs5_1.1.set (to).toNat (⟨(x5_2.phis.set (xs5_1.2).toNat (⟨x5_3.to, xs5_2⟩ : Phi_)), x5_2.ins, x5_2.jump, x5_2.on, x5_2.next_⟩ : Block_)), w64 (xs5_1.2 + 1)))) (fun (e0 : Empty) => nomatch e0)) else some (.inr xs5_1.1) : Option (((List Block_) × Int) ⊕ ((List Block_))))) (somS (gJ c b n X Y) (jn c.blocks b n X Y) pre, 0) = some (somS (gJ c b n X Y) (jn c.blocks b n X Y) (pre ++ [to])) := by
 have hnb := hck.nb
 have hYb := hck.bok (getI_some.2 ⟨by omega, by simpa using h.hY⟩ : getI c.blocks (n : Int) = some Y)
 have htor := hYb.next to hto
 have htn : to ≠ (n : Int) := fun e => h.yn (by rw [← e]; exact hto)
 have htt : ((to.toNat : Nat) : Int) = to := by omega
 obtain ⟨x, hx, hx2, hxm⟩ := getI_in (xs := c.blocks) (j := to) (by omega) htor.2
 have hph : y.phis = x.phis := by
  rw [h.get] at hty
  split at hty
  ·rename_i e
   cases hty
   rw [e, h.hX] at hx2
   cases hx2; rfl
  ·rw [if_neg (by omega), hx2] at hty
   cases hty; rfl
 have hsx := hsm x hxm
 have hxb := hck.bok hx
 generalize hJ : jn c.blocks b n X Y = J at *
 generalize hGe : gJ c b n X Y = G at *
 have hjl : J.length = c.blocks.length := by rw [← hJ]; exact jn_len
 have hlz : (somS G J pre).length = c.blocks.length := by rw [somS_len]; exact hjl
 have hz0 : (somS G J pre)[to.toNat]? = some (midS G to.toNat y 0) := by rw [somS_get hty, if_neg (by rw [htt]; exact hn), midS_zero]
 have hplen : (predsL (wZ c J) to).length ≤ 1048576 := Nat.le_trans (predsL_len _ _) (by show J.length ≤ _; omega)
 have hphl := hsx.phis
 obtain ⟨z, p1, p2⟩ := loopM_pre (xs := x.phis) (body := (fun (xs5_1 : (List Block_) × Int) => (Option.bind (getI xs5_1.1 to) fun x5_1 => if decide (xs5_1.2 < ((x5_1.phis.length : Int))) then Option.bind (forN (S := (List Int)) (X := Empty) (fun i6_1 xs6_1 => Option.bind (getI (predsL (wZ c J) to) i6_1) fun x6_1 => Option.bind (if decide (x6_1 = (b:Int)) then some (n:Int) else some x6_1 : Option (Int)) fun s6_1 => Option.bind (getI c.blocks to) fun x6_2 => Option.bind (getI x6_2.phis xs5_1.2) fun x6_3 => Option.bind (spec_l10At (predsL c to) s6_1) fun r6_1 => Option.bind (getI x6_3.args r6_1) fun x6_4 => Option.bind (appM xs6_1 ([x6_4] : List Int)) fun ys6_1 => some (.inl ys6_1)) ((((predsL (wZ c J) to).length : Int) : Int) - 0).toNat 0 ([] : List Int)) (Sum.elim (fun xs5_2 => Option.bind (getI xs5_1.1 to) fun x5_2 => Option.bind (getI x5_2.phis xs5_1.2) fun x5_3 => some (.inl ((xs5_1.1.set (to).toNat (⟨(x5_2.phis.set (xs5_1.2).toNat (⟨x5_3.to, xs5_2⟩ : Phi_)), x5_2.ins, x5_2.jump, x5_2.on, x5_2.next_⟩ : Block_)), w64 (xs5_1.2 + 1)))) (fun (e0 : Empty) => nomatch e0)) else some (.inr xs5_1.1) : Option (((List Block_) × Int) ⊕ ((List Block_)))))) (s := (somS G J pre, 0)) (fun q s => s = ((somS G J pre).set to.toNat (midS G to.toNat y q.length), (q.length : Int))) (fun z => z = (somS G J pre).set to.toNat (midS G to.toNat y x.phis.length)) (by rw [List.length_nil, set_self hz0]; rfl) (fun q f post s he hI => by
  subst hI
  left
  have hlt : q.length < x.phis.length := by rw [he]; simp
  have hf : getI x.phis (q.length : Int) = some f := by rw [he]; exact getI_mid
  have hf2 : y.phis[q.length]? = some f := by rw [hph, he]; simp
  have hfo := hxb.phis f (by rw [he]; simp)
  obtain ⟨l1, l2⟩ := lmidU (f := phS G (to.toNat : Int)) hf2
  have hz : getI ((somS G J pre).set to.toNat (midS G to.toNat y q.length)) to = some (midS G to.toNat y q.length) := getI_some.2 ⟨by omega, List.getElem?_set_self (by rw [hlz]; omega)⟩
  have hfm : getI (midS G to.toNat y q.length).phis (q.length : Int) = some f := getI_some.2 ⟨by omega, by rw [Int.toNat_natCast]; exact l1⟩
  have hml : (midS G to.toNat y q.length).phis.length = x.phis.length := by
   show ((y.phis.take q.length).map _ ++ y.phis.drop q.length).length = _
   rw [List.length_append, List.length_map, List.length_take, List.length_drop, hph]; omega
  have hw : w64 ((q.length : Int) + 1) = (q.length : Int) + 1 := w64_id (by omega) (by omega)
  have hargs := mapLoop (xs := predsL (wZ c J) to) (body := (fun (i6_1 : Int) (xs6_1 : (List Int)) => (Option.bind (getI (predsL (wZ c J) to) i6_1) fun x6_1 => Option.bind (if decide (x6_1 = (b:Int)) then some (n:Int) else some x6_1 : Option (Int)) fun s6_1 => Option.bind (getI c.blocks to) fun x6_2 => Option.bind (getI x6_2.phis ((somS G J pre).set to.toNat (midS G to.toNat y q.length),(q.length:Int)).2) fun x6_3 => Option.bind (spec_l10At (predsL c to) s6_1) fun r6_1 => Option.bind (getI x6_3.args r6_1) fun x6_4 => Option.bind (appM xs6_1 ([x6_4] : List Int)) fun ys6_1 => some (.inl ys6_1) : Option (((List Int)) ⊕ (Empty))))) (fun p => at_ f.args (idx (srcJ b n p) (predsL c to) 0)) (by omega) (fun l p r s hpe hsl => by
   have hpm : p ∈ predsL (wZ c J) to := by rw [hpe]; simp
   have hp : getI (predsL (wZ c J) to) (l.length : Int) = some p := by rw [hpe]; exact getI_mid
   have hsrc := h.srcP htn (by rw [hJ]; exact hpm)
   obtain ⟨t, hn1, hn2⟩ := idx_at (i := 0) hsrc
   have hnl2 := (List.getElem?_eq_some_iff.1 hn2).1
   have hga : getI f.args (idx (srcJ b n p) (predsL c to) 0) = some (at_ f.args (idx (srcJ b n p) (predsL c to) 0)) := at_get (by omega) (by rw [hfo.2.2.1]; omega)
   have hfrom : (if decide (p = (b : Int)) then some (n : Int) else some p : Option Int) = some (srcJ b n p) := by
    unfold srcJ
    by_cases e : p = (b : Int) <;> simp [e]
   dsimp only
   rw [hp, Option.bind_some, hfrom, Option.bind_some, hx, Option.bind_some, hf, Option.bind_some, l10At_ok, Option.bind_some, hga, Option.bind_some, appM_ok (by rw [List.length_singleton]; omega)]
   rfl)
  refine ⟨_, ?_, rfl⟩
  dsimp only
  rw [hz, Option.bind_some, if_pos (by rw [hml]; simpa using hlt)]
  refine bindt hargs ?_
  rw [Sum.elim_inl, Option.bind_some, hfm, Option.bind_some, hw]
  congr 3
  ·rw [List.set_set, List.length_append, List.length_singleton]
   congr 1
   unfold midS
   rw [← l2, Int.toNat_natCast, ← hGe]
   unfold phS gJ
   rw [htt, hJ]
  ·simp) (fun s hI => by
  subst hI
  refine ⟨_, ?_, rfl⟩
  have hz : getI ((somS G J pre).set to.toNat (midS G to.toNat y x.phis.length)) to = some (midS G to.toNat y x.phis.length) := getI_some.2 ⟨by omega, List.getElem?_set_self (by rw [hlz]; omega)⟩
  have hml : (midS G to.toNat y x.phis.length).phis.length = x.phis.length := by
   show ((y.phis.take x.phis.length).map _ ++ y.phis.drop x.phis.length).length = _
   rw [List.length_append, List.length_map, List.length_take, List.length_drop, hph]; omega
  dsimp only
  rw [hz, Option.bind_some, if_neg (by rw [hml]; simp)])
 rw [p1, p2, ← hph, midS_end, somS_add hty (by rw [htt]; exact hn), htt]
theorem stepS : spec_l18One c (b : Int) (n : Int) = some (jnC c b n X Y) := by
 have hnb := hck.nb
 have hlb := h.lb; have hln := h.ln; have hne := h.ne
 have hXg : getI c.blocks (b : Int) = some X := getI_some.2 ⟨by omega, by simpa using h.hX⟩
 have hYg : getI c.blocks (n : Int) = some Y := getI_some.2 ⟨by omega, by simpa using h.hY⟩
 have hXi := (hsm X (List.mem_of_getElem? h.hX)).ins; have hYi := (hsm Y (List.mem_of_getElem? h.hY)).ins
 have hYb := hck.bok hYg
 have hyl : Y.next_.length ≤ 2 := by have := hYb.jump; omega
 unfold spec_l18One
 rw [l7Copy_ok c (by omega) hsm, Option.bind_some, hXg, Option.bind_some, hYg, Option.bind_some]
 refine bindt (a := ()) (by unfold neI; rw [if_neg (by omega)]) ?_
 rw [appM_ok (by omega), Option.bind_some, Int.toNat_natCast, Int.toNat_natCast]
 have hJe : (c.blocks.set n (⟨([] : List Phi_), ([] : List Ins_), 1, 0, ([(n : Int)] : List Int)⟩ : Block_)).set b (⟨X.phis, X.ins ++ Y.ins, Y.jump, Y.on, Y.next_⟩ : Block_) = jn c.blocks b n X Y := rfl
 rw [hJe]
 have hnext : ∀ pre, ((somS (gJ c b n X Y) (jn c.blocks b n X Y) pre)[b]?).map (·.next_) = some Y.next_ := fun pre => by
  have := congrArg (fun l : List (List Int) => l[b]?) (next_somS (G := gJ c b n X Y) (xs := jn c.blocks b n X Y) (pre := pre))
  rw [List.getElem?_map, List.getElem?_map, h.get, if_pos rfl] at this
  exact this
 have hget : ∀ pre, ∃ z, getI (somS (gJ c b n X Y) (jn c.blocks b n X Y) pre) (b : Int) = some z ∧ z.next_ = Y.next_ := fun pre => by
  obtain ⟨z, hz, hz2⟩ := Option.map_eq_some_iff.1 (hnext pre)
  exact ⟨z, getI_some.2 ⟨by omega, by simpa using hz⟩, hz2⟩
 obtain ⟨z, p1, p2⟩ := loopM_pre (xs := Y.next_) (body := (fun (xs2_1 : (List Block_) × Int) => (Option.bind (getI xs2_1.1 (b:Int)) fun x2_1 => if decide (xs2_1.2 < ((x2_1.next_.length : Int))) then Option.bind (Option.bind (getI x2_1.next_ xs2_1.2) fun x3_1 => Option.bind (if decide (0 < xs2_1.2) then Option.bind (getI x2_1.next_ 0) fun x4_1 => some (decide (x3_1 = x4_1)) else some false : Option (Bool)) fun s3_1 => if s3_1 then some xs2_1.1 else Option.bind (spec_l7Preds c x3_1) fun r3_1 => Option.bind (spec_l7Preds (⟨c.params, c.regs, xs2_1.1⟩ : Code_) x3_1) fun r3_2 => Option.bind (Option.bind (loopM (S := (List Block_) × Int) (X := (List Block_)) (fun xs5_1 => Option.bind (getI xs5_1.1 x3_1) fun x5_1 => if decide (xs5_1.2 < ((x5_1.phis.length : Int))) then Option.bind (forN (S := (List Int)) (X := Empty) (fun i6_1 xs6_1 => Option.bind (getI r3_2 i6_1) fun x6_1 => Option.bind (if decide (x6_1 = (b:Int)) then some (n:Int) else some x6_1 : Option (Int)) fun s6_1 => Option.bind (getI c.blocks x3_1) fun x6_2 => Option.bind (getI x6_2.phis xs5_1.2) fun x6_3 => Option.bind (spec_l10At r3_1 s6_1) fun r6_1 => Option.bind (getI x6_3.args r6_1) fun x6_4 => Option.bind (appM xs6_1 ([x6_4] : List Int)) fun ys6_1 => some (.inl ys6_1)) (((r3_2.length : Int) : Int) - 0).toNat 0 ([] : List Int)) (Sum.elim (fun xs5_2 => Option.bind (getI xs5_1.1 x3_1) fun x5_2 => Option.bind (getI x5_2.phis xs5_1.2) fun x5_3 => some (.inl ((xs5_1.1.set (x3_1).toNat (⟨(x5_2.phis.set (xs5_1.2).toNat (⟨x5_3.to, xs5_2⟩ : Phi_)), x5_2.ins, x5_2.jump, x5_2.on, x5_2.next_⟩ : Block_)), w64 (xs5_1.2 + 1)))) (fun (e0 : Empty) => nomatch e0)) else some (.inr xs5_1.1)) (xs2_1.1, 0)) (fun e0 => some e0) : Option ((List Block_))) fun s3_2 => some s3_2 : Option ((List Block_))) fun s2_1 => some (.inl (s2_1, w64 (xs2_1.2 + 1))) else some (.inr xs2_1.1) : Option (((List Block_) × Int) ⊕ ((List Block_)))))) (s := (jn c.blocks b n X Y, 0)) (fun pre s => s = (somS (gJ c b n X Y) (jn c.blocks b n X Y) pre, (pre.length : Int))) (fun z => z = somS (gJ c b n X Y) (jn c.blocks b n X Y) Y.next_) (by rw [somS_nil]; rfl) (fun pre to post s he hI => by
  subst hI
  left
  obtain ⟨z, hz, hzn⟩ := hget pre
  have hto : to ∈ Y.next_ := by rw [he]; simp
  have htor := hYb.next to hto
  have hlen := congrArg List.length he
  simp at hlen
  have hgto : getI Y.next_ (pre.length : Int) = some to := by rw [he]; exact getI_mid
  have hw : w64 ((pre.length : Int) + 1) = (pre.length : Int) + 1 := w64_id (by omega) (by omega)
  refine ⟨(somS (gJ c b n X Y) (jn c.blocks b n X Y) (pre ++ [to]), ((pre ++ [to]).length : Int)), ?_, rfl⟩
  dsimp only
  rw [hz, Option.bind_some, hzn, if_pos (by simp; omega), hgto, Option.bind_some]
  have hend : ∀ t : List Block_, t = somS (gJ c b n X Y) (jn c.blocks b n X Y) (pre ++ [to]) → (some (Sum.inl (t, w64 ((pre.length : Int) + 1))) : Option ((List Block_ × Int) ⊕ List Block_)) = some (.inl (somS (gJ c b n X Y) (jn c.blocks b n X Y) (pre ++ [to]), ((pre ++ [to]).length : Int))) := fun t ht => by
   rw [ht, hw]; simp
  by_cases e0 : pre = []
  ·subst e0
   refine bindt (a := somS (gJ c b n X Y) (jn c.blocks b n X Y) ([] ++ [to])) ?_ (hend _ rfl)
   refine bindt (a := false) (by simp) ?_
   simp only [Bool.false_eq_true, if_false]
   refine bindt (l7Preds_ok c to (by omega) fun y hy => (hsm y hy).next) ?_
   refine bindt (a := predsL (wZ c (jn c.blocks b n X Y)) to) ?_ ?_
   ·refine (l7Preds_ok _ to (by show (somS _ _ _).length ≤ _; rw [somS_len, jn_len]; omega) fun y hy => ?_).trans (congrArg some (predsF_next to 0 next_somS))
    have : y.next_ ∈ (somS (gJ c b n X Y) (jn c.blocks b n X Y) []).map (·.next_) := List.mem_map.2 ⟨y, hy, rfl⟩
    rw [next_somS] at this
    obtain ⟨y', hy', e⟩ := List.mem_map.1 this
    obtain ⟨m, hm⟩ := List.getElem?_of_mem hy'
    rw [← e]
    rw [h.get] at hm
    split at hm
    ·cases hm; show Y.next_.length ≤ _; omega
    ·split at hm
     ·cases hm; simp [jnN]
     ·exact (hsm y' (List.mem_of_getElem? hm)).next
   ·refine bindt (a := somS (gJ c b n X Y) (jn c.blocks b n X Y) ([] ++ [to])) ?_ rfl
    refine bindt (wayS hck hsm h hto (y := (jn c.blocks b n X Y)[to.toNat]'(by rw [jn_len]; omega)) (List.getElem?_eq_getElem _) (by simp)) rfl
  ·obtain ⟨t0, rest, hpr⟩ : ∃ t0 rest, pre = t0 :: rest := by
    cases pre with
    | nil => exact absurd rfl e0
    | cons a r => exact ⟨a, r, rfl⟩
   have hpl : 0 < pre.length := by rw [hpr]; simp
   have hrest : rest = [] := by
    cases rest with
    | nil => rfl
    | cons _ _ => rw [hpr] at hlen; simp at hlen; omega
   subst hrest
   have hg0 : getI Y.next_ 0 = some t0 := by rw [he, hpr]; rfl
   have hp0 : (0 : Int) < (pre.length : Int) := by omega
   by_cases e1 : to = t0
   ·refine bindt (a := somS (gJ c b n X Y) (jn c.blocks b n X Y) pre) ?_ (hend _ (somS_old (by rw [hpr, e1]; simp)).symm)
    rw [if_pos (by simpa using hp0), hg0, Option.bind_some, Option.bind_some, decide_eq_true e1, if_pos rfl]
   ·refine bindt (a := somS (gJ c b n X Y) (jn c.blocks b n X Y) (pre ++ [to])) ?_ (hend _ rfl)
    rw [if_pos (by simpa using hp0), hg0, Option.bind_some, Option.bind_some, decide_eq_false e1]
    simp only [Bool.false_eq_true, if_false]
    refine bindt (l7Preds_ok c to (by omega) fun y hy => (hsm y hy).next) ?_
    refine bindt (a := predsL (wZ c (jn c.blocks b n X Y)) to) ?_ ?_
    ·refine (l7Preds_ok _ to (by show (somS _ _ _).length ≤ _; rw [somS_len, jn_len]; omega) fun y hy => ?_).trans (congrArg some (predsF_next to 0 next_somS))
     have : y.next_ ∈ (somS (gJ c b n X Y) (jn c.blocks b n X Y) pre).map (·.next_) := List.mem_map.2 ⟨y, hy, rfl⟩
     rw [next_somS] at this
     obtain ⟨y', hy', e⟩ := List.mem_map.1 this
     obtain ⟨m, hm⟩ := List.getElem?_of_mem hy'
     rw [← e]
     rw [h.get] at hm
     split at hm
     ·cases hm; show Y.next_.length ≤ _; omega
     ·split at hm
      ·cases hm; simp [jnN]
      ·exact (hsm y' (List.mem_of_getElem? hm)).next
    ·refine bindt (a := somS (gJ c b n X Y) (jn c.blocks b n X Y) (pre ++ [to])) ?_ rfl
     refine bindt (wayS hck hsm h hto (y := (jn c.blocks b n X Y)[to.toNat]'(by rw [jn_len]; omega)) (List.getElem?_eq_getElem _) (by rw [hpr]; simpa using e1)) rfl) (fun s hI => by
  subst hI
  obtain ⟨z, hz, hzn⟩ := hget Y.next_
  refine ⟨_, ?_, rfl⟩
  dsimp only
  rw [hz, Option.bind_some, hzn, if_neg (by simp)])
 refine bindt (bindt p1 rfl) ?_
 rw [p2, h.som_all hck]
 rfl
end
end Unt
end Go.Wk
namespace Go.Wk
open Go
namespace Unt
set_option maxRecDepth 10000
theorem sm_inv {u : Unit_} (hu : Ok u) {k : Int} {c : Code_} (hck : COk u k c) (hc : cntC c ≤ 800) : ∀ b ∈ c.blocks, SmB b := fun x hx => by
 obtain ⟨b, hb⟩ := blkOf hx
 have hbo := hck.bok hb
 have hnb := hck.nb
 have h1 : cntB x ≤ cntC c := sums_memU (f := cntB) hx
 unfold cntB at h1
 have hj := hbo.jump
 refine ⟨by omega, by omega, by omega, fun f hf => ?_, fun y hy => ?_⟩
 ·have := (hbo.phis f hf).2.2.1
  have := predsL_len c b
  omega
 ·have := argsU hu (hbo.ins y hy)
  omega
theorem Jn.less {c : Code_} {b n : Nat} {X Y : Block_} (h : Jn c b n X Y) : aliveN (jnC c b n X Y) < aliveN c := by
 have hlen : (jnC c b n X Y).blocks.length = c.blocks.length := by show (stS _ _).length = _; rw [stS_len, jn_len]
 have hpr : ∀ m, predsL (jnC c b n X Y) m = predsL (wZ c (jn c.blocks b n X Y)) m := fun m => preds_stS m
 have hne := h.ne
 unfold aliveN
 rw [hlen]
 refine filter_less (n := n) h.ln ?_ ?_ fun m hm => ?_
 ·exact aliveB_iff.2 (.inr ⟨(b : Int), h.oldB.2 rfl, by omega⟩)
 ·rw [Bool.eq_false_iff]
  intro hm
  rcases aliveB_iff.1 hm with e | ⟨j, hj, e⟩
  ·exact h.n0 e
  ·rw [hpr] at hj
   rcases h.newP.1 hj with ⟨_, e2⟩ | ⟨e2, _⟩ | ⟨e1, _, e3⟩
   ·exact h.yn e2
   ·exact e e2
   ·rw [h.pr] at e3
    simp at e3
    exact e1 e3
 ·rcases aliveB_iff.1 hm with e | ⟨j, hj, e⟩
  ·exact aliveB_iff.2 (.inl e)
  ·rw [hpr] at hj
   rcases h.newP.1 hj with ⟨_, e2⟩ | ⟨e2, e3⟩ | ⟨_, _, e3⟩
   ·refine aliveB_iff.2 (.inr ⟨(n : Int), h.oldN.2 e2, fun e4 => ?_⟩)
    rw [← e4] at e2
    exact h.yn e2
   ·omega
   ·exact aliveB_iff.2 (.inr ⟨j, e3, e⟩)
theorem Jn.j2 {c : Code_} {b n : Nat} {X Y : Block_} (h : Jn c b n X Y) : sums Unt.j2 (jnC c b n X Y).blocks = sums Unt.j2 c.blocks :=
 h.sum Unt.j2 (fun G i x => rfl) (by unfold Unt.j2 jnN jnB; rw [h.jX])
structure Jnd (u : Unit_) (k : Int) (c d : Code_) : Prop where
 ck : COk u k d
 cnt : cntC d = cntC c
 par : d.params = c.params
 nb : d.blocks.length = c.blocks.length
 j2 : sums Unt.j2 d.blocks = sums Unt.j2 c.blocks
 al : d = c ∨ aliveN d < aliveN c
 spec : loopM (fun (xs2_1 : Int × Int × (List Block_) × Int) => (if decide (xs2_1.2.2.2 < ((xs2_1.2.2.1.length : Int))) then Option.bind (Option.bind (spec_l18Next (⟨xs2_1.1, xs2_1.2.1, xs2_1.2.2.1⟩ : Code_) xs2_1.2.2.2) fun r3_1 => Option.bind (if decide (0 ≤ r3_1) then Option.bind (spec_l18One (⟨xs2_1.1, xs2_1.2.1, xs2_1.2.2.1⟩ : Code_) xs2_1.2.2.2 r3_1) fun r4_1 => some (r4_1.params, r4_1.regs, r4_1.blocks, -1) else some (xs2_1.1, xs2_1.2.1, xs2_1.2.2.1, xs2_1.2.2.2) : Option (Int × Int × (List Block_) × Int)) fun s3_1 => some (s3_1.1, s3_1.2.1, s3_1.2.2.1, s3_1.2.2.2) : Option (Int × Int × (List Block_) × Int)) fun s2_1 => some (.inl (s2_1.1, s2_1.2.1, s2_1.2.2.1, w64 (s2_1.2.2.2 + 1))) else some (.inr (xs2_1.1, xs2_1.2.1, xs2_1.2.2.1)) : Option ((Int × Int × (List Block_) × Int) ⊕ (Int × Int × (List Block_))))) (c.params, c.regs, c.blocks, 0) = some (d.params, d.regs, d.blocks)
 impl : ∀ r, impl_reachedOnly d = some r → loopM (fun (xs1_1 : Int × Int × (List Block_)) => (Option.bind (Option.bind (forN (S := Unit) (X := Int × Int × (List Block_)) (fun i3_1 xs3_1 => Option.bind (impl_joinNext (⟨xs1_1.1, xs1_1.2.1, xs1_1.2.2⟩ : Code_) i3_1) fun r3_1 => if decide (r3_1 < 0) then some (.inl ()) else Option.bind (impl_phisOf (⟨xs1_1.1, xs1_1.2.1, xs1_1.2.2⟩ : Code_)) fun r3_2 => Option.bind (getI xs1_1.2.2 i3_1) fun x3_1 => Option.bind (getI xs1_1.2.2 r3_1) fun x3_2 => Option.bind (neI i3_1 r3_1) fun u3_1 => Option.bind (appM x3_1.ins x3_2.ins) fun ys3_1 => Option.bind (impl_once x3_2.next_) fun r3_3 => Option.bind (forN (S := (List (List (MapS Int)))) (X := Empty) (fun i4_1 xs4_1 => Option.bind (getI r3_3 i4_1) fun x4_1 => Option.bind (getI xs4_1 x4_1) fun x4_2 => Option.bind (forN (S := (List (MapS Int))) (X := Empty) (fun i5_1 xs5_1 => Option.bind (getI xs5_1 i5_1) fun x5_1 => Option.bind (neM x5_1) fun u5_1 => some (.inl (xs5_1.set (i5_1).toNat (MapS.del (MapS.ins x5_1 i3_1 ((MapS.get x5_1 r3_1).getD 0)) r3_1)))) (((x4_2.length : Int) : Int) - 0).toNat 0 x4_2) (Sum.elim (fun xs4_2 => some (.inl (xs4_1.set (x4_1).toNat xs4_2))) (fun (e0 : Empty) => nomatch e0))) (((r3_3.length : Int) : Int) - 0).toNat 0 r3_2) (Sum.elim (fun xs3_2 => Option.bind (impl_settle (⟨xs1_1.1, xs1_1.2.1, ((xs1_1.2.2.set (r3_1).toNat (⟨[], [], 1, 0, ([r3_1] : List Int)⟩ : Block_)).set (i3_1).toNat (⟨x3_1.phis, ys3_1, x3_2.jump, x3_2.on, x3_2.next_⟩ : Block_))⟩ : Code_) xs3_2) fun r3_5 => some (.inr (r3_5.params, r3_5.regs, r3_5.blocks))) (fun (e0 : Empty) => nomatch e0))) (((xs1_1.2.2.length : Int) : Int) - 0).toNat 0 ()) (Sum.elim (fun xs2_1 => Option.bind (impl_reachedOnly (⟨xs1_1.1, xs1_1.2.1, xs1_1.2.2⟩ : Code_)) fun r2_2 => some (.inr r2_2)) (fun e0 => some (.inl e0))) : Option ((Int × Int × (List Block_)) ⊕ (Code_))) (Sum.elim (fun s1_1 => some (.inl (s1_1.1, s1_1.2.1, s1_1.2.2))) (fun e0 => some (.inr e0))) : Option ((Int × Int × (List Block_)) ⊕ (Code_)))) (c.params, c.regs, c.blocks) = some r
section
variable {u : Unit_} {k : Int} {c : Code_} (hck : COk u k c)
include hck
theorem jnBody0 {j : Nat} (hj : j < c.blocks.length) (h : nxJ c (j : Int) < 0) : (fun (i3_1 : Int) (xs3_1 : Unit) => (Option.bind (impl_joinNext (⟨(c.params,c.regs,c.blocks).1, (c.params,c.regs,c.blocks).2.1, (c.params,c.regs,c.blocks).2.2⟩ : Code_) i3_1) fun r3_1 => if decide (r3_1 < 0) then some (.inl ()) else Option.bind (impl_phisOf (⟨(c.params,c.regs,c.blocks).1, (c.params,c.regs,c.blocks).2.1, (c.params,c.regs,c.blocks).2.2⟩ : Code_)) fun r3_2 => Option.bind (getI (c.params,c.regs,c.blocks).2.2 i3_1) fun x3_1 => Option.bind (getI (c.params,c.regs,c.blocks).2.2 r3_1) fun x3_2 => Option.bind (neI i3_1 r3_1) fun u3_1 => Option.bind (appM x3_1.ins x3_2.ins) fun ys3_1 => Option.bind (impl_once x3_2.next_) fun r3_3 => Option.bind (forN (S := (List (List (MapS Int)))) (X := Empty) (fun i4_1 xs4_1 => Option.bind (getI r3_3 i4_1) fun x4_1 => Option.bind (getI xs4_1 x4_1) fun x4_2 => Option.bind (forN (S := (List (MapS Int))) (X := Empty) (fun i5_1 xs5_1 => Option.bind (getI xs5_1 i5_1) fun x5_1 => Option.bind (neM x5_1) fun u5_1 => some (.inl (xs5_1.set (i5_1).toNat (MapS.del (MapS.ins x5_1 i3_1 ((MapS.get x5_1 r3_1).getD 0)) r3_1)))) (((x4_2.length : Int) : Int) - 0).toNat 0 x4_2) (Sum.elim (fun xs4_2 => some (.inl (xs4_1.set (x4_1).toNat xs4_2))) (fun (e0 : Empty) => nomatch e0))) (((r3_3.length : Int) : Int) - 0).toNat 0 r3_2) (Sum.elim (fun xs3_2 => Option.bind (impl_settle (⟨(c.params,c.regs,c.blocks).1, (c.params,c.regs,c.blocks).2.1, (((c.params,c.regs,c.blocks).2.2.set (r3_1).toNat (⟨[], [], 1, 0, ([r3_1] : List Int)⟩ : Block_)).set (i3_1).toNat (⟨x3_1.phis, ys3_1, x3_2.jump, x3_2.on, x3_2.next_⟩ : Block_))⟩ : Code_) xs3_2) fun r3_5 => some (.inr (r3_5.params, r3_5.regs, r3_5.blocks))) (fun (e0 : Empty) => nomatch e0)) : Option ((Unit) ⊕ (Int × Int × (List Block_))))) (j : Int) () = some (.inl ()) := by
 obtain ⟨x, hx, _⟩ := getI_in (xs := c.blocks) (j := (j : Int)) (by omega) (by omega)
 dsimp only
 refine bindt (implNx_ok hck hx) ?_
 rw [if_pos (by simpa using h)]
theorem jnNone (h : ∀ j : Nat, j < c.blocks.length → nxJ c (j : Int) < 0) {r : Code_} (hr : impl_reachedOnly c = some r) : (fun (xs1_1 : Int × Int × (List Block_)) => (Option.bind (Option.bind (forN (S := Unit) (X := Int × Int × (List Block_)) (fun i3_1 xs3_1 => Option.bind (impl_joinNext (⟨xs1_1.1, xs1_1.2.1, xs1_1.2.2⟩ : Code_) i3_1) fun r3_1 => if decide (r3_1 < 0) then some (.inl ()) else Option.bind (impl_phisOf (⟨xs1_1.1, xs1_1.2.1, xs1_1.2.2⟩ : Code_)) fun r3_2 => Option.bind (getI xs1_1.2.2 i3_1) fun x3_1 => Option.bind (getI xs1_1.2.2 r3_1) fun x3_2 => Option.bind (neI i3_1 r3_1) fun u3_1 => Option.bind (appM x3_1.ins x3_2.ins) fun ys3_1 => Option.bind (impl_once x3_2.next_) fun r3_3 => Option.bind (forN (S := (List (List (MapS Int)))) (X := Empty) (fun i4_1 xs4_1 => Option.bind (getI r3_3 i4_1) fun x4_1 => Option.bind (getI xs4_1 x4_1) fun x4_2 => Option.bind (forN (S := (List (MapS Int))) (X := Empty) (fun i5_1 xs5_1 => Option.bind (getI xs5_1 i5_1) fun x5_1 => Option.bind (neM x5_1) fun u5_1 => some (.inl (xs5_1.set (i5_1).toNat (MapS.del (MapS.ins x5_1 i3_1 ((MapS.get x5_1 r3_1).getD 0)) r3_1)))) (((x4_2.length : Int) : Int) - 0).toNat 0 x4_2) (Sum.elim (fun xs4_2 => some (.inl (xs4_1.set (x4_1).toNat xs4_2))) (fun (e0 : Empty) => nomatch e0))) (((r3_3.length : Int) : Int) - 0).toNat 0 r3_2) (Sum.elim (fun xs3_2 => Option.bind (impl_settle (⟨xs1_1.1, xs1_1.2.1, ((xs1_1.2.2.set (r3_1).toNat (⟨[], [], 1, 0, ([r3_1] : List Int)⟩ : Block_)).set (i3_1).toNat (⟨x3_1.phis, ys3_1, x3_2.jump, x3_2.on, x3_2.next_⟩ : Block_))⟩ : Code_) xs3_2) fun r3_5 => some (.inr (r3_5.params, r3_5.regs, r3_5.blocks))) (fun (e0 : Empty) => nomatch e0))) (((xs1_1.2.2.length : Int) : Int) - 0).toNat 0 ()) (Sum.elim (fun xs2_1 => Option.bind (impl_reachedOnly (⟨xs1_1.1, xs1_1.2.1, xs1_1.2.2⟩ : Code_)) fun r2_2 => some (.inr r2_2)) (fun e0 => some (.inl e0))) : Option ((Int × Int × (List Block_)) ⊕ (Code_))) (Sum.elim (fun s1_1 => some (.inl (s1_1.1, s1_1.2.1, s1_1.2.2))) (fun e0 => some (.inr e0))) : Option ((Int × Int × (List Block_)) ⊕ (Code_)))) (c.params, c.regs, c.blocks) = some (.inr r) := by
 have h1 := forN_all (body := (fun (i3_1 : Int) (xs3_1 : Unit) => (Option.bind (impl_joinNext (⟨(c.params,c.regs,c.blocks).1, (c.params,c.regs,c.blocks).2.1, (c.params,c.regs,c.blocks).2.2⟩ : Code_) i3_1) fun r3_1 => if decide (r3_1 < 0) then some (.inl ()) else Option.bind (impl_phisOf (⟨(c.params,c.regs,c.blocks).1, (c.params,c.regs,c.blocks).2.1, (c.params,c.regs,c.blocks).2.2⟩ : Code_)) fun r3_2 => Option.bind (getI (c.params,c.regs,c.blocks).2.2 i3_1) fun x3_1 => Option.bind (getI (c.params,c.regs,c.blocks).2.2 r3_1) fun x3_2 => Option.bind (neI i3_1 r3_1) fun u3_1 => Option.bind (appM x3_1.ins x3_2.ins) fun ys3_1 => Option.bind (impl_once x3_2.next_) fun r3_3 => Option.bind (forN (S := (List (List (MapS Int)))) (X := Empty) (fun i4_1 xs4_1 => Option.bind (getI r3_3 i4_1) fun x4_1 => Option.bind (getI xs4_1 x4_1) fun x4_2 => Option.bind (forN (S := (List (MapS Int))) (X := Empty) (fun i5_1 xs5_1 => Option.bind (getI xs5_1 i5_1) fun x5_1 => Option.bind (neM x5_1) fun u5_1 => some (.inl (xs5_1.set (i5_1).toNat (MapS.del (MapS.ins x5_1 i3_1 ((MapS.get x5_1 r3_1).getD 0)) r3_1)))) (((x4_2.length : Int) : Int) - 0).toNat 0 x4_2) (Sum.elim (fun xs4_2 => some (.inl (xs4_1.set (x4_1).toNat xs4_2))) (fun (e0 : Empty) => nomatch e0))) (((r3_3.length : Int) : Int) - 0).toNat 0 r3_2) (Sum.elim (fun xs3_2 => Option.bind (impl_settle (⟨(c.params,c.regs,c.blocks).1, (c.params,c.regs,c.blocks).2.1, (((c.params,c.regs,c.blocks).2.2.set (r3_1).toNat (⟨[], [], 1, 0, ([r3_1] : List Int)⟩ : Block_)).set (i3_1).toNat (⟨x3_1.phis, ys3_1, x3_2.jump, x3_2.on, x3_2.next_⟩ : Block_))⟩ : Code_) xs3_2) fun r3_5 => some (.inr (r3_5.params, r3_5.regs, r3_5.blocks))) (fun (e0 : Empty) => nomatch e0)) : Option ((Unit) ⊕ (Int × Int × (List Block_)))))) (((c.blocks.length : Int)) - 0).toNat 0 (fun j _ hj => jnBody0 hck (by omega) (h j (by omega)))
 refine bindt (a := .inr r) (bindt h1 ?_) rfl
 exact bindt hr rfl
variable (hsm : ∀ b ∈ c.blocks, SmB b)
include hsm
theorem jnHit {b n : Nat} {X Y : Block_} (h : Jn c b n X Y) (h2 : ∀ j : Nat, j < b → nxJ c (j : Int) < 0) : (fun (xs1_1 : Int × Int × (List Block_)) => (Option.bind (Option.bind (forN (S := Unit) (X := Int × Int × (List Block_)) (fun i3_1 xs3_1 => Option.bind (impl_joinNext (⟨xs1_1.1, xs1_1.2.1, xs1_1.2.2⟩ : Code_) i3_1) fun r3_1 => if decide (r3_1 < 0) then some (.inl ()) else Option.bind (impl_phisOf (⟨xs1_1.1, xs1_1.2.1, xs1_1.2.2⟩ : Code_)) fun r3_2 => Option.bind (getI xs1_1.2.2 i3_1) fun x3_1 => Option.bind (getI xs1_1.2.2 r3_1) fun x3_2 => Option.bind (neI i3_1 r3_1) fun u3_1 => Option.bind (appM x3_1.ins x3_2.ins) fun ys3_1 => Option.bind (impl_once x3_2.next_) fun r3_3 => Option.bind (forN (S := (List (List (MapS Int)))) (X := Empty) (fun i4_1 xs4_1 => Option.bind (getI r3_3 i4_1) fun x4_1 => Option.bind (getI xs4_1 x4_1) fun x4_2 => Option.bind (forN (S := (List (MapS Int))) (X := Empty) (fun i5_1 xs5_1 => Option.bind (getI xs5_1 i5_1) fun x5_1 => Option.bind (neM x5_1) fun u5_1 => some (.inl (xs5_1.set (i5_1).toNat (MapS.del (MapS.ins x5_1 i3_1 ((MapS.get x5_1 r3_1).getD 0)) r3_1)))) (((x4_2.length : Int) : Int) - 0).toNat 0 x4_2) (Sum.elim (fun xs4_2 => some (.inl (xs4_1.set (x4_1).toNat xs4_2))) (fun (e0 : Empty) => nomatch e0))) (((r3_3.length : Int) : Int) - 0).toNat 0 r3_2) (Sum.elim (fun xs3_2 => Option.bind (impl_settle (⟨xs1_1.1, xs1_1.2.1, ((xs1_1.2.2.set (r3_1).toNat (⟨[], [], 1, 0, ([r3_1] : List Int)⟩ : Block_)).set (i3_1).toNat (⟨x3_1.phis, ys3_1, x3_2.jump, x3_2.on, x3_2.next_⟩ : Block_))⟩ : Code_) xs3_2) fun r3_5 => some (.inr (r3_5.params, r3_5.regs, r3_5.blocks))) (fun (e0 : Empty) => nomatch e0))) (((xs1_1.2.2.length : Int) : Int) - 0).toNat 0 ()) (Sum.elim (fun xs2_1 => Option.bind (impl_reachedOnly (⟨xs1_1.1, xs1_1.2.1, xs1_1.2.2⟩ : Code_)) fun r2_2 => some (.inr r2_2)) (fun e0 => some (.inl e0))) : Option ((Int × Int × (List Block_)) ⊕ (Code_))) (Sum.elim (fun s1_1 => some (.inl (s1_1.1, s1_1.2.1, s1_1.2.2))) (fun e0 => some (.inr e0))) : Option ((Int × Int × (List Block_)) ⊕ (Code_)))) (c.params, c.regs, c.blocks) = some (.inl ((jnC c b n X Y).params, (jnC c b n X Y).regs, (jnC c b n X Y).blocks)) := by
 have hlb := h.lb
 have h1 := forN_hit (body := (fun (i3_1 : Int) (xs3_1 : Unit) => (Option.bind (impl_joinNext (⟨(c.params,c.regs,c.blocks).1, (c.params,c.regs,c.blocks).2.1, (c.params,c.regs,c.blocks).2.2⟩ : Code_) i3_1) fun r3_1 => if decide (r3_1 < 0) then some (.inl ()) else Option.bind (impl_phisOf (⟨(c.params,c.regs,c.blocks).1, (c.params,c.regs,c.blocks).2.1, (c.params,c.regs,c.blocks).2.2⟩ : Code_)) fun r3_2 => Option.bind (getI (c.params,c.regs,c.blocks).2.2 i3_1) fun x3_1 => Option.bind (getI (c.params,c.regs,c.blocks).2.2 r3_1) fun x3_2 => Option.bind (neI i3_1 r3_1) fun u3_1 => Option.bind (appM x3_1.ins x3_2.ins) fun ys3_1 => Option.bind (impl_once x3_2.next_) fun r3_3 => Option.bind (forN (S := (List (List (MapS Int)))) (X := Empty) (fun i4_1 xs4_1 => Option.bind (getI r3_3 i4_1) fun x4_1 => Option.bind (getI xs4_1 x4_1) fun x4_2 => Option.bind (forN (S := (List (MapS Int))) (X := Empty) (fun i5_1 xs5_1 => Option.bind (getI xs5_1 i5_1) fun x5_1 => Option.bind (neM x5_1) fun u5_1 => some (.inl (xs5_1.set (i5_1).toNat (MapS.del (MapS.ins x5_1 i3_1 ((MapS.get x5_1 r3_1).getD 0)) r3_1)))) (((x4_2.length : Int) : Int) - 0).toNat 0 x4_2) (Sum.elim (fun xs4_2 => some (.inl (xs4_1.set (x4_1).toNat xs4_2))) (fun (e0 : Empty) => nomatch e0))) (((r3_3.length : Int) : Int) - 0).toNat 0 r3_2) (Sum.elim (fun xs3_2 => Option.bind (impl_settle (⟨(c.params,c.regs,c.blocks).1, (c.params,c.regs,c.blocks).2.1, (((c.params,c.regs,c.blocks).2.2.set (r3_1).toNat (⟨[], [], 1, 0, ([r3_1] : List Int)⟩ : Block_)).set (i3_1).toNat (⟨x3_1.phis, ys3_1, x3_2.jump, x3_2.on, x3_2.next_⟩ : Block_))⟩ : Code_) xs3_2) fun r3_5 => some (.inr (r3_5.params, r3_5.regs, r3_5.blocks))) (fun (e0 : Empty) => nomatch e0)) : Option ((Unit) ⊕ (Int × Int × (List Block_)))))) (b := b) (stepI hck hsm h (xs := c.blocks) rfl) (((c.blocks.length : Int)) - 0).toNat 0 (Nat.zero_le _) (by omega) (fun j _ hj => jnBody0 hck (by omega) (h2 j hj))
 exact bindt (a := .inl ((jnC c b n X Y).params, (jnC c b n X Y).regs, (jnC c b n X Y).blocks)) (bindt h1 rfl) rfl
theorem jsBody0 {j : Nat} (hj : j < c.blocks.length) (h : nxJ c (j : Int) < 0) : (fun (xs2_1 : Int × Int × (List Block_) × Int) => (if decide (xs2_1.2.2.2 < ((xs2_1.2.2.1.length : Int))) then Option.bind (Option.bind (spec_l18Next (⟨xs2_1.1, xs2_1.2.1, xs2_1.2.2.1⟩ : Code_) xs2_1.2.2.2) fun r3_1 => Option.bind (if decide (0 ≤ r3_1) then Option.bind (spec_l18One (⟨xs2_1.1, xs2_1.2.1, xs2_1.2.2.1⟩ : Code_) xs2_1.2.2.2 r3_1) fun r4_1 => some (r4_1.params, r4_1.regs, r4_1.blocks, -1) else some (xs2_1.1, xs2_1.2.1, xs2_1.2.2.1, xs2_1.2.2.2) : Option (Int × Int × (List Block_) × Int)) fun s3_1 => some (s3_1.1, s3_1.2.1, s3_1.2.2.1, s3_1.2.2.2) : Option (Int × Int × (List Block_) × Int)) fun s2_1 => some (.inl (s2_1.1, s2_1.2.1, s2_1.2.2.1, w64 (s2_1.2.2.2 + 1))) else some (.inr (xs2_1.1, xs2_1.2.1, xs2_1.2.2.1)) : Option ((Int × Int × (List Block_) × Int) ⊕ (Int × Int × (List Block_))))) (c.params, c.regs, c.blocks, (j : Int)) = some (.inl (c.params, c.regs, c.blocks, ((j + 1 : Nat) : Int))) := by
 have hnb := hck.nb
 obtain ⟨x, hx, _⟩ := getI_in (xs := c.blocks) (j := (j : Int)) (by omega) (by omega)
 dsimp only
 rw [if_pos (by simp; omega)]
 refine bindt (a := (c.params, c.regs, c.blocks, (j : Int))) (bindt (specNx_ok hck hsm hx) (bindt (a := (c.params, c.regs, c.blocks, (j : Int))) (by rw [if_neg (by simp; omega)]) rfl)) ?_
 dsimp only
 rw [w64_id (by omega) (by omega)]; simp
theorem jsScan {b : Nat} (hb : b ≤ c.blocks.length) (h2 : ∀ j : Nat, j < b → nxJ c (j : Int) < 0) : ∀ (d i : Nat), i + d = b → loopM (fun (xs2_1 : Int × Int × (List Block_) × Int) => (if decide (xs2_1.2.2.2 < ((xs2_1.2.2.1.length : Int))) then Option.bind (Option.bind (spec_l18Next (⟨xs2_1.1, xs2_1.2.1, xs2_1.2.2.1⟩ : Code_) xs2_1.2.2.2) fun r3_1 => Option.bind (if decide (0 ≤ r3_1) then Option.bind (spec_l18One (⟨xs2_1.1, xs2_1.2.1, xs2_1.2.2.1⟩ : Code_) xs2_1.2.2.2 r3_1) fun r4_1 => some (r4_1.params, r4_1.regs, r4_1.blocks, -1) else some (xs2_1.1, xs2_1.2.1, xs2_1.2.2.1, xs2_1.2.2.2) : Option (Int × Int × (List Block_) × Int)) fun s3_1 => some (s3_1.1, s3_1.2.1, s3_1.2.2.1, s3_1.2.2.2) : Option (Int × Int × (List Block_) × Int)) fun s2_1 => some (.inl (s2_1.1, s2_1.2.1, s2_1.2.2.1, w64 (s2_1.2.2.2 + 1))) else some (.inr (xs2_1.1, xs2_1.2.1, xs2_1.2.2.1)) : Option ((Int × Int × (List Block_) × Int) ⊕ (Int × Int × (List Block_))))) (c.params, c.regs, c.blocks, (i : Int)) = loopM (fun (xs2_1 : Int × Int × (List Block_) × Int) => (if decide (xs2_1.2.2.2 < ((xs2_1.2.2.1.length : Int))) then Option.bind (Option.bind (spec_l18Next (⟨xs2_1.1, xs2_1.2.1, xs2_1.2.2.1⟩ : Code_) xs2_1.2.2.2) fun r3_1 => Option.bind (if decide (0 ≤ r3_1) then Option.bind (spec_l18One (⟨xs2_1.1, xs2_1.2.1, xs2_1.2.2.1⟩ : Code_) xs2_1.2.2.2 r3_1) fun r4_1 => some (r4_1.params, r4_1.regs, r4_1.blocks, -1) else some (xs2_1.1, xs2_1.2.1, xs2_1.2.2.1, xs2_1.2.2.2) : Option (Int × Int × (List Block_) × Int)) fun s3_1 => some (s3_1.1, s3_1.2.1, s3_1.2.2.1, s3_1.2.2.2) : Option (Int × Int × (List Block_) × Int)) fun s2_1 => some (.inl (s2_1.1, s2_1.2.1, s2_1.2.2.1, w64 (s2_1.2.2.2 + 1))) else some (.inr (xs2_1.1, xs2_1.2.1, xs2_1.2.2.1)) : Option ((Int × Int × (List Block_) × Int) ⊕ (Int × Int × (List Block_))))) (c.params, c.regs, c.blocks, (b : Int))
 | 0, i, h => by rw [show i = b by omega]
 | d + 1, i, h => by
  rw [loopM_inl (jsBody0 hck hsm (j := i) (by omega) (h2 i (by omega)))]
  exact jsScan hb h2 d (i + 1) (by omega)
theorem jsHit {b n : Nat} {X Y : Block_} (h : Jn c b n X Y) (hnx : nxJ c (b : Int) = (n : Int)) : (fun (xs2_1 : Int × Int × (List Block_) × Int) => (if decide (xs2_1.2.2.2 < ((xs2_1.2.2.1.length : Int))) then Option.bind (Option.bind (spec_l18Next (⟨xs2_1.1, xs2_1.2.1, xs2_1.2.2.1⟩ : Code_) xs2_1.2.2.2) fun r3_1 => Option.bind (if decide (0 ≤ r3_1) then Option.bind (spec_l18One (⟨xs2_1.1, xs2_1.2.1, xs2_1.2.2.1⟩ : Code_) xs2_1.2.2.2 r3_1) fun r4_1 => some (r4_1.params, r4_1.regs, r4_1.blocks, -1) else some (xs2_1.1, xs2_1.2.1, xs2_1.2.2.1, xs2_1.2.2.2) : Option (Int × Int × (List Block_) × Int)) fun s3_1 => some (s3_1.1, s3_1.2.1, s3_1.2.2.1, s3_1.2.2.2) : Option (Int × Int × (List Block_) × Int)) fun s2_1 => some (.inl (s2_1.1, s2_1.2.1, s2_1.2.2.1, w64 (s2_1.2.2.2 + 1))) else some (.inr (xs2_1.1, xs2_1.2.1, xs2_1.2.2.1)) : Option ((Int × Int × (List Block_) × Int) ⊕ (Int × Int × (List Block_))))) (c.params, c.regs, c.blocks, (b : Int)) = some (.inl ((jnC c b n X Y).params, (jnC c b n X Y).regs, (jnC c b n X Y).blocks, 0)) := by
 have hlb := h.lb
 have hX : getI c.blocks (b : Int) = some X := getI_some.2 ⟨by omega, by simpa using h.hX⟩
 dsimp only
 rw [if_pos (by simp; omega)]
 refine bindt (a := ((jnC c b n X Y).params, (jnC c b n X Y).regs, (jnC c b n X Y).blocks, -1)) (bindt (specNx_ok hck hsm hX) (bindt (a := ((jnC c b n X Y).params, (jnC c b n X Y).regs, (jnC c b n X Y).blocks, -1)) ?_ rfl)) ?_
 ·rw [hnx, if_pos (by simp)]
  exact bindt (stepS hck hsm h) rfl
 ·rfl
end
theorem jnd_ok {u : Unit_} (hu : Ok u) {k : Int} : ∀ (n : Nat) (c : Code_), aliveN c < n → COk u k c → cntC c ≤ 800 → ∃ d, Jnd u k c d
 | 0, c, h, _, _ => by omega
 | N + 1, c, hN, hck, hc => by
  have hsm := sm_inv hu hck hc
  rcases first_or (fun j => decide (¬ nxJ c (j : Int) < 0)) c.blocks.length with ⟨b, h1, h2, h3⟩ | h2
  ·have h2 : ¬ nxJ c (b : Int) < 0 := of_decide_eq_true h2
   have h3 : ∀ j : Nat, j < b → nxJ c (j : Int) < 0 := fun j hj => by
    have := of_decide_eq_false (h3 j hj)
    exact Classical.not_not.1 this
   obtain ⟨x, hx, _⟩ := getI_in (xs := c.blocks) (j := (b : Int)) (by omega) (by omega)
   obtain ⟨n, Y, hn1, hJ⟩ := nxJ_jn hck hx h2
   have hless := hJ.less
   obtain ⟨d, hd⟩ := jnd_ok hu N (jnC c b n x Y) (by omega) (hJ.cok hck) (by rw [hJ.cnt]; exact hc)
   refine ⟨d, hd.ck, hd.cnt.trans hJ.cnt, hd.par, hd.nb.trans (by show (stS _ _).length = _; rw [stS_len, jn_len]), hd.j2.trans hJ.j2, .inr ?_, ?_, fun r hr => ?_⟩
   ·rcases hd.al with e | e
    ·rw [e]; exact hless
    ·omega
   ·have := jsScan hck hsm (b := b) (by omega) h3 b 0 (by omega)
    rw [show ((0 : Nat) : Int) = 0 from rfl] at this
    rw [this, loopM_inl (jsHit hck hsm hJ hn1)]
    exact hd.spec
   ·rw [loopM_inl (jnHit hck hsm hJ h3)]
    exact hd.impl r hr
  ·have h2 : ∀ j : Nat, j < c.blocks.length → nxJ c (j : Int) < 0 := fun j hj => by
    have := of_decide_eq_false (h2 j hj)
    exact Classical.not_not.1 this
   refine ⟨c, hck, rfl, rfl, rfl, rfl, .inl rfl, ?_, fun r hr => loopM_inr (jnNone hck h2 hr)⟩
   have := jsScan hck hsm (b := c.blocks.length) (Nat.le_refl _) h2 c.blocks.length 0 (by omega)
   rw [show ((0 : Nat) : Int) = 0 from rfl] at this
   rw [this]
   refine loopM_inr ?_
   dsimp only
   rw [if_neg (by simp)]
theorem cok_par {u u' : Unit_} {k : Int} {c : Code_} (hp : ∀ n, parOf u' n = parOf u n) (h : COk u k c) : COk u' k c := by
 have e : insB u' k c = insB u k c := by funext y; simp only [insB, hp]
 have e2 : blockB u' k c = blockB u k c := by funext b x; simp only [blockB, e]
 exact ⟨h.regs, h.params, h.nb, fun b x hx => by rw [e2]; exact h.blocks b x hx⟩
theorem units_ok {u : Unit_} (hu : Ok u) {g : Code_ → Code_} (hg : ∀ (j : Nat) c, u.codes[j]? = some c → COk u (j : Int) (g c) ∧ cntC (g c) ≤ cntC c ∧ (g c).params = c.params) : unitB ⟨u.codes.map g⟩ = true ∧ Small ⟨u.codes.map g⟩ := by
 have hpar : ∀ n, parOf ⟨u.codes.map g⟩ n = parOf u n := fun n => by
  unfold parOf getI
  by_cases h0 : 0 ≤ n
  ·rw [if_pos h0, if_pos h0]
   show (match (u.codes.map g)[n.toNat]? with | some c => _ | none => _) = _
   rw [List.getElem?_map]
   cases hq : u.codes[n.toNat]? with
   | none => rfl
   | some c =>
    have := (hg n.toNat c hq).2.2
    simp only [Option.map_some]
    rw [this]
  ·rw [if_neg h0, if_neg h0]
 have hv := hu.valid
 have hcnt : cntU u ≤ 800 := by
  simp only [unitB, Bool.and_eq_true, decide_eq_true_eq] at hv
  exact hv.2.2
 have hle : cntU ⟨u.codes.map g⟩ ≤ cntU u := sums_map_le (f' := cntC) fun c hc => by
  obtain ⟨j, hj⟩ := List.getElem?_of_mem hc
  exact (hg j c hj).2.1
 constructor
 ·simp only [unitB, Bool.and_eq_true, decide_eq_true_eq] at hv ⊢
  obtain ⟨h1, h2, h3⟩ := hv
  refine ⟨by simpa using h1, allI_imp (fun j c hj hc => ?_) h2, by omega⟩
  rw [show (0 : Int) + (j : Int) = j by omega]
  exact codeB_cok (cok_par hpar (hg j c hj).1)
 ·intro c' hc' b hb
  obtain ⟨c, hc, rfl⟩ := List.mem_map.1 hc'
  obtain ⟨j, hj⟩ := List.getElem?_of_mem hc
  obtain ⟨g1, g2, _⟩ := hg j c hj
  have : cntC c ≤ cntU u := sums_memU (f := cntC) hc
  have := sm_inv hu g1 (by omega) b hb
  exact ⟨this.phis, this.ins, this.next⟩
end Unt
end Go.Wk
namespace Go.Wk
open Go
namespace Unt
set_option maxRecDepth 10000
theorem pk_cok {u : Unit_} {k : Int} {c : Code_} (hck : COk u k c) {t : List Int} (hol : Ord_ c (0 :: t)) : COk u k (pkC c (0 :: t)) := by
 have hl0 : (0 :: t)[0]? = some 0 := rfl
 have hnb := hck.nb
 have hlen := hol.len
 have hbl : ((pkC c (0 :: t)).blocks.length : Int) = ((0 :: t).length : Int) := by simp [pkC]
 have hpr : ∀ i, predsL (pkC c (0 :: t)) i = predsL (stC c (0 :: t)) i := fun i => predsF_next i 0 (by
  apply List.ext_getElem?
  intro q
  show (((0 :: t).mapIdx fun i b => pkB c (0 :: t) (i : Int) b).map (·.next_))[q]? = (((0 :: t).map (stB c (0 :: t))).map (·.next_))[q]?
  rw [List.getElem?_map, List.getElem?_mapIdx, List.getElem?_map, List.getElem?_map]
  cases (0 :: t)[q]? <;> rfl)
 refine ⟨hck.regs, hck.params, ?_, fun i y hy => ?_⟩
 ·rw [hbl]
  simp only [List.length_cons] at hlen ⊢
  omega
 ·obtain ⟨i0, hy1⟩ := getI_some.1 hy
  have hy2 : ((0 :: t).mapIdx fun i b => pkB c (0 :: t) (i : Int) b)[i.toNat]? = some y := hy1
  rw [List.getElem?_mapIdx] at hy2
  obtain ⟨b, hb, hyb⟩ := Option.map_eq_some_iff.1 hy2
  have hii : ((i.toNat : Nat) : Int) = i := by omega
  rw [hii] at hyb
  subst hyb
  obtain ⟨x, hx, hxd⟩ := blk_l hol hb
  have hbk := hck.bok hx
  have hxv := hck.blocks b x hx
  simp only [blockB, Bool.and_eq_true] at hxv ⊢
  obtain ⟨x1, x2, x3, x4, x5⟩ := hxv
  rw [hbl]
  unfold pkB
  rw [hxd]
  refine ⟨by simpa using x1, x2, ?_, x4, ?_⟩
  ·rw [List.all_eq_true]
   intro n hn
   obtain ⟨m, hm, rfl⟩ := List.mem_map.1 hn
   have hm1 := hbk.next m hm
   obtain ⟨q, hq1, hq2⟩ := pl_at (next_l hol hb hx hm)
   have hql := (List.getElem?_eq_some_iff.1 hq2).1
   rw [hq1, inB_iff]
   have : q ≠ 0 := fun e => by subst e; rw [hl0] at hq2; have := Option.some.inj hq2; omega
   omega
  ·rw [List.all_eq_true] at x5 ⊢
   intro f' hf'
   obtain ⟨f, hf, rfl⟩ := List.mem_map.1 hf'
   have hfv := x5 f hf
   have hfb := hbk.phis f hf
   simp only [phiB, Bool.and_eq_true, decide_eq_true_eq] at hfv ⊢
   obtain ⟨f1, f2, f3, f4⟩ := hfv
   refine ⟨fun e => f1 ?_, f2, ?_, ?_⟩
   ·subst e
    rw [show (0 : Int).toNat = 0 from rfl, hl0] at hb
    exact (Option.some.inj hb).symm
   ·rw [hpr]; simp [pkF]
   ·simp only [regsB, List.all_eq_true] at f4 ⊢
    intro r hr
    obtain ⟨q, hq, rfl⟩ := List.mem_map.1 hr
    obtain ⟨p, p0, p1, p2, p3⟩ := news_of hol i0 hb hq
    obtain ⟨n, hn1, hn2⟩ := idx_at (xs := predsL c b) (i := 0) p3
    have hnl := (List.getElem?_eq_some_iff.1 hn2).1
    have ha := at_get (l := f.args) (i := idx p (predsL c b) 0) (by omega) (by omega)
    rw [p2]
    exact f4 _ (List.mem_of_getElem? (getI_some.1 ha).2)
section
variable {u : Unit_} (hu : Ok u) {k : Int} {c : Code_} (hck : COk u k c) (hc : cntC c ≤ 800)
include hu hck hc
theorem drop_both : ∃ t, impl_reachedOnly c = some (pkC c (0 :: t)) ∧ spec_l10Drop c = some (pkC c (0 :: t)) ∧ (Ord_ c (0 :: t) ∧ (0 :: t).Pairwise (· < ·)) ∧ COk u k (pkC c (0 :: t)) ∧ cntC (pkC c (0 :: t)) ≤ cntC c := by
 have hsm := sm_inv hu hck hc
 obtain ⟨t, h1, h2, h3, h4⟩ := reached_ok2 hck fun x hx => (hsm x hx).next
 refine ⟨t, ?_, ?_, ⟨h3, h4⟩, pk_cok hck h3, pk_cnt h3⟩
 ·unfold impl_reachedOnly
  rw [h1, Option.bind_some, picked_ok hck hsm h3]; rfl
 ·unfold spec_l10Drop
  rw [h2, Option.bind_some, pick_ok hck hsm h3]; rfl
theorem joined_both : ∃ d, impl_joined c = some d ∧ spec_l18Join c = some d ∧ COk u k d ∧ cntC d ≤ cntC c ∧ d.params = c.params ∧ ∃ t e t', (Ord_ c (0 :: t) ∧ (0 :: t).Pairwise (· < ·)) ∧ (e = pkC c (0 :: t) ∨ aliveN e < aliveN (pkC c (0 :: t))) ∧ e.blocks.length = (pkC c (0 :: t)).blocks.length ∧ (Ord_ e (0 :: t') ∧ (0 :: t').Pairwise (· < ·)) ∧ d = pkC e (0 :: t') ∧ COk u k (pkC c (0 :: t)) ∧ COk u k e ∧ sums j2 e.blocks = sums j2 (pkC c (0 :: t)).blocks := by
 obtain ⟨t, a1, a2, a3, a4, a5⟩ := drop_both hu hck hc
 obtain ⟨e, he⟩ := jnd_ok hu (k := k) _ (pkC c (0 :: t)) (Nat.lt_succ_self _) a4 (by omega)
 have hcnt := he.cnt
 obtain ⟨t', b1, b2, b3, b4, b5⟩ := drop_both hu he.ck (by omega)
 refine ⟨pkC e (0 :: t'), ?_, ?_, b4, by omega, he.par, t, e, t', a3, he.al, he.nb, b3, rfl, a4, he.ck, he.j2⟩
 ·unfold impl_joined
  rw [a1, Option.bind_some]
  exact bindt (he.impl _ b1) rfl
 ·unfold spec_l18Join
  rw [a2, Option.bind_some]
  refine bindt (bindt he.spec rfl) ?_
  exact bindt b2 rfl
end
theorem each_ok2 (u : Unit_) (hf : Fits u) (pass : Str) (f : Code_ → Option Code_) (g : Code_ → Code_)
  (h : Ok u → (∀ (l : List Code_) x r, u.codes = l ++ x :: r → f x = some (g x) ∧ spec_l10Turn x pass = some (g x)) ∧ unitB ⟨u.codes.map g⟩ = true ∧ Small ⟨u.codes.map g⟩) : ∃ r b, impl_perCode u f = some (r, b) ∧ spec_l10Each u pass = some (r, b) ∧ (wCodeS r.codes : Int) ≤ 900000000 := by
 have hs := hf.small
 unfold impl_perCode spec_l10Each
 rw [implValid_ok u hs, specValid_ok u hs, Option.bind_some, Option.bind_some]
 cases hv : unitB u
 ·exact ⟨⟨[]⟩, false, rfl, rfl, by decide⟩
 ·have hu : Ok u := ⟨hv, hs⟩
  have hcodes := hu.codes
  obtain ⟨hboth, hev, hf'⟩ := h hu
  refine ⟨⟨u.codes.map g⟩, true, ?_, ?_, valid_w ⟨hev, hf'⟩⟩
  ·simp only [Bool.not_true, Bool.false_eq_true, if_false]
   have h1 := mapLoop (xs := u.codes) (body := (fun (i1_1 : Int) (xs1_1 : (List Code_)) => (Option.bind (getI u.codes i1_1) fun x1_1 => Option.bind (f x1_1) fun r1_1 => Option.bind (appM xs1_1 ([r1_1] : List Code_)) fun ys1_1 => some (.inl ys1_1) : Option (((List Code_)) ⊕ (Empty))))) g (by omega) (fun l x r s he hs => by
    rw [he, getI_mid, Option.bind_some, (hboth l x r he).1, Option.bind_some, appM_ok (by simpa using hs)]; rfl)
   exact bindt (a := u.codes.map g) (bindt h1 rfl) rfl
  ·simp only [Bool.not_true, Bool.false_eq_true, if_false]
   have h1 := mapLoop (xs := u.codes) (body := (fun (i1_1 : Int) (xs1_1 : (List Code_)) => (Option.bind (getI u.codes i1_1) fun x1_1 => Option.bind (spec_l10Turn x1_1 pass) fun r1_1 => Option.bind (appM xs1_1 ([r1_1] : List Code_)) fun ys1_1 => some (.inl ys1_1) : Option (((List Code_)) ⊕ (Empty))))) g (by omega) (fun l x r s he hs => by
    rw [he, getI_mid, Option.bind_some, (hboth l x r he).2, Option.bind_some, appM_ok (by simpa using hs)]; rfl)
   refine bindt h1 ?_
   show Option.bind (spec_UnitValid ⟨u.codes.map g⟩) _ = _
   rw [specValid_ok _ hf', hev]; rfl
theorem cnt_of {u : Unit_} (hu : Ok u) {c : Code_} (hc : c ∈ u.codes) : cntC c ≤ 800 := by
 have hv := hu.valid
 simp only [unitB, Bool.and_eq_true, decide_eq_true_eq] at hv
 have : cntC c ≤ cntU u := sums_memU (f := cntC) hc
 have := hv.2.2
 omega
end Unt
end Go.Wk
namespace Go.Wk
open Go
namespace Unt
set_option maxRecDepth 10000
def evenB (x : Block_) : Block_ := if decide (x.jump = 2) && decide (at_ x.next_ 0 = at_ x.next_ 1) then ⟨x.phis, x.ins, 1, 0, [at_ x.next_ 0]⟩ else x
def evenC (c : Code_) : Code_ := ⟨c.params, c.regs, c.blocks.map evenB⟩
theorem evenB_mem {x : Block_} (h : x.jump = 2 → x.next_.length = 2) (b : Int) : b ∈ (evenB x).next_ ↔ b ∈ x.next_ := by
 unfold evenB
 by_cases q : (decide (x.jump = 2) && decide (at_ x.next_ 0 = at_ x.next_ 1)) = true
 ·rw [if_pos q]
  simp only [Bool.and_eq_true, decide_eq_true_eq] at q
  obtain ⟨y, z, e⟩ : ∃ y z, x.next_ = [y, z] := by
   have := h q.1
   match hn : x.next_ with
   | [y, z] => exact ⟨y, z, rfl⟩
   | [] => rw [hn] at this; simp at this
   | [_] => rw [hn] at this; simp at this
   | _ :: _ :: _ :: _ => rw [hn] at this; simp at this
  rw [e] at q ⊢
  have q2 : y = z := q.2
  subst q2
  show b ∈ [y] ↔ b ∈ [y, y]
  simp
 ·rw [if_neg q]
theorem preds_even (b : Int) : ∀ (l : List Block_) (i : Int), (∀ x ∈ l, x.jump = 2 → x.next_.length = 2) → predsF b (l.map evenB) i = predsF b l i
 | [], _, _ => rfl
 | x :: r, i, h => by
  have h1 := evenB_mem (h x (by simp)) b
  have h2 := preds_even b r (i + 1) (fun y hy => h y (by simp [hy]))
  simp only [List.map_cons, predsF, h1, h2]
section
variable {u : Unit_} {k : Int} {c : Code_} (hck : COk u k c)
include hck
theorem jump2 {x : Block_} (hx : x ∈ c.blocks) : x.jump = 2 → x.next_.length = 2 := fun hj => by
 obtain ⟨n, hn⟩ := List.getElem?_of_mem hx
 have hb := hck.bok (b := (n : Int)) (x := x) (getI_some.2 ⟨by omega, by simpa using hn⟩)
 have := hb.jump
 omega
theorem even_both (hl : ∀ b ∈ c.blocks, SmB b) : impl_even c = some (evenC c) ∧ spec_l18Even c = some (evenC c) := by
 have hnb := hck.nb
 have hlen : c.blocks.length ≤ 1048576 := by omega
 have hg : ∀ x ∈ c.blocks, x.jump = 2 → getI x.next_ 0 = some (at_ x.next_ 0) ∧ getI x.next_ 1 = some (at_ x.next_ 1) ∧ subM x.next_ 0 1 = some [at_ x.next_ 0] := fun x hx hj => by
  have h2 := jump2 hck hx hj
  refine ⟨at_get (by decide) (by omega), at_get (by decide) (by omega), subM_some.2 ⟨⟨by decide, by decide, by omega⟩, ?_⟩⟩
  match hn : x.next_ with
  | [y, z] => rfl
  | [] => rw [hn] at h2; simp at h2
  | [_] => rw [hn] at h2; simp at h2
  | _ :: _ :: _ :: _ => rw [hn] at h2; simp at h2
 constructor
 ·unfold impl_even
  rw [cloneCode_ok c hlen hl, Option.bind_some]
  have h1 := updLoop (xs := c.blocks) (body := (fun (i1_1 : Int) (xs1_1 : (List Block_)) => (Option.bind (Option.bind (getI xs1_1 i1_1) fun x2_1 => Option.bind (if decide (x2_1.jump = 2) then Option.bind (getI x2_1.next_ 0) fun x3_1 => Option.bind (getI x2_1.next_ 1) fun x3_2 => some (decide (x3_1 = x3_2)) else some false : Option (Bool)) fun s2_1 => Option.bind (if s2_1 then Option.bind (subM x2_1.next_ 0 1) fun x3_3 => some (xs1_1.set (i1_1).toNat (⟨x2_1.phis, x2_1.ins, 1, 0, x3_3⟩ : Block_)) else some xs1_1 : Option ((List Block_))) fun s2_2 => some s2_2 : Option ((List Block_))) fun s1_1 => some (.inl s1_1) : Option (((List Block_)) ⊕ (Empty))))) evenB (fun l x r hx => by
   simp only [getI_mid, Option.bind_some, Int.toNat_natCast, set_mid]
   unfold evenB
   by_cases hj : x.jump = 2
   ·obtain ⟨g1, g2, g3⟩ := hg x hx hj
    simp only [hj, decide_true, if_true, g1, g2, g3, Option.bind_some, Bool.true_and]
    by_cases e : at_ x.next_ 0 = at_ x.next_ 1
    ·simp only [e, decide_true, if_true, Option.bind_some]
    ·simp only [e, decide_false, Bool.false_eq_true, if_false, Option.bind_some]
   ·simp only [hj, decide_false, Bool.false_eq_true, if_false, Option.bind_some, Bool.false_and])
  exact bindt h1 rfl
 ·unfold spec_l18Even
  rw [l7Copy_ok c hlen hl, Option.bind_some]
  have h1 := updLoop (xs := c.blocks) (body := (fun (i1_1 : Int) (xs1_1 : (List Block_)) => (Option.bind (Option.bind (getI xs1_1 i1_1) fun x2_1 => Option.bind (if decide (x2_1.jump = 2) then Option.bind (getI x2_1.next_ 0) fun x3_1 => Option.bind (getI x2_1.next_ 1) fun x3_2 => some (decide (x3_1 = x3_2)) else some false : Option (Bool)) fun s2_1 => Option.bind (if s2_1 then Option.bind (getI x2_1.next_ 0) fun x3_3 => some (xs1_1.set (i1_1).toNat (⟨x2_1.phis, x2_1.ins, 1, 0, ([x3_3] : List Int)⟩ : Block_)) else some xs1_1 : Option ((List Block_))) fun s2_2 => some s2_2 : Option ((List Block_))) fun s1_1 => some (.inl s1_1) : Option (((List Block_)) ⊕ (Empty))))) evenB (fun l x r hx => by
   simp only [getI_mid, Option.bind_some, Int.toNat_natCast, set_mid]
   unfold evenB
   by_cases hj : x.jump = 2
   ·obtain ⟨g1, g2, g3⟩ := hg x hx hj
    simp only [hj, decide_true, if_true, g1, g2, Option.bind_some, Bool.true_and]
    by_cases e : at_ x.next_ 0 = at_ x.next_ 1
    ·simp only [e, decide_true, if_true, Option.bind_some]
    ·simp only [e, decide_false, Bool.false_eq_true, if_false, Option.bind_some]
   ·simp only [hj, decide_false, Bool.false_eq_true, if_false, Option.bind_some, Bool.false_and])
  exact bindt h1 rfl
end
end Unt
end Go.Wk
namespace Go.Wk
open Go
namespace Unt
set_option maxRecDepth 10000
def muC (c : Code_) : Nat := c.blocks.length + sums j2 c.blocks
section
variable {c : Code_} {t : List Int} (hol : Ord_ c (0 :: t)) (hs : (0 :: t).Pairwise (· < ·))
include hol
theorem pk_j2 : sums j2 (pkC c (0 :: t)).blocks ≤ sums j2 c.blocks := by
 refine Nat.le_trans (sums_mapIdx_le (f := j2) (f' := fun b => j2 (blkD c b)) fun i b hb => ?_) (sel_blocks hol j2)
 exact Nat.le_refl _
theorem pk_len : (pkC c (0 :: t)).blocks.length = t.length + 1 := by have _ := hol; simp [pkC]
include hs
theorem ord_all (hl : t.length + 1 = c.blocks.length) : ∀ (i : Nat), i < c.blocks.length → (0 :: t)[i]? = some (i : Int) := by
 have hle : ∀ i : Nat, ∀ x, (0 :: t)[i]? = some x → (i : Int) ≤ x := by
  intro i
  induction i with
  | zero => intro x hx; have := hol.rng x (List.mem_of_getElem? hx); omega
  | succ i ih =>
   intro x hx
   have hil := (List.getElem?_eq_some_iff.1 hx).1
   have h1 := ih _ (List.getElem?_eq_getElem (by omega))
   have h2 := List.pairwise_iff_getElem.1 hs i (i + 1) (by omega) hil (by omega)
   have h3 := (List.getElem?_eq_some_iff.1 hx).2
   omega
 have hge : ∀ d i : Nat, i + d + 1 = c.blocks.length → ∀ x, (0 :: t)[i]? = some x → x ≤ (i : Int) := by
  intro d
  induction d with
  | zero => intro i hi x hx; have := hol.rng x (List.mem_of_getElem? hx); omega
  | succ d ih =>
   intro i hi x hx
   have hil : i + 1 < (0 :: t).length := by simp; omega
   have h1 := ih (i + 1) (by omega) _ (List.getElem?_eq_getElem hil)
   have h2 := List.pairwise_iff_getElem.1 hs i (i + 1) (by omega) hil (by omega)
   have h3 := (List.getElem?_eq_some_iff.1 hx).2
   omega
 intro i hi
 have hx := List.getElem?_eq_getElem (l := 0 :: t) (i := i) (by simp; omega)
 have h1 := hle i _ hx
 have h2 := hge (c.blocks.length - i - 1) i (by omega) _ hx
 rw [hx]
 congr 1
 omega
theorem pk_same {u : Unit_} {k : Int} (hck : COk u k c) (hl : t.length + 1 = c.blocks.length) : pkC c (0 :: t) = c := by
 have hall := ord_all hol hs hl
 have hmem : ∀ n : Int, 0 ≤ n → n < (c.blocks.length : Int) → n ∈ 0 :: t ∧ pl (0 :: t) n = n := fun n h0 h1 => by
  have h := hall n.toNat (by omega)
  rw [show ((n.toNat : Nat) : Int) = n by omega] at h
  refine ⟨List.mem_of_getElem? h, ?_⟩
  unfold pl
  rw [idx_of hol.nodup h]; omega
 have hst : ∀ i, predsL (stC c (0 :: t)) i = predsL c i := fun i => predsF_next i 0 (by
  apply List.ext_getElem?
  intro q
  show (((0 :: t).map (stB c (0 :: t))).map (·.next_))[q]? = (c.blocks.map (·.next_))[q]?
  rw [List.getElem?_map, List.getElem?_map, List.getElem?_map]
  by_cases hq : q < c.blocks.length
  ·rw [hall q hq, List.getElem?_eq_getElem hq]
   have hg : getI c.blocks (q : Int) = some c.blocks[q] := getI_some.2 ⟨by omega, by simp⟩
   have hb := hck.bok hg
   simp only [Option.map_some]
   congr 1
   show (blkD c (q : Int)).next_.map _ = _
   rw [blkD_get hg]
   conv => rhs; rw [← List.map_id c.blocks[q].next_]
   exact List.map_congr_left fun n hn => by
    have := hb.next n hn
    exact (hmem n (by omega) (by omega)).2
  ·rw [List.getElem?_eq_none (by simp; omega), List.getElem?_eq_none (by omega)]; rfl)
 have hbl : ((0 :: t).mapIdx fun i b => pkB c (0 :: t) (i : Int) b) = c.blocks := by
  apply List.ext_getElem?
  intro q
  rw [List.getElem?_mapIdx]
  by_cases hq : q < c.blocks.length
  ·rw [hall q hq, List.getElem?_eq_getElem hq]
   have hg : getI c.blocks (q : Int) = some c.blocks[q] := getI_some.2 ⟨by omega, by simp⟩
   have hb := hck.bok hg
   simp only [Option.map_some]
   congr 1
   unfold pkB
   rw [blkD_get hg]
   have e1 : c.blocks[q].next_.map (pl (0 :: t)) = c.blocks[q].next_ := by
    conv => rhs; rw [← List.map_id c.blocks[q].next_]
    exact List.map_congr_left fun n hn => by
     have := hb.next n hn
     exact (hmem n (by omega) (by omega)).2
   have e2 : c.blocks[q].phis.map (pkF c (0 :: t) (q : Int) (q : Int)) = c.blocks[q].phis := by
    conv => rhs; rw [← List.map_id c.blocks[q].phis]
    refine List.map_congr_left fun f hf => ?_
    have hfl := (hb.phis f hf).2.2.1
    unfold pkF
    rw [hst]
    have : (predsL c (q : Int)).map (fun j => at_ f.args (idx (at_ (0 :: t) j) (predsL c (q : Int)) 0)) = f.args := by
     refine Eq.trans ?_ (args_id (predsL_nodup c (q : Int)) hfl)
     refine List.map_congr_left fun j hj => ?_
     obtain ⟨y, hy, _⟩ := predsL_iff.1 hj
     have hjr := getI_pos hy
     have := hall j.toNat (by omega)
     have e : at_ (0 :: t) j = j := by
      unfold at_
      rw [List.getD_eq_getElem?_getD, this]
      show ((j.toNat : Nat) : Int) = j
      omega
     rw [e]
    rw [this]; rfl
   rw [e1, e2]
  ·rw [List.getElem?_eq_none (by simp; omega), List.getElem?_eq_none (by omega)]; rfl
 unfold pkC
 rw [hbl]
theorem pk_mu {u : Unit_} {k : Int} (hck : COk u k c) : pkC c (0 :: t) = c ∨ muC (pkC c (0 :: t)) < muC c := by
 have h1 := pk_j2 hol
 have h2 := pk_len hol
 have h3 := hol.len
 by_cases e : t.length + 1 = c.blocks.length
 ·exact .inl (pk_same hol hs hck e)
 ·right
  unfold muC
  simp only [List.length_cons] at h3
  omega
omit hs in
theorem ord_alive : t.length + 1 ≤ aliveN c := by
 have hnd := hol.nodup
 have h := nodup_lenN (l := (0 :: t).map Int.toNat) (l' := (List.range c.blocks.length).filter (aliveB c)) (nodup_map hnd fun a ha b hb e => by have := hol.rng a ha; have := hol.rng b hb; omega) fun m hm => by
  obtain ⟨a, ha, rfl⟩ := List.mem_map.1 hm
  have hr := hol.rng a ha
  refine List.mem_filter.2 ⟨List.mem_range.2 (by omega), aliveB_iff.2 ?_⟩
  rcases hol.led a ha with e | ⟨p, p1, p2, p3⟩
  ·left; omega
  ·right
   have hpr := hol.rng p p1
   obtain ⟨y, hy, _⟩ := getI_in (xs := c.blocks) (j := p) hpr.1 hpr.2
   rw [nextOf_get hy] at p3
   rw [show ((a.toNat : Nat) : Int) = a by omega]
   exact ⟨p, predsL_iff.2 ⟨y, hy, p3⟩, p2⟩
 simp only [List.length_map, List.length_cons] at h
 exact h
end
theorem alive_le (c : Code_) : aliveN c ≤ c.blocks.length := by
 unfold aliveN
 refine Nat.le_trans (List.length_filter_le _ _) ?_
 simp
section
variable {u : Unit_} (hu : Ok u) {k : Int} {c : Code_} (hck : COk u k c) (hc : cntC c ≤ 800)
include hu hck hc
theorem drop_mu : ∃ d, impl_reachedOnly c = some d ∧ spec_l10Drop c = some d ∧ COk u k d ∧ cntC d ≤ cntC c ∧ d.params = c.params ∧ (d = c ∨ muC d < muC c) := by
 obtain ⟨t, h1, h2, h3, h4, h5⟩ := drop_both hu hck hc
 exact ⟨_, h1, h2, h4, h5, rfl, pk_mu h3.1 h3.2 hck⟩
omit hc in
theorem even_cok : COk u k (evenC c) := by
 have _ := hu
 have hnx : ∀ x ∈ c.blocks, x.jump = 2 → x.next_.length = 2 := fun x hx => jump2 hck hx
 have hp : ∀ b, predsL (evenC c) b = predsL c b := fun b => preds_even b c.blocks 0 hnx
 have hbl : ((evenC c).blocks.length : Int) = (c.blocks.length : Int) := by simp [evenC]
 refine ⟨hck.regs, hck.params, by rw [hbl]; exact hck.nb, fun i y hy => ?_⟩
 obtain ⟨i0, i1⟩ := getI_some.1 hy
 have i2 : (c.blocks.map evenB)[i.toNat]? = some y := i1
 rw [List.getElem?_map] at i2
 obtain ⟨x, hx, rfl⟩ := Option.map_eq_some_iff.1 i2
 have hxm := List.mem_of_getElem? hx
 have hv := hck.blocks i x (getI_some.2 ⟨i0, hx⟩)
 have hphi : phiB (evenC c) i = phiB c i := by
  funext y
  simp only [phiB, hp]
  rfl
 have hins : insB u k (evenC c) = insB u k c := rfl
 simp only [blockB, Bool.and_eq_true] at hv ⊢
 obtain ⟨x1, x2, x3, x4, x5⟩ := hv
 rw [hbl, hphi, hins]
 unfold evenB
 by_cases q : (decide (x.jump = 2) && decide (at_ x.next_ 0 = at_ x.next_ 1)) = true
 ·rw [if_pos q]
  simp only [Bool.and_eq_true, decide_eq_true_eq] at q
  refine ⟨by simp [jumpN], by simp, ?_, x4, x5⟩
  have h2 := hnx x hxm q.1
  rw [List.all_eq_true] at x3 ⊢
  intro n hn
  rw [List.mem_singleton.1 hn]
  refine x3 _ ?_
  match hn2 : x.next_ with
  | [y, z] => simp [at_]
  | [] => rw [hn2] at h2; simp at h2
  | [_] => rw [hn2] at h2; simp at h2
  | _ :: _ :: _ :: _ => rw [hn2] at h2; simp at h2
 ·rw [if_neg q]
  exact ⟨x1, x2, x3, x4, x5⟩
theorem even_mu : ∃ d, impl_even c = some d ∧ spec_l18Even c = some d ∧ COk u k d ∧ cntC d ≤ cntC c ∧ d.params = c.params ∧ (d = c ∨ muC d < muC c) := by
 obtain ⟨h1, h2⟩ := even_both hck (sm_inv hu hck hc)
 refine ⟨evenC c, h1, h2, even_cok hu hck, ?_, rfl, ?_⟩
 ·refine sums_map_le (f' := cntB) fun x _ => ?_
  unfold evenB
  split <;> exact Nat.le_refl _
 ·have key : ∀ xs : List Block_, xs.map evenB = xs ∨ sums j2 (xs.map evenB) < sums j2 xs := by
   intro xs
   induction xs with
   | nil => exact .inl rfl
   | cons x r ih =>
    have hx : evenB x = x ∨ j2 (evenB x) < j2 x := by
     unfold evenB
     by_cases q : (decide (x.jump = 2) && decide (at_ x.next_ 0 = at_ x.next_ 1)) = true
     ·right
      rw [if_pos q]
      simp only [Bool.and_eq_true, decide_eq_true_eq] at q
      unfold j2
      simp [q.1]
     ·rw [if_neg q]; exact .inl rfl
    have hle : ∀ {a b : Block_}, (a = b ∨ j2 a < j2 b) → j2 a ≤ j2 b := fun h => by
     rcases h with e | e
     ·rw [e]; exact Nat.le_refl _
     ·omega
    have h1 := hle hx
    have h2 : sums j2 (r.map evenB) ≤ sums j2 r := by
     rcases ih with e | e
     ·rw [e]; exact Nat.le_refl _
     ·omega
    simp only [List.map_cons, sums]
    rcases hx with e | e
    ·rcases ih with e2 | e2
     ·left; rw [e, e2]
     ·right; omega
    ·right; omega
  have hl : (evenC c).blocks.length = c.blocks.length := by simp [evenC]
  rcases key c.blocks with e | e
  ·left
   show (⟨c.params, c.regs, c.blocks.map evenB⟩ : Code_) = c
   rw [e]
  ·right
   unfold muC
   have : sums j2 (evenC c).blocks < sums j2 c.blocks := e
   omega
theorem skip_mu : ∃ d, impl_skipEmpty c = some d ∧ spec_l18Skip c = some d ∧ COk u k d ∧ cntC d ≤ cntC c ∧ d.params = c.params ∧ (d = c ∨ muC d < muC c) := by
 have hsm := sm_inv hu hck hc
 have hy := skC_ok hck hsm
 have hck2 : COk u k (skC c) := hy.ck
 have hcnt : cntC (skC c) = cntC c := hy.cnt
 have hmu : skC c = c ∨ aliveN (skC c) < aliveN c := hy.al
 have hj2 : sums j2 (skC c).blocks = sums j2 c.blocks := hy.j2
 have hlen : (skC c).blocks.length = c.blocks.length := hy.len
 have hnb := hck.nb
 obtain ⟨t, h1, h2, h3, h4, h5⟩ := drop_both hu hck2 (by omega)
 refine ⟨_, ?_, ?_, h4, by omega, rfl, ?_⟩
 ·unfold impl_skipEmpty
  rw [cloneCode_ok c (by omega) hsm, Option.bind_some]
  exact bindt (hy.impl _ h1) rfl
 ·unfold spec_l18Skip
  rw [l7Copy_ok c (by omega) hsm, Option.bind_some]
  refine bindt (a := (skC c).blocks) (bindt hy.spec rfl) ?_
  exact bindt h2 rfl
 ·rcases hmu with e | e
  ·have := pk_mu h3.1 h3.2 hck2
   rw [e] at this ⊢
   exact this
  ·right
   have a1 := ord_alive h3.1
   have a2 := alive_le c
   have a3 := pk_j2 h3.1
   have a4 := pk_len h3.1
   unfold muC
   omega
theorem join_mu : ∃ d, impl_joined c = some d ∧ spec_l18Join c = some d ∧ COk u k d ∧ cntC d ≤ cntC c ∧ d.params = c.params ∧ (d = c ∨ muC d < muC c) := by
 obtain ⟨d, a1, a2, a3, a4, a5, t, e, t', h1, h2, h3, h4, h5, hck1, hcke, hje⟩ := joined_both hu hck hc
 refine ⟨d, a1, a2, a3, a4, a5, ?_⟩
 subst h5
 have m1 := pk_mu h1.1 h1.2 hck
 rcases h2 with e2 | e2
 ·have m2 := pk_mu h4.1 h4.2 hcke
  rw [e2] at m2 ⊢
  rcases m1 with e3 | e3
  ·rcases m2 with e4 | e4
   ·left; rw [e4]; exact e3
   ·right; rw [e3] at e4 ⊢; exact e4
  ·right
   rcases m2 with e4 | e4
   ·rw [e4]; exact e3
   ·omega
 ·right
  have b1 := ord_alive h4.1
  have b2 := alive_le (pkC c (0 :: t))
  have b3 := pk_j2 h4.1
  have b4 := pk_len h4.1
  have b5 := pk_len h1.1
  have b6 := h1.1.len
  have b7 := pk_j2 h1.1
  simp only [List.length_cons] at b6
  unfold muC
  omega
end
end Unt
end Go.Wk
namespace Go.Wk
open Go
namespace Unt
set_option maxRecDepth 10000
section
variable {u : Unit_} (hu : Ok u) {k : Int}
include hu
theorem step_both {c : Code_} (hck : COk u k c) (hc : cntC c ≤ 800) : ∃ a b d e, impl_reachedOnly c = some a ∧ impl_even a = some b ∧ impl_skipEmpty b = some d ∧ impl_joined d = some e ∧ spec_l10Drop c = some a ∧ spec_l18Even a = some b ∧ spec_l18Skip b = some d ∧ spec_l18Join d = some e ∧
  COk u k e ∧ cntC e ≤ cntC c ∧ e.params = c.params ∧ (e = c ∨ muC e < muC c) := by
 obtain ⟨a, a1, a2, a3, a4, a5, a6⟩ := drop_mu hu hck hc
 obtain ⟨b, b1, b2, b3, b4, b5, b6⟩ := even_mu hu a3 (by omega)
 obtain ⟨d, d1, d2, d3, d4, d5, d6⟩ := skip_mu hu b3 (by omega)
 obtain ⟨e, e1, e2, e3, e4, e5, e6⟩ := join_mu hu d3 (by omega)
 refine ⟨a, b, d, e, a1, b1, d1, e1, a2, b2, d2, e2, e3, by omega, by rw [e5, d5, b5, a5], ?_⟩
 have tr : ∀ {x y z : Code_}, (x = y ∨ muC x < muC y) → (y = z ∨ muC y < muC z) → (x = z ∨ muC x < muC z) := fun h1 h2 => by
  rcases h1 with h1 | h1
  ·rw [h1]; exact h2
  ·rcases h2 with h2 | h2
   ·rw [← h2]; exact .inr h1
   ·exact .inr (by omega)
 exact tr e6 (tr d6 (tr b6 a6))
theorem cleanI : ∀ (n : Nat) (c : Code_), muC c < n → COk u k c → cntC c ≤ 800 → ∃ d, COk u k d ∧ cntC d ≤ cntC c ∧ d.params = c.params ∧ loopM (fun (xs1_1 : Int × Int × (List Block_)) => (Option.bind (impl_reachedOnly (⟨xs1_1.1, xs1_1.2.1, xs1_1.2.2⟩ : Code_)) fun r1_1 => Option.bind (impl_even r1_1) fun r1_2 => Option.bind (impl_skipEmpty r1_2) fun r1_3 => Option.bind (impl_joined r1_3) fun r1_4 => Option.bind (impl_sameCode r1_4 (⟨xs1_1.1, xs1_1.2.1, xs1_1.2.2⟩ : Code_)) fun r1_5 => if r1_5 then some (.inr r1_4) else some (.inl (r1_4.params, r1_4.regs, r1_4.blocks)) : Option ((Int × Int × (List Block_)) ⊕ (Code_)))) (c.params, c.regs, c.blocks) = some d ∧ spec_l18Clean c = some d
 | 0, c, h, _, _ => by omega
 | n + 1, c, hn, hck, hc => by
  obtain ⟨a, b, d, e, i1, i2, i3, i4, s1, s2, s3, s4, h1, h2, h3, h4⟩ := step_both hu hck hc
  by_cases he : e = c
  ·refine ⟨e, h1, h2, h3, loopM_inr ?_, ?_⟩
   ·dsimp only
    refine bindt i1 (bindt i2 (bindt i3 (bindt i4 ?_)))
    refine bindt (sameCode_ok e c) ?_
    rw [decide_eq_true he]; rfl
   ·unfold spec_l18Clean
    refine bindt s1 (bindt s2 (bindt s3 (bindt s4 ?_)))
    refine bindt (a := (e.params, e.regs, e.blocks)) (bindt (loopM_inr ?_) rfl) rfl
    refine bindt (sameCodeS_ok e c) ?_
    rw [decide_eq_true he]; rfl
  ·have hlt : muC e < muC c := h4.resolve_left he
   obtain ⟨z, z1, z2, z3, z4, z5⟩ := cleanI n e (by omega) h1 (by omega)
   refine ⟨z, z1, by omega, z3.trans h3, (loopM_inl ?_).trans z4, ?_⟩
   ·dsimp only
    refine bindt i1 (bindt i2 (bindt i3 (bindt i4 ?_)))
    refine bindt (sameCode_ok e c) ?_
    rw [decide_eq_false he]; rfl
   ·
    obtain ⟨a', b', d', e', j1, j2, j3, j4, t1, t2, t3, t4, _⟩ := step_both hu h1 (by omega)
    have hz : spec_l18Clean e = some z := z5
    unfold spec_l18Clean at hz ⊢
    rw [t1, Option.bind_some, t2, Option.bind_some, t3, Option.bind_some, t4, Option.bind_some] at hz
    refine bindt s1 (bindt s2 (bindt s3 (bindt s4 ?_)))
    rw [show loopM (fun (xs2_1 : Int × Int × (List Block_) × Int × Int × (List Block_)) => (Option.bind (spec_l7SameCode (⟨xs2_1.2.2.2.1, xs2_1.2.2.2.2.1, xs2_1.2.2.2.2.2⟩ : Code_) (⟨xs2_1.1, xs2_1.2.1, xs2_1.2.2.1⟩ : Code_)) fun r2_1 => if !(r2_1) then Option.bind (spec_l10Drop (⟨xs2_1.2.2.2.1, xs2_1.2.2.2.2.1, xs2_1.2.2.2.2.2⟩ : Code_)) fun r2_2 => Option.bind (spec_l18Even r2_2) fun r2_3 => Option.bind (spec_l18Skip r2_3) fun r2_4 => Option.bind (spec_l18Join r2_4) fun r2_5 => some (.inl (xs2_1.2.2.2.1, xs2_1.2.2.2.2.1, xs2_1.2.2.2.2.2, r2_5.params, r2_5.regs, r2_5.blocks)) else some (.inr (xs2_1.2.2.2.1, xs2_1.2.2.2.2.1, xs2_1.2.2.2.2.2)) : Option ((Int × Int × (List Block_) × Int × Int × (List Block_)) ⊕ (Int × Int × (List Block_))))) (c.params, c.regs, c.blocks, e.params, e.regs, e.blocks) = loopM (fun (xs2_1 : Int × Int × (List Block_) × Int × Int × (List Block_)) => (Option.bind (spec_l7SameCode (⟨xs2_1.2.2.2.1, xs2_1.2.2.2.2.1, xs2_1.2.2.2.2.2⟩ : Code_) (⟨xs2_1.1, xs2_1.2.1, xs2_1.2.2.1⟩ : Code_)) fun r2_1 => if !(r2_1) then Option.bind (spec_l10Drop (⟨xs2_1.2.2.2.1, xs2_1.2.2.2.2.1, xs2_1.2.2.2.2.2⟩ : Code_)) fun r2_2 => Option.bind (spec_l18Even r2_2) fun r2_3 => Option.bind (spec_l18Skip r2_3) fun r2_4 => Option.bind (spec_l18Join r2_4) fun r2_5 => some (.inl (xs2_1.2.2.2.1, xs2_1.2.2.2.2.1, xs2_1.2.2.2.2.2, r2_5.params, r2_5.regs, r2_5.blocks)) else some (.inr (xs2_1.2.2.2.1, xs2_1.2.2.2.2.1, xs2_1.2.2.2.2.2)) : Option ((Int × Int × (List Block_) × Int × Int × (List Block_)) ⊕ (Int × Int × (List Block_))))) (e.params, e.regs, e.blocks, e'.params, e'.regs, e'.blocks) from loopM_inl (by
     dsimp only
     refine bindt (sameCodeS_ok e c) ?_
     rw [decide_eq_false he]
     simp only [Bool.not_false, if_true]
     exact bindt t1 (bindt t2 (bindt t3 (bindt t4 rfl))))]
    exact hz
theorem clean_both {c : Code_} (hck : COk u k c) (hc : cntC c ≤ 800) : ∃ d, impl_clean c = some d ∧ spec_l18Clean c = some d ∧ COk u k d ∧ cntC d ≤ cntC c ∧ d.params = c.params := by
 obtain ⟨d, d1, d2, d3, d4, d5⟩ := cleanI hu _ c (Nat.lt_succ_self _) hck hc
 refine ⟨d, ?_, d5, d1, d2, d3⟩
 unfold impl_clean
 exact bindt d4 rfl
end
theorem cleanUnit_ok (u : Unit_) (hf : Fits u) : ∃ r b, impl_CleanUnit u = some (r, b) ∧ spec_CleanUnit u = some (r, b) ∧ (wCodeS r.codes : Int) ≤ 900000000 := by
 obtain ⟨r, b, h1, h2, h3⟩ := each_ok2 u hf (mkS [99, 108, 101, 97, 110]) (fun y0 => impl_clean y0) (fun c => (impl_clean c).getD c) (fun hu => by
  have hof : ∀ (j : Nat) c, u.codes[j]? = some c → ∃ d, impl_clean c = some d ∧ spec_l18Clean c = some d ∧ COk u (j : Int) d ∧ cntC d ≤ cntC c ∧ d.params = c.params := fun j c hj => by
   obtain ⟨hck, _⟩ := code_sm hu hf hj
   exact clean_both hu hck (cnt_of hu (List.mem_of_getElem? hj))
  obtain ⟨v1, v2⟩ := units_ok hu (g := fun c => (impl_clean c).getD c) (fun j c hj => by
   obtain ⟨d, a1, _, a3, a4, a5⟩ := hof j c hj
   rw [a1]; exact ⟨a3, a4, a5⟩)
  refine ⟨fun l x r he => ?_, v1, v2⟩
  obtain ⟨d, a1, a2, _⟩ := hof l.length x (by rw [he]; simp)
  rw [a1]
  refine ⟨rfl, ?_⟩
  unfold spec_l10Turn
  show Option.bind (spec_l18Clean x) _ = _
  rw [a2]; rfl)
 exact ⟨r, b, bindt h1 rfl, bindt h2 rfl, h3⟩
theorem lawCleanUnit (u : Unit_) (hl : LUnit u) : laws_FnExactCleanUnit u = some true := by
 unfold laws_FnExactCleanUnit
 rw [szUnit_ok u hl (by decide) (by decide), Option.bind_some, lt0 (by decide)]
 by_cases hn : (nUnit u : Int) ≤ 1048576
 rotate_left
 ·simp [hn]
 have hf : Fits u := by unfold Fits; omega
 have hw := w_le u
 obtain ⟨r, b, h1, h2, h3⟩ := cleanUnit_ok u hf
 have hm1 := markUnit_ok u 1 (by decide) (by unfold BM; omega)
 have hm2 := markUnit_ok r 1 (by decide) (by unfold BM; omega)
 have hh2 := heldUnit_ok r 1 (by decide) (by unfold BM; omega)
 have e1 : ¬ (1 + (wCodeS u.codes : Int) < 0) := by omega
 have e2 : ¬ (1 + (wCodeS r.codes : Int) < 0) := by omega
 simp only [hn, decide_true, Bool.not_true, Bool.false_eq_true, if_false, toUnit_ok u hf, Option.bind_some, h1, h2, eqUnit_ok, hm1, hm2, hh2, e1, e2, decide_false, ne_eq, not_true_eq_false]
end Unt
end Go.Wk
