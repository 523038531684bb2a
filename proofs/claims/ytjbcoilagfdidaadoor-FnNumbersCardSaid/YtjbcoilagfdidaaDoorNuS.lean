/- A part of the proof of FnNumbersCardSaid. -/
import Derived.Test.YtjbcoilagfdidaaDoorNuR
/- Bent units, inputs, and the draws of runs. -/
namespace Go.Wk
open Go
namespace Unt
set_option maxRecDepth 10000

def W (l : List Code_) : Prop := (1 ≤ l.length ∧ l.length ≤ 3) ∧ ∀ c ∈ l, (0 ≤ c.params ∧ c.params ≤ 3) ∧ ∀ x ∈ c.blocks, x.phis.length ≤ 4 ∧ x.ins.length ≤ 4 ∧ x.next_.length ≤ 2
theorem W.of {u : Unit_} (h : UG 3 u) : W u.codes := ⟨h.1, fun c hc => ⟨⟨(h.2 c hc).1.1, (h.2 c hc).1.2.1⟩, fun x hx => by
  have := (h.2 c hc).2.2.2 x hx
  exact ⟨by omega, this.2.1, this.2.2.1⟩⟩⟩
theorem W.small {l : List Code_} (h : W l) : Small ⟨l⟩ := fun c hc x hx => by
  have := (h.2 c hc).2 x hx
  omega
theorem W.bset {l : List Code_} (h : W l) {c : Code_} (hc : c ∈ l) {i j : Nat} {r : Int} {y : Block_} (hy : y.phis.length ≤ 4 ∧ y.ins.length ≤ 4 ∧ y.next_.length ≤ 2) : W (l.set i ⟨c.params, r, c.blocks.set j y⟩) := by
  refine ⟨by simpa using h.1, fun d hd => ?_⟩
  rcases mem_set hd with hd | rfl
  · exact h.2 d hd
  · refine ⟨(h.2 c hc).1, fun x hx => ?_⟩
    rcases mem_set hx with hx | rfl
    · exact (h.2 c hc).2 x hx
    · exact hy
theorem W.cset {l : List Code_} (h : W l) {c : Code_} (hc : c ∈ l) {i : Nat} {r : Int} : W (l.set i ⟨c.params, r, c.blocks⟩) := by
  refine ⟨by simpa using h.1, fun d hd => ?_⟩
  rcases mem_set hd with hd | rfl
  · exact h.2 d hd
  · exact h.2 c hc
theorem lv {A B : Type} {o : Option (A × B)} {P : A × B → Prop} (h : Dr o P) : Dr (Option.bind o fun s => some (s.1, s.2)) P := h.bind fun _ h => Dr.some h

theorem bent_dr {b : List UInt8} (hb : b.length ≤ 2000) {p : Int} (h0 : 0 ≤ p) (h1 : p ≤ 600000) : DrA (spec_l7Bent ⟨b, p⟩) b p (p + 2010) (fun u => W u.codes) := by
  unfold spec_l7Bent DrA
  refine DrA.bind (unit_dr hb h0 (by omega)) fun u q e1 e2 hu => ?_
  dsimp only
  have hw := W.of hu
  rw [copyUnit_ok u (by have := hu.1; omega) (fun c hc => ⟨by have := (hu.2 c hc).2.2.1; omega, fun x hx => by
    have := (hu.2 c hc).2.2.2 x hx
    exact ⟨by omega, by omega, by omega, fun y hy => by have := this.2.2.2.1 y hy; omega, fun y hy => by have := this.2.2.2.2 y hy; omega⟩⟩), Option.bind_some]
  refine pk hb (by omega) (by omega) fun k e3 e4 => ?_
  refine gt e3 (e4 (by have := hu.1; omega)) fun c hc => ?_
  have hcg := (hu.2 c hc).2
  refine pk hb (by dsimp only; omega) (by dsimp only; omega) fun j e5 e6 => ?_
  refine gt e5 (e6 (by have := hcg.1; omega)) fun x hx => ?_
  have hx4 := hcg.2.2 x hx
  dsimp only
  refine nm hb (by simp) (by omega) (by omega) fun v _ => ?_
  dsimp only
  refine pk hb (by omega) (by omega) fun w _ _ => ?_
  dsimp only
  have key : ∀ {i j : Nat} {r : Int} {y : Block_}, (y.phis.length ≤ 4 ∧ y.ins.length ≤ 4 ∧ y.next_.length ≤ 2) → W (u.codes.set i ⟨c.params, r, c.blocks.set j y⟩) := fun hy => hw.bset hc hy
  refine Dr.bind (P := fun s : List Code_ × Int => W s.1 ∧ q + 4 ≤ s.2 ∧ s.2 ≤ q + 5) ?_ fun s hs => Dr.some ⟨⟨rfl, by dsimp only; omega, by dsimp only; omega⟩, hs.1⟩
  refine lv (Dr.ite (fun _ => ?_) fun _ => lv (Dr.ite (fun _ => ?_) fun _ => lv (Dr.ite (fun _ => ?_) fun _ => lv (Dr.ite (fun _ => ?_) fun _ => lv (Dr.ite (fun _ => ?_) fun _ => lv (Dr.ite (fun _ => ?_) fun _ => lv (Dr.ite (fun _ => ?_) fun _ => lv (Dr.ite (fun _ => ?_) fun _ => ?_))))))))
  · exact pk hb (by omega) (by omega) fun v _ _ => Dr.some ⟨key ⟨by dsimp only; omega, hx4.2.1, hx4.2.2.1⟩, by dsimp only; omega, by dsimp only; omega⟩
  · refine Dr.bind (P := W) (Dr.ite (fun hl => gt (by omega) (of_decide_eq_true hl) fun z _ => Dr.some (key ⟨by dsimp only; omega, hx4.2.1, by simp; omega⟩)) fun _ => Dr.some hw) fun s hs => Dr.some ⟨hs, by dsimp only; omega, by dsimp only; omega⟩
  · exact Dr.some ⟨key ⟨by dsimp only; omega, hx4.2.1, hx4.2.2.1⟩, by dsimp only; omega, by dsimp only; omega⟩
  · refine Dr.bind (P := W) (Dr.ite (fun hl => gt (by omega) (of_decide_eq_true hl) fun z _ => Dr.some (key ⟨by dsimp only; omega, by simp; omega, hx4.2.2.1⟩)) fun _ => Dr.some hw) fun s hs => Dr.some ⟨hs, by dsimp only; omega, by dsimp only; omega⟩
  · refine Dr.bind (P := W) (Dr.ite (fun hl => Dr.bind (P := W) (gt (by omega) (of_decide_eq_true hl) fun z hz => ap (by have := hx4.2.2.2.2 z hz; simp; omega) (Dr.some (key ⟨by dsimp only; omega, by simp; omega, hx4.2.2.1⟩))) fun s hs => Dr.some hs) fun _ => Dr.some hw) fun s hs => Dr.some ⟨hs, by dsimp only; omega, by dsimp only; omega⟩
  · exact ap (by simp; omega) (Dr.some ⟨key ⟨by simp; omega, hx4.2.1, hx4.2.2.1⟩, by dsimp only; omega, by dsimp only; omega⟩)
  · exact pk hb (by omega) (by omega) fun v _ _ => Dr.some ⟨hw.cset hc, by dsimp only; omega, by dsimp only; omega⟩
  · exact lv (Dr.ite (fun hl => nm hb (by decide) (by omega) (by omega) fun v _ => gt (by omega) (of_decide_eq_true hl) fun z _ => Dr.some ⟨key ⟨by dsimp only; omega, by simp; omega, hx4.2.2.1⟩, by dsimp only; omega, by dsimp only; omega⟩) fun _ => Dr.some ⟨hw, by dsimp only; omega, by dsimp only; omega⟩)
  · exact Dr.some ⟨hw, by dsimp only; omega, by dsimp only; omega⟩

end Unt
end Go.Wk
