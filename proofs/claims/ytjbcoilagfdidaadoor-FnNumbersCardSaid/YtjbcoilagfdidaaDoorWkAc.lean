/- A part of a proof: general laws of walks, no statement of the seat. -/
/- Tables of rows of three integers, as data. -/
import Derived.Test.YtjbcoilagfdidaaDoorWkAb
import Derived.Test.YtjbcoilagfdidaaDoorWkR
namespace Go.Wk
open Go Go.ChangeShapes Go.WideShapes Go.Deep Go.RowKit

theorem opx_arr3 {P : Program} {t e : TypeId} (ht : P.underlying t = some (.array 3 e)) (he : P.underlying e = some (.int .i64)) (hc : P.cellsOf e = 1) (hct : P.cellsOf t = 3) : Opx P Arr3 (fun _ m => .agg [.lit (.int .i64 m.a0), .lit (.int .i64 m.a1), .lit (.int .i64 m.a2)]) t := by
  intro H enc w base spare held fuel cs d ps hd hw
  obtain ⟨xs, m, _, hx, hcl, hxl, hxi⟩ := DataW.trod_array ht hd
  simp only [Prod.mk.injEq] at hx
  obtain ⟨hx1, _⟩ := hx
  rw [hc] at hxi
  rw [hct] at hcl
  match xs, hxl with
  | [x0, x1, x2], _ =>
    match cs, hcl with
    | [c0, c1, c2], _ =>
      have key : ∀ (i : Nat) (x : DataW H × List MemPlace) (c : Value), [x0, x1, x2][i]? = some x → (([c0, c1, c2].drop (i * 1)).take 1) = [c] → i < 3 → ∃ n : Int, c = .int .i64 n ∧ x.1 = .lit (.int .i64 n) := by
        intro i x c hi hcs h3
        have h := hxi i h3
        rw [hi, hcs] at h
        obtain ⟨n, h1, h2⟩ := opx_int he H enc w base spare held m _ x.1 x.2 h (fun k hk => by
          have := hw k
          apply this
          rw [hx1, DataW.weights]
          simp only [ht]
          exact weights_mem (List.mem_map.2 ⟨x, List.mem_of_getElem? hi, rfl⟩) k hk)
        refine ⟨n, ?_, h2⟩
        have : [c] = [Value.int .i64 n] := h1
        simpa using this
      obtain ⟨n0, rfl, h0⟩ := key 0 x0 c0 rfl rfl (by decide)
      obtain ⟨n1, rfl, h1⟩ := key 1 x1 c1 rfl rfl (by decide)
      obtain ⟨n2, rfl, h2⟩ := key 2 x2 c2 rfl rfl (by decide)
      exact ⟨⟨n0, n1, n2⟩, Arr3.rep_iff.2 rfl, by rw [hx1]; simp [h0, h1, h2]⟩

theorem inj_arr3 : ∀ a b : Arr3, (.agg [.lit (.int .i64 a.a0), .lit (.int .i64 a.a1), .lit (.int .i64 a.a2)] : DataW Unit) = .agg [.lit (.int .i64 b.a0), .lit (.int .i64 b.a1), .lit (.int .i64 b.a2)] → a = b := by
  intro a b h
  cases a; cases b
  simp only [DataW.agg.injEq, List.cons.injEq, DataW.lit.injEq, Lit.int.injEq, true_and, and_true] at h
  obtain ⟨h0, h1, h2⟩ := h
  subst h0; subst h1; subst h2
  rfl
end Go.Wk
