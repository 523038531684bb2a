/- A part of the proof of FnExactColourUnitSaid. -/
import Derived.Test.YtabgclojkbijbaaGreatCoWalksB
namespace Go.Proofs.YtabgclojkbijbaaGreat
open Go Go.Wk Go.RowKit
set_option maxRecDepth 4000
set_option maxHeartbeats 4000000
open Tryz
theorem er_sB : SliceTy Tryz.prog 47 63 5 := ⟨underlying47, sizeOf63⟩
theorem er_sP : SliceTy Tryz.prog 60 127 2 := ⟨underlying60, sizeOf127⟩
theorem er_sI : SliceTy Tryz.prog 61 65 4 := ⟨underlying61, sizeOf65⟩
theorem er_sN : SliceTy Tryz.prog 43 3 1 := ⟨underlying43, sizeOf3⟩
theorem er_C2 : FieldOff Tryz.prog 49 2 2 := by have h := FieldOff.mk (k := 2) underlying49 rfl sizeOf47; exact h
theorem er_B0 : FieldOff Tryz.prog 63 0 0 := by have h := FieldOff.mk (k := 0) underlying63 rfl sizeOf60; exact h
theorem er_B1 : FieldOff Tryz.prog 63 1 1 := by have h := FieldOff.mk (k := 1) underlying63 rfl sizeOf61; exact h
theorem er_B2 : FieldOff Tryz.prog 63 2 2 := by have h := FieldOff.mk (k := 2) underlying63 rfl sizeOf3; exact h
theorem er_B3 : FieldOff Tryz.prog 63 3 3 := by have h := FieldOff.mk (k := 3) underlying63 rfl sizeOf3; exact h
theorem er_P0 : FieldOff Tryz.prog 127 0 0 := by have h := FieldOff.mk (k := 0) underlying127 rfl sizeOf3; exact h
theorem er_P1 : FieldOff Tryz.prog 127 1 1 := by have h := FieldOff.mk (k := 1) underlying127 rfl sizeOf43; exact h
theorem er_I0 : FieldOff Tryz.prog 65 0 0 := by have h := FieldOff.mk (k := 0) underlying65 rfl sizeOf3; exact h
theorem er_I1 : FieldOff Tryz.prog 65 1 1 := by have h := FieldOff.mk (k := 1) underlying65 rfl sizeOf3; exact h
theorem er_I2 : FieldOff Tryz.prog 65 2 2 := by have h := FieldOff.mk (k := 2) underlying65 rfl sizeOf43; exact h
section
variable {F : Nat → Prop} {h : Heap} {b off len cap b2 o2 l2 c2 b3 o3 l3 c3 i k j : Nat} {bl : List Block_} {B : Block_} {p : Phi_} {q : Ins_} {n : Int} {v1 v2 v3 va : Value} {j1 j2 : Int}
theorem er_arg {xs : List Int} (hx : xs[j]? = some n) (hc : CellsAt h b3 (o3 + j * 1) [.int .i64 n]) : ∀ G, GT.own G h [.slice (some ⟨b3, o3, none⟩) l3 c3] xs → Deep G h [.slice (some ⟨b3, o3, none⟩) l3 c3] b3 (o3 + j * 1) n (fun y => xs.set j y) := fun G ho =>
  list_shal (d := 0) ho hx hc rfl fun _ ho => shal_int ho
theorem er_phiT (hp : B.phis[k]? = some p) (hc : CellsAt h b2 (o2 + k * 2) [.int .i64 p.to, va]) : ∀ G, GT.own G h [.slice (some ⟨b2, o2, none⟩) l2 c2] B.phis → Deep G h [.slice (some ⟨b2, o2, none⟩) l2 c2] b2 (o2 + k * 2 + 0) p.to (fun y => B.phis.set k { p with to := y }) := fun G ho =>
  list_shal (d := 0) ho hp hc rfl fun G ho => fst_shal (α := Int) (β := List Int) (p := (p.to, p.args)) (c := [.int .i64 p.to]) (d := [va]) ho rfl rfl fun _ ho => shal_int ho
theorem er_phiA (hp : B.phis[k]? = some p) (hc : CellsAt h b2 (o2 + k * 2) [.int .i64 p.to, .slice (some ⟨b3, o3, none⟩) l3 c3]) (hx : p.args[j]? = some n) (hn : CellsAt h b3 (o3 + j * 1) [.int .i64 n]) : ∀ G, GT.own G h [.slice (some ⟨b2, o2, none⟩) l2 c2] B.phis → Deep G h [.slice (some ⟨b2, o2, none⟩) l2 c2] b3 (o3 + j * 1) n (fun y => B.phis.set k { p with args := p.args.set j y }) := fun G ho =>
  list_deep ho hp hc rfl fun G ho => snd_deep (α := Int) (β := List Int) (p := (p.to, p.args)) (c := [.int .i64 p.to]) (d := [.slice (some ⟨b3, o3, none⟩) l3 c3]) ho rfl rfl (er_arg hx hn)
theorem er_insT (hp : B.ins[k]? = some q) (hc : CellsAt h b2 (o2 + k * 4) [.int .i64 q.op, .int .i64 q.to, va, .int .i64 q.n_]) : ∀ G, GT.own G h [.slice (some ⟨b2, o2, none⟩) l2 c2] B.ins → Deep G h [.slice (some ⟨b2, o2, none⟩) l2 c2] b2 (o2 + k * 4 + 1) q.to (fun y => B.ins.set k { q with to := y }) := fun G ho =>
  list_shal (d := 1) ho hp hc rfl fun G ho => snd_shal (α := Int) (β := Int × List Int × Int) (p := (q.op, q.to, q.args, q.n_)) (c := [.int .i64 q.op]) (d := [.int .i64 q.to, va, .int .i64 q.n_]) ho rfl rfl fun G ho =>
    fst_shal (α := Int) (β := List Int × Int) (p := (q.to, q.args, q.n_)) (c := [.int .i64 q.to]) (d := [va, .int .i64 q.n_]) ho rfl rfl fun _ ho => shal_int ho
theorem er_insA (hp : B.ins[k]? = some q) (hc : CellsAt h b2 (o2 + k * 4) [.int .i64 q.op, .int .i64 q.to, .slice (some ⟨b3, o3, none⟩) l3 c3, .int .i64 q.n_]) (hx : q.args[j]? = some n) (hn : CellsAt h b3 (o3 + j * 1) [.int .i64 n]) : ∀ G, GT.own G h [.slice (some ⟨b2, o2, none⟩) l2 c2] B.ins → Deep G h [.slice (some ⟨b2, o2, none⟩) l2 c2] b3 (o3 + j * 1) n (fun y => B.ins.set k { q with args := q.args.set j y }) := fun G ho =>
  list_deep ho hp hc rfl fun G ho => snd_deep (α := Int) (β := Int × List Int × Int) (p := (q.op, q.to, q.args, q.n_)) (c := [.int .i64 q.op]) (d := [.int .i64 q.to, .slice (some ⟨b3, o3, none⟩) l3 c3, .int .i64 q.n_]) ho rfl rfl fun G ho =>
    snd_deep (α := Int) (β := List Int × Int) (p := (q.to, q.args, q.n_)) (c := [.int .i64 q.to]) (d := [.slice (some ⟨b3, o3, none⟩) l3 c3, .int .i64 q.n_]) ho rfl rfl fun G ho =>
      fst_deep (α := List Int) (β := Int) (p := (q.args, q.n_)) (c := [.slice (some ⟨b3, o3, none⟩) l3 c3]) (d := [.int .i64 q.n_]) ho rfl rfl (er_arg hx hn)
theorem er_inP {i2 : Nat} {g : Int → List Phi_} (hb : bl[i]? = some B) (hc : CellsAt h b (off + i * 5) [v1, v2, .int .i64 B.jump, .int .i64 B.on, v3]) (hs : ∀ G, GT.own G h [v1] B.phis → Deep G h [v1] b2 i2 n g) : ∀ F, GT.own F h [.slice (some ⟨b, off, none⟩) len cap] bl → Deep F h [.slice (some ⟨b, off, none⟩) len cap] b2 i2 n (fun y => bl.set i { B with phis := g y }) := fun F ho =>
  list_deep ho hb hc rfl fun G ho => fst_deep (α := List Phi_) (β := List Ins_ × Int × Int × List Int) (p := (B.phis, B.ins, B.jump, B.on, B.next_)) (c := [v1]) (d := [v2, .int .i64 B.jump, .int .i64 B.on, v3]) ho rfl rfl hs
theorem er_inI {i2 : Nat} {g : Int → List Ins_} (hb : bl[i]? = some B) (hc : CellsAt h b (off + i * 5) [v1, v2, .int .i64 B.jump, .int .i64 B.on, v3]) (hs : ∀ G, GT.own G h [v2] B.ins → Deep G h [v2] b2 i2 n g) : ∀ F, GT.own F h [.slice (some ⟨b, off, none⟩) len cap] bl → Deep F h [.slice (some ⟨b, off, none⟩) len cap] b2 i2 n (fun y => bl.set i { B with ins := g y }) := fun F ho =>
  list_deep ho hb hc rfl fun G ho => snd_deep (α := List Phi_) (β := List Ins_ × Int × Int × List Int) (p := (B.phis, B.ins, B.jump, B.on, B.next_)) (c := [v1]) (d := [v2, .int .i64 B.jump, .int .i64 B.on, v3]) ho rfl rfl fun G ho =>
    fst_deep (α := List Ins_) (β := Int × Int × List Int) (p := (B.ins, B.jump, B.on, B.next_)) (c := [v2]) (d := [.int .i64 B.jump, .int .i64 B.on, v3]) ho rfl rfl hs
theorem er_on (hb : bl[i]? = some B) (hc : CellsAt h b (off + i * 5) [v1, v2, .int .i64 B.jump, .int .i64 B.on, v3]) : ∀ F, GT.own F h [.slice (some ⟨b, off, none⟩) len cap] bl → Deep F h [.slice (some ⟨b, off, none⟩) len cap] b (off + i * 5 + 3) B.on (fun y => bl.set i { B with on := y }) := fun F ho =>
  list_shal (d := 3) ho hb hc rfl fun G ho => snd_shal (α := List Phi_) (β := List Ins_ × Int × Int × List Int) (p := (B.phis, B.ins, B.jump, B.on, B.next_)) (c := [v1]) (d := [v2, .int .i64 B.jump, .int .i64 B.on, v3]) (k := 2) ho rfl rfl fun G ho =>
    snd_shal (α := List Ins_) (β := Int × Int × List Int) (p := (B.ins, B.jump, B.on, B.next_)) (c := [v2]) (d := [.int .i64 B.jump, .int .i64 B.on, v3]) (k := 1) ho rfl rfl fun G ho =>
      snd_shal (α := Int) (β := Int × List Int) (p := (B.jump, B.on, B.next_)) (c := [.int .i64 B.jump]) (d := [.int .i64 B.on, v3]) (k := 0) ho rfl rfl fun G ho =>
        fst_shal (α := Int) (β := List Int) (p := (B.on, B.next_)) (c := [.int .i64 B.on]) (d := [v3]) ho rfl rfl fun _ ho => shal_int ho
end
section
variable {w0 w : World} {hz : Heap} {L : List Ch} {vf : Value} {f : Int → Option Int} {b off len cap n : Nat} {l : Env} {bl : List Block_} {i k j : Int} {ops : Array Oper} {Q : Exit → Act → World → Prop} {o : Oper} {rest : List Oper} {d : Nat} {ρ : Type} {r : ρ}
theorem er_call {m : Option ρ} {x y : Operand} {tys : Array TypeId} {cs : List Value} {α : Type} [GT α] {z : α} {b2 i2 : Nat} {nn yy : Int} {g : Int → α} (hm : Mem w0 hz w (ow cs z :: L)) (hv : VisitP Tryz.prog vf f hz) (hd : ∀ F, GT.own F (hp w) cs z → Deep F (hp w) cs b2 i2 nn g) (hy : f nn = some yy)
    (h : (gd ops l o.guard, o.dst, Nat.blt d n, o.op, ev l x, evs l [y]) = (true, some d, true, .call { callee := .value x, args := #[y], argTypes := tys }, some vf, some [.pointer (some ⟨b2, i2, none⟩)]))
    (k : ∀ v w', Mem w0 hz w' (ow cs (g yy) :: L) → G m r n ((d, v) :: l) (wpList Tryz.prog ops Q rest) w') : G m r n l (wpList Tryz.prog ops Q (o :: rest)) w := by
  obtain ⟨h1, h2, h3, h4, h5, h6⟩ := t6 h
  refine gf (d := d) (by rw [h1, h2, h3]) (fun a hf => e_callv hf h4 h5 h6 (hv w b2 i2 nn yy hm.lez (hm.spot hd).1 (hm.spot hd).2 hy)) ?_
  rintro v w' ⟨hs, hh⟩
  exact k v w' (hm.visited hd hs hh)
theorem er_PT_some {z : List Block_} (h : er_PT f i k bl = some z) : ∃ B p y, (0 ≤ i ∧ bl[i.toNat]? = some B) ∧ (0 ≤ k ∧ B.phis[k.toNat]? = some p) ∧ f p.to = some y ∧ bl.set i.toNat { B with phis := B.phis.set k.toNat { p with to := y } } = z := by
  obtain ⟨B, hB, h⟩ := bnd h; obtain ⟨p, hp, h⟩ := bnd h; obtain ⟨y, hy, h⟩ := bnd h
  exact ⟨B, p, y, getI_some.1 hB, getI_some.1 hp, hy, Option.some.inj h⟩
theorem er_PA_some {z : List Block_} (h : er_PA f i k j bl = some z) : ∃ B p n y, (0 ≤ i ∧ bl[i.toNat]? = some B) ∧ (0 ≤ k ∧ B.phis[k.toNat]? = some p) ∧ (0 ≤ j ∧ p.args[j.toNat]? = some n) ∧ f n = some y ∧ bl.set i.toNat { B with phis := B.phis.set k.toNat { p with args := p.args.set j.toNat y } } = z := by
  obtain ⟨B, hB, h⟩ := bnd h; obtain ⟨p, hp, h⟩ := bnd h; obtain ⟨n, hn, h⟩ := bnd h; obtain ⟨y, hy, h⟩ := bnd h
  exact ⟨B, p, n, y, getI_some.1 hB, getI_some.1 hp, getI_some.1 hn, hy, Option.some.inj h⟩
theorem er_IT_some {z : List Block_} (h : er_IT f i k bl = some z) : ∃ B p y, (0 ≤ i ∧ bl[i.toNat]? = some B) ∧ (0 ≤ k ∧ B.ins[k.toNat]? = some p) ∧ f p.to = some y ∧ bl.set i.toNat { B with ins := B.ins.set k.toNat { p with to := y } } = z := by
  obtain ⟨B, hB, h⟩ := bnd h; obtain ⟨p, hp, h⟩ := bnd h; obtain ⟨y, hy, h⟩ := bnd h
  exact ⟨B, p, y, getI_some.1 hB, getI_some.1 hp, hy, Option.some.inj h⟩
theorem er_IA_some {z : List Block_} (h : er_IA f i k j bl = some z) : ∃ B p n y, (0 ≤ i ∧ bl[i.toNat]? = some B) ∧ (0 ≤ k ∧ B.ins[k.toNat]? = some p) ∧ (0 ≤ j ∧ p.args[j.toNat]? = some n) ∧ f n = some y ∧ bl.set i.toNat { B with ins := B.ins.set k.toNat { p with args := p.args.set j.toNat y } } = z := by
  obtain ⟨B, hB, h⟩ := bnd h; obtain ⟨p, hp, h⟩ := bnd h; obtain ⟨n, hn, h⟩ := bnd h; obtain ⟨y, hy, h⟩ := bnd h
  exact ⟨B, p, n, y, getI_some.1 hB, getI_some.1 hp, getI_some.1 hn, hy, Option.some.inj h⟩
theorem er_B (hm : Mem w0 hz w (ow [.slice (some ⟨b, off, none⟩) len cap] bl :: L)) {B : Block_} (hB : bl[i.toNat]? = some B) : ∃ p1 n1 c1 p2 n2 c2 v3, CellsAt (hp w) b (off + i.toNat * 5) [.slice p1 n1 c1, .slice p2 n2 c2, .int .i64 B.jump, .int .i64 B.on, v3] ∧ GT.rep (hp w) [.slice p1 n1 c1] B.phis ∧ GT.rep (hp w) [.slice p2 n2 c2] B.ins ∧ (B.phis.length = n1 ∧ B.ins.length = n2) ∧ n1 ≤ 140737488355328 ∧ n2 ≤ 140737488355328 := by
  obtain ⟨v1, v2, v3, h1, h2, h3, _⟩ := rk_Block_ (hm.ow_rep 0 rfl) hB
  obtain ⟨p1, c1, rfl, l1⟩ := (rep_list.1 h2).len
  obtain ⟨p2, c2, rfl, l2⟩ := (rep_list.1 h3).len
  exact ⟨p1, _, c1, p2, _, c2, v3, h1, h2, h3, ⟨rfl, rfl⟩, l1, l2⟩
theorem er_P {v : Value} {ps : List Phi_} {p : Phi_} (hr : GT.rep (hp w) [v] ps) (hp_ : ps[k.toNat]? = some p) : ∃ b2 o2 c2 p3 n3 c3, v = .slice (some ⟨b2, o2, none⟩) ps.length c2 ∧ CellsAt (hp w) b2 (o2 + k.toNat * 2) [.int .i64 p.to, .slice p3 n3 c3] ∧ GT.rep (hp w) [.slice p3 n3 c3] p.args ∧ p.args.length = n3 ∧ n3 ≤ 140737488355328 := by
  obtain ⟨b2, o2, c2, rfl⟩ := idx_form' hr hp_
  obtain ⟨va, h1, h2⟩ := rk_Phi_ hr hp_
  obtain ⟨p3, c3, rfl, l3⟩ := (rep_list.1 h2).len
  exact ⟨b2, o2, c2, p3, _, c3, rfl, h1, h2, rfl, l3⟩
theorem er_I {v : Value} {ps : List Ins_} {p : Ins_} (hr : GT.rep (hp w) [v] ps) (hp_ : ps[k.toNat]? = some p) : ∃ b2 o2 c2 p3 n3 c3, v = .slice (some ⟨b2, o2, none⟩) ps.length c2 ∧ CellsAt (hp w) b2 (o2 + k.toNat * 4) [.int .i64 p.op, .int .i64 p.to, .slice p3 n3 c3, .int .i64 p.n_] ∧ GT.rep (hp w) [.slice p3 n3 c3] p.args ∧ p.args.length = n3 ∧ n3 ≤ 140737488355328 := by
  obtain ⟨b2, o2, c2, rfl⟩ := idx_form' hr hp_
  obtain ⟨va, h1, h2⟩ := rk_Ins_ hr hp_
  obtain ⟨p3, c3, rfl, l3⟩ := (rep_list.1 h2).len
  exact ⟨b2, o2, c2, p3, _, c3, rfl, h1, h2, rfl, l3⟩
theorem er_N {v : Value} {xs : List Int} {x : Int} (hr : GT.rep (hp w) [v] xs) (hx : xs[j.toNat]? = some x) : ∃ b3 o3 c3, v = .slice (some ⟨b3, o3, none⟩) xs.length c3 ∧ CellsAt (hp w) b3 (o3 + j.toNat * 1) [.int .i64 x] := by
  obtain ⟨b3, o3, c3, rfl⟩ := idx_form hr hx
  exact ⟨b3, o3, c3, rfl, flat_cells (cs := [.int .i64 x]) hr hx rfl⟩
end
theorem impl_eachReg_ok (w0 : World) (hz : Heap) (c_ : Code_) (vf v1 : Value) (f : Int → Option Int) (hm0 : Mem w0 hz w0 [ow [v1] c_.blocks]) (hv : VisitP Tryz.prog vf f hz) :
    ConM Tryz.prog 99 [(.agg #[(.int .i64 c_.params), (.int .i64 c_.regs), v1]), vf] w0 (impl_eachReg f c_) fun r v w' => v = .tuple #[] ∧ Mem w0 hz w' [ow [v1] r] := by
  unfold impl_eachReg
  refine gcon func99 rfl fun r => ?_
  have hm := hm0
  obtain ⟨p0, c0, hv1, hlen⟩ := (rep_list.1 (hm.ow_rep 0 rfl)).len
  subst hv1
  refine gS (gR (gBx hm rfl fun b0 w hm => gE (gS (gR (gF er_C2 rfl (gL hm 0 isAgg47 rfl (gY (yV er_sB rfl) (gM rfl (gE ?_)))))))))
  refine gBk (gNf hm (fun i _ => [(1, vf), (2, .pointer (some ⟨b0, 0, none⟩)), (12, .int .i64 (c_.blocks.length : Int)), (13, .int .i64 i)]) (fun _ bl => [ow [.slice p0 c_.blocks.length c0] bl, blk b0 [.int .i64 c_.params, .int .i64 c_.regs, .slice p0 c_.blocks.length c0] 49]) [1, 0] rfl ?_ ?_)
  · clear hm hm0
    intro _ _ i bl w hm hi1 hi2 q _
    refine gS (gR (gB rfl (gE (gS (go _ 14 rfl (decide_eq_true (by omega)) (gct rfl (gSk (gS ?_))))))))
    have hbl : bl.length = c_.blocks.length := rep_slice_len (hm.ow_rep 0 rfl)
    refine gBk (gS (gR (gM rfl (gA rfl (gE ?_)))))
    have hB0 : bl[i.toNat]? = some (bl[i.toNat]'(by omega)) := List.getElem?_eq_getElem _
    obtain ⟨bb, off, cc, he⟩ := idx_form' (hm.ow_rep 0 rfl) hB0
    simp only [Value.slice.injEq, Option.some.injEq] at he
    obtain ⟨rfl, _, rfl⟩ := he
    refine gS (gR (gF er_C2 rfl (gL hm 1 isAgg47 rfl (gM rfl (gI er_sB hi1 (show i.toNat < c_.blocks.length by omega) rfl (gA rfl (gE ?_)))))))
    unfold er_blk
    refine gb fun m hm1 => ?_
    obtain ⟨B, hB, hm1⟩ := bnd hm1
    obtain rfl := Option.some.inj hm1
    obtain ⟨p1, n1, c1, p2, n2, c2, v3, hc, hr1, hr2, ⟨e1, e2⟩, q1, q2⟩ := er_B hm (getI_some.1 hB).2
    subst e1
    refine gS (gS (gR (gM rfl (gY (yG rfl (y_nilptr rfl rfl)) (gF er_B0 rfl (gY (yl isAgg60 (hc.cell (j := 0) rfl) rfl) (gY (yV er_sP rfl) (gM rfl (gE ?_)))))))))
    refine gBk (gNf hm (fun k _ => [(1, vf), (2, .pointer (some ⟨b0, 0, none⟩)), (12, .int .i64 (c_.blocks.length : Int)), (13, .int .i64 i), (5, .pointer (some ⟨bb, off + i.toNat * 5, none⟩)), (24, .int .i64 (B.phis.length : Int)), (25, .int .i64 k)]) (fun _ bl => [ow [.slice (some ⟨bb, off, none⟩) c_.blocks.length c0] bl, blk b0 [.int .i64 c_.params, .int .i64 c_.regs, .slice (some ⟨bb, off, none⟩) c_.blocks.length c0] 49]) [0, 1] rfl ?_ ?_)
    · clear hm hc hr1 hr2
      intro _ _ k bl1 w hm hk1 hk2 q _
      have hnn : ((B.phis.length : Nat) : Int) ≤ 140737488355328 := by omega
      refine gS (gR (gB rfl (gE (gS (go _ 26 rfl (decide_eq_true (by omega)) (gct rfl (gSk (gS ?_))))))))
      refine gBk (gS (gR (gM rfl (gA rfl (gE (gS ?_))))))
      unfold er_phi
      refine gb fun bl2 hq => ?_
      obtain ⟨B1, P1, y, hB1, hP1, hy, rfl⟩ := er_PT_some hq
      obtain ⟨p1, n1, c1, p2, n2, c2, v3, hc, hr1, hr2, ⟨e1, e2⟩, q1, q2⟩ := er_B hm hB1.2
      obtain ⟨b2, o2, c2', p3, n3, c3, he, hcp, hra, e3, q3⟩ := er_P hr1 hP1.2
      simp only [Value.slice.injEq] at he
      obtain ⟨rfl, rfl, rfl⟩ := he
      refine gR (gM rfl (gM rfl (gY (yG rfl (y_nilptr rfl rfl)) (gF er_B0 rfl (gY (yl isAgg60 (hc.cell (j := 0) rfl) rfl) (gM rfl (gI er_sP hk1 (idx_lt hP1.2) rfl (gF er_P0 rfl (er_call hm hv (er_inP hB1.2 hc (er_phiT hP1.2 hcp)) hy rfl fun v w hm => ?_)))))))))
      refine gE (gS ?_)
      clear hc hr1 hr2 hcp hra
      refine gb fun m hq => ?_
      obtain ⟨B2, hB2, hq⟩ := bnd hq
      obtain ⟨P2, hP2, hq⟩ := bnd hq
      obtain rfl := Option.some.inj hq
      have hB2 := getI_some.1 hB2
      have hP2 := getI_some.1 hP2
      obtain ⟨p1, n1, c1, p2, n2, c2, v3, hc, hr1, hr2, ⟨e1, e2⟩, q1, q2⟩ := er_B hm hB2.2
      obtain ⟨b2, o2, c2', p3, n3, c3, he, hcp, hra, e3, q3⟩ := er_P hr1 hP2.2
      simp only [Value.slice.injEq] at he
      obtain ⟨rfl, rfl, rfl⟩ := he
      subst e3
      refine gR (gM rfl (gY (yG rfl (y_nilptr rfl rfl)) (gF er_B0 rfl (gY (yl isAgg60 (hc.cell (j := 0) rfl) rfl) (gM rfl (gI er_sP hk1 (idx_lt hP2.2) rfl (gF er_P1 rfl (gY (yl isAgg43 (hcp.cell (j := 1) rfl) rfl) (gY (yV er_sN rfl) (gM rfl (gE ?_)))))))))))
      refine gBk (gNf hm (fun j _ => [(1, vf), (2, .pointer (some ⟨b0, 0, none⟩)), (12, .int .i64 (c_.blocks.length : Int)), (13, .int .i64 i), (5, .pointer (some ⟨bb, off + i.toNat * 5, none⟩)), (24, .int .i64 (B.phis.length : Int)), (25, .int .i64 k), (6, .int .i64 k), (45, .int .i64 (P2.args.length : Int)), (46, .int .i64 j)]) (fun _ bl => [ow [.slice (some ⟨bb, off, none⟩) c_.blocks.length c0] bl, blk b0 [.int .i64 c_.params, .int .i64 c_.regs, .slice (some ⟨bb, off, none⟩) c_.blocks.length c0] 49]) [0, 1] rfl ?_ ?_)
      · clear hm hc hr1 hr2 hcp hra
        intro _ _ j bl3 w hm hj1 hj2 q _
        refine gS (gR (gB rfl (gE (gS (go _ 47 rfl (decide_eq_true (by omega)) (gct rfl (gSk (gS ?_))))))))
        refine gBk (gS (gR (gM rfl (gA rfl (gE ?_)))))
        refine gb fun bl4 hq => ?_
        obtain ⟨B3, P3, nn, y, hB3, hP3, hn3, hy, rfl⟩ := er_PA_some hq
        obtain ⟨p1, n1, c1, p2, n2, c2, v3, hc, hr1, hr2, ⟨e1, e2⟩, q1, q2⟩ := er_B hm hB3.2
        obtain ⟨b2, o2, c2', p3, n3, c3, he, hcp, hra, e3, q3⟩ := er_P hr1 hP3.2
        simp only [Value.slice.injEq] at he
        obtain ⟨rfl, rfl, rfl⟩ := he
        obtain ⟨b3, o3, c3', he, hcn⟩ := er_N hra hn3.2
        simp only [Value.slice.injEq] at he
        obtain ⟨rfl, rfl, rfl⟩ := he
        refine gR (gM rfl (gM rfl (gY (yG rfl (y_nilptr rfl rfl)) (gF er_B0 rfl (gY (yl isAgg60 (hc.cell (j := 0) rfl) rfl) (gM rfl (gI er_sP hk1 (idx_lt hP3.2) rfl (gF er_P1 rfl (gY (yl isAgg43 (hcp.cell (j := 1) rfl) rfl) (gM rfl (gI er_sN hj1 (idx_lt hn3.2) rfl (er_call hm hv (er_inP hB3.2 hc (er_phiA hP3.2 hcp hn3.2 hcn)) hy rfl fun v w hm => ?_))))))))))))
        exact gE (gR (gP (by omega) (by omega) rfl (gM rfl (gE (gze hm [0, 1] rfl)))))
      · clear hm hc hr1 hr2 hcp hra
        intro j bl3 w hm hj1 hj2
        refine gS (gR (gB rfl (gE (gS (go _ 47 rfl (decide_eq_false (by omega)) (gcf rfl (gXt (gHh ?_))))))))
        exact gR (gP (by omega) (by omega) rfl (gM rfl (gE (gze hm [0, 1] rfl))))
    · clear hm hc hr1 hr2
      intro k bl1 w hm hk1 hk2
      refine gS (gR (gB rfl (gE (gS (go _ 26 rfl (decide_eq_false (by omega)) (gcf rfl (gXt (gHh (gS (gS ?_))))))))))
      refine gb fun m hm2 => ?_
      obtain ⟨B, hB, hm2⟩ := bnd hm2
      obtain rfl := Option.some.inj hm2
      obtain ⟨p1, n1, c1, p2, n2, c2, v3, hc, hr1, hr2, ⟨e1, e2⟩, q1, q2⟩ := er_B hm (getI_some.1 hB).2
      subst e2
      refine gR (gM rfl (gY (yG rfl (y_nilptr rfl rfl)) (gF er_B1 rfl (gY (yl isAgg61 (hc.cell (j := 1) rfl) rfl) (gY (yV er_sI rfl) (gM rfl (gE ?_)))))))
      refine gBk (gNf hm (fun k _ => [(1, vf), (2, .pointer (some ⟨b0, 0, none⟩)), (12, .int .i64 (c_.blocks.length : Int)), (13, .int .i64 i), (5, .pointer (some ⟨bb, off + i.toNat * 5, none⟩)), (67, .int .i64 (B.ins.length : Int)), (68, .int .i64 k)]) (fun _ bl => [ow [.slice (some ⟨bb, off, none⟩) c_.blocks.length c0] bl, blk b0 [.int .i64 c_.params, .int .i64 c_.regs, .slice (some ⟨bb, off, none⟩) c_.blocks.length c0] 49]) [0, 1] rfl ?_ ?_)
      · clear hm hc hr1 hr2
        intro _ _ k bl1 w hm hk1 hk2 q _
        refine gS (gR (gB rfl (gE (gS (go _ 69 rfl (decide_eq_true (by omega)) (gct rfl (gSk (gS ?_))))))))
        refine gBk (gS (gR (gM rfl (gA rfl (gE (gS ?_))))))
        unfold er_ins
        refine gJ hm (fun _ => [(1, vf), (2, .pointer (some ⟨b0, 0, none⟩)), (12, .int .i64 (c_.blocks.length : Int)), (13, .int .i64 i), (5, .pointer (some ⟨bb, off + i.toNat * 5, none⟩)), (67, .int .i64 (B.ins.length : Int)), (68, .int .i64 k), (8, .int .i64 k)]) (fun bl => [ow [.slice (some ⟨bb, off, none⟩) c_.blocks.length c0] bl, blk b0 [.int .i64 c_.params, .int .i64 c_.regs, .slice (some ⟨bb, off, none⟩) c_.blocks.length c0] 49]) (fun z => ?_) fun bl2 w hm => ?_
        · refine gb fun u hu => ?_
          obtain ⟨B1, hB1, hu⟩ := bnd hu
          obtain ⟨P1, hP1, hu⟩ := bnd hu
          have hB1 := getI_some.1 hB1
          have hP1 := getI_some.1 hP1
          obtain ⟨p1, n1, c1, p2, n2, c2, v3, hc, hr1, hr2, ⟨e1, e2⟩, _, _⟩ := er_B hm hB1.2
          obtain ⟨b2, o2, c2', p3, n3, c3, he, hcp, hra, e3, _⟩ := er_I hr2 hP1.2
          simp only [Value.slice.injEq] at he
          obtain ⟨rfl, rfl, rfl⟩ := he
          refine gS (gR (gM rfl (gY (yG rfl (y_nilptr rfl rfl)) (gF er_B1 rfl (gY (yl isAgg61 (hc.cell (j := 1) rfl) rfl) (gM rfl (gI er_sI hk1 (idx_lt hP1.2) rfl (gF er_I0 rfl (gY (yl isAgg3 (hcp.cell (j := 0) rfl) rfl) (gf rfl (fun a hf => e_call hf rfl call165 rfl (impl_sets_ok _ _ u hu)) ?_))))))))))
          rintro v w ⟨rfl, hBe⟩
          replace hm := hm.below' hBe
          clear hBe hc hr1 hr2 hcp hra
          refine gE (gs 79 rfl (fun _ => ?_) fun _ => gcf rfl (gSk (gz hm [0, 1] rfl)))
          refine gin fun hq => ?_
          obtain ⟨B2, P2, y, hB2, hP2, hy, rfl⟩ := er_IT_some hq
          obtain ⟨p1, n1, c1, p2, n2, c2, v3, hc, hr1, hr2, ⟨e1, e2⟩, _, _⟩ := er_B hm hB2.2
          obtain ⟨b2, o2, c2', p3, n3, c3, he, hcp, hra, e3, _⟩ := er_I hr2 hP2.2
          simp only [Value.slice.injEq] at he
          obtain ⟨rfl, rfl, rfl⟩ := he
          exact gct rfl (gR (gM rfl (gM rfl (gY (yG rfl (y_nilptr rfl rfl)) (gF er_B1 rfl (gY (yl isAgg61 (hc.cell (j := 1) rfl) rfl) (gM rfl (gI er_sI hk1 (idx_lt hP2.2) rfl (gF er_I1 rfl (er_call hm hv (er_inI hB2.2 hc (er_insT hP2.2 hcp)) hy rfl fun v w hm => gE (gz hm [0, 1] rfl)))))))))))
        · refine gb fun m hq => ?_
          obtain ⟨B2, hB2, hq⟩ := bnd hq
          obtain ⟨P2, hP2, hq⟩ := bnd hq
          obtain rfl := Option.some.inj hq
          have hB2 := getI_some.1 hB2
          have hP2 := getI_some.1 hP2
          obtain ⟨p1, n1, c1, p2, n2, c2, v3, hc, hr1, hr2, ⟨e1, e2⟩, _, _⟩ := er_B hm hB2.2
          obtain ⟨b2, o2, c2', p3, n3, c3, he, hcp, hra, e3, q3⟩ := er_I hr2 hP2.2
          simp only [Value.slice.injEq] at he
          obtain ⟨rfl, rfl, rfl⟩ := he
          subst e3
          refine gS (gR (gM rfl (gY (yG rfl (y_nilptr rfl rfl)) (gF er_B1 rfl (gY (yl isAgg61 (hc.cell (j := 1) rfl) rfl) (gM rfl (gI er_sI hk1 (idx_lt hP2.2) rfl (gF er_I2 rfl (gY (yl isAgg43 (hcp.cell (j := 2) rfl) rfl) (gY (yV er_sN rfl) (gM rfl (gE ?_))))))))))))
          refine gBk (gNf hm (fun j _ => [(1, vf), (2, .pointer (some ⟨b0, 0, none⟩)), (12, .int .i64 (c_.blocks.length : Int)), (13, .int .i64 i), (5, .pointer (some ⟨bb, off + i.toNat * 5, none⟩)), (67, .int .i64 (B.ins.length : Int)), (68, .int .i64 k), (8, .int .i64 k), (97, .int .i64 (P2.args.length : Int)), (98, .int .i64 j)]) (fun _ bl => [ow [.slice (some ⟨bb, off, none⟩) c_.blocks.length c0] bl, blk b0 [.int .i64 c_.params, .int .i64 c_.regs, .slice (some ⟨bb, off, none⟩) c_.blocks.length c0] 49]) [0, 1] rfl ?_ ?_)
          · clear hm hc hr1 hr2 hcp hra
            intro _ _ j bl3 w hm hj1 hj2 q _
            refine gS (gR (gB rfl (gE (gS (go _ 99 rfl (decide_eq_true (by omega)) (gct rfl (gSk (gS ?_))))))))
            refine gBk (gS (gR (gM rfl (gA rfl (gE ?_)))))
            refine gb fun bl4 hq => ?_
            obtain ⟨B3, P3, nn, y, hB3, hP3, hn3, hy, rfl⟩ := er_IA_some hq
            obtain ⟨p1, n1, c1, p2, n2, c2, v3, hc, hr1, hr2, ⟨e1, e2⟩, _, _⟩ := er_B hm hB3.2
            obtain ⟨b2, o2, c2', p3, n3, c3, he, hcp, hra, e3, _⟩ := er_I hr2 hP3.2
            simp only [Value.slice.injEq] at he
            obtain ⟨rfl, rfl, rfl⟩ := he
            obtain ⟨b3, o3, c3', he, hcn⟩ := er_N hra hn3.2
            simp only [Value.slice.injEq] at he
            obtain ⟨rfl, rfl, rfl⟩ := he
            refine gR (gM rfl (gM rfl (gY (yG rfl (y_nilptr rfl rfl)) (gF er_B1 rfl (gY (yl isAgg61 (hc.cell (j := 1) rfl) rfl) (gM rfl (gI er_sI hk1 (idx_lt hP3.2) rfl (gF er_I2 rfl (gY (yl isAgg43 (hcp.cell (j := 2) rfl) rfl) (gM rfl (gI er_sN hj1 (idx_lt hn3.2) rfl (er_call hm hv (er_inI hB3.2 hc (er_insA hP3.2 hcp hn3.2 hcn)) hy rfl fun v w hm => ?_))))))))))))
            exact gE (gR (gP (by omega) (by omega) rfl (gM rfl (gE (gze hm [0, 1] rfl)))))
          · clear hm hc hr1 hr2 hcp hra
            intro j bl3 w hm hj1 hj2
            refine gS (gR (gB rfl (gE (gS (go _ 99 rfl (decide_eq_false (by omega)) (gcf rfl (gXt (gHh ?_))))))))
            exact gR (gP (by omega) (by omega) rfl (gM rfl (gE (gze hm [0, 1] rfl))))
      · clear hm hc hr1 hr2
        intro k bl1 w hm hk1 hk2
        refine gS (gR (gB rfl (gE (gS (go _ 69 rfl (decide_eq_false (by omega)) (gcf rfl (gXt (gHh ?_))))))))
        refine gJ hm (fun _ => [(1, vf), (2, .pointer (some ⟨b0, 0, none⟩)), (12, .int .i64 (c_.blocks.length : Int)), (13, .int .i64 i)]) (fun bl => [ow [.slice (some ⟨bb, off, none⟩) c_.blocks.length c0] bl, blk b0 [.int .i64 c_.params, .int .i64 c_.regs, .slice (some ⟨bb, off, none⟩) c_.blocks.length c0] 49]) (fun z => ?_) fun bl2 w hm => ?_
        · refine gb fun u hu => ?_
          obtain ⟨B1, hB1, hu⟩ := bnd hu
          have hB1 := getI_some.1 hB1
          obtain ⟨p1, n1, c1, p2, n2, c2, v3, hc, hr1, hr2, ⟨e1, e2⟩, _, _⟩ := er_B hm hB1.2
          refine gS (gR (gM rfl (gY (yG rfl (y_nilptr rfl rfl)) (gF er_B2 rfl (gY (yl isAgg3 (hc.cell (j := 2) rfl) rfl) (gf rfl (fun a hf => e_call hf rfl call166 rfl (impl_usesOn_ok _ _ u hu)) ?_))))))
          rintro v w ⟨rfl, hBe⟩
          replace hm := hm.below' hBe
          clear hBe hc hr1 hr2
          refine gE (gs 119 rfl (fun _ => ?_) fun _ => gcf rfl (gSk (gz hm [0, 1] rfl)))
          refine gin fun hq => ?_
          obtain ⟨B2, hB2, hq⟩ := bnd hq
          obtain ⟨y, hy, hq⟩ := bnd hq
          obtain rfl := Option.some.inj hq
          have hB2 := getI_some.1 hB2
          obtain ⟨p1, n1, c1, p2, n2, c2, v3, hc, hr1, hr2, ⟨e1, e2⟩, _, _⟩ := er_B hm hB2.2
          exact gct rfl (gR (gM rfl (gM rfl (gY (yG rfl (y_nilptr rfl rfl)) (gF er_B3 rfl (er_call hm hv (er_on hB2.2 hc) hy rfl fun v w hm => gE (gz hm [0, 1] rfl)))))))
        · exact gR (gP (by omega) (by omega) rfl (gM rfl (gE (gze hm [0, 1] rfl))))
  · clear hm hm0
    intro i bl w hm hi1 hi2
    exact gS (gR (gB rfl (gE (gS (go _ 14 rfl (decide_eq_false (by omega)) (gcf rfl (gXt (gHh (gre rfl ⟨rfl, hm.pk [0] rfl rfl⟩)))))))))
theorem impl_sortedKeys_bool_ok (w0 : World) (m : MapS Bool) (v1 : Value) (h1 : GT.rep (hp w0) [v1] m) :
    ConM Tryz.prog 101 [v1] w0 (impl_sortedKeys_bool m) fun r v w' => ∃ (x1 : Value), v = x1 ∧ Mem w0 (hp w0) w' [ow [x1] r] := by
  unfold impl_sortedKeys_bool
  rw [← keys_model]
  refine gcon func101 rfl fun r => ?_
  have hm := Mem.start w0
  refine gS (gR (gA rfl (gE (gS (gR (gA rfl (gE (gS (gS (gR (gM rfl (gf rfl (fun a hf => e_rangeS (m := (m : MapS Bool)) hf hm underlying105 h1 rfl rfl) ?_))))))))))))
  rintro _ w ⟨aC, rfl, hm⟩
  refine gE (gBk ?_)
  replace hm := hm.nilow (α := Int)
  refine gRngK (m := (m : MapS Bool)) (fun xs ys h => by simp only [sortI_perm h]) h1 (fun aD aE a w => ∃ (aA : Value), St 18 [(3, aA), (6, (pV aC))] w0 (hp w0) [ow [aA] aE, itc (hp w0) v1 aC aD] a w) (fun a hf => ⟨.slice none 0 0, hf.sb rfl, hm.pk [0, 1] rfl rfl⟩) ?_ ?_
  ·repeat clear hm
   rintro aD aE a w ⟨aA, hf, hm⟩ hmo
   refine gv (m := some ()) (r := ()) hf ?_ rfl
   refine gS (gR (gf rfl (fun a hf => e_nextS 1 hf hm rfl hmo rfl rfl) ?_))
   rintro _ w ⟨aM, aB, aN, rfl, aF, aG, hm⟩
   refine gSw aF (gX rfl (gE (gS (gct rfl (gSk (gBk (gS (gR (gY (yG rfl (y_entryS 1 hm rfl aG rfl rfl)) (gX rfl (gA rfl (gE (gR (gM rfl (gM rfl (gf rfl (fun a hf => e_build (vs := #[(0, (nV aB.1))]) (cs := [nV aB.1]) et_43 hf hm rfl rfl (by kernel_rfl) rfl rfl) ?_))))))))))))))))
   rintro _ w ⟨aO, rfl, hm⟩
   replace hm := hm.lit (xs := ([aB.1] : List Int)) 0 rfl rfl rfl rfl
   refine gb fun aP aH => ?_
   obtain ⟨aI, aJ⟩ := appM_some.1 aH
   refine gf rfl (fun a hf => e_append 1 et_43 hf hm rfl (hm.ow_rep 0 rfl) rfl rfl rfl aI) ?_
   rintro aK w hm
   rw [aJ] at hm
   exact gA rfl (gE (gZr aG aF fun a hf => ⟨aK, hf.sb rfl, hm.pk [1, 2] rfl rfl⟩))
  repeat clear hm
  rintro aQ aR a w ⟨aL, hf, hm⟩ hno hk
  refine gv hf ?_ hk
  refine gS (gR (gY (yG rfl (y_nextE 1 hm rfl hno rfl rfl)) (gX rfl (gE (gS (gcf rfl (gXt (gHh (gS (gR (gM rfl (gf rfl (fun a hf => e_call hf rfl call167 rfl (sort_con lays189 hm 0 rfl)) ?_))))))))))))
  rintro _ w ⟨rfl, hm⟩
  exact gE (gS (gR (gM rfl (gA rfl (gE (gRt (gr1 results101 rfl ⟨aL, rfl, hm.pk [0] rfl rfl⟩)))))))
theorem impl_recoloured_ok (w0 : World) (c_ : Code_) (v1 : Value) (h1 : GT.rep (hp w0) [v1] c_.blocks) (most : Int) :
    ConM Tryz.prog 50 [(.agg #[nV c_.params, nV c_.regs, v1]), nV most] w0 (impl_recoloured c_ most) fun r v w' => ∃ (x1 : Value), v = (.tuple #[(.agg #[nV r.1.params, nV r.1.regs, x1]), (.bool (r.2))]) ∧ Mem w0 (hp w0) w' [ow [x1] r.1.blocks] := by
  unfold impl_recoloured
  refine gcon func50 rfl fun r => ?_
  have hm := Mem.start w0
  refine gS (gR (gBx hm rfl fun aG w hm => gAl hm zeroValue49 rfl fun aJ w hm => gA rfl (gE (gS (gR (gY (yn (hm.blk_at 1 rfl) isAgg49 sizeOf49 rfl) (gM rfl (gCg rfl call95 (impl_coloured_ok _ c_ v1 (hm.now h1) most) ?_))))))))
  rintro aA bg aR w ⟨_, rfl, hB⟩
  replace hm := hm.give hB; clear hB
  refine gAl hm zeroValue43 rfl fun aH w hm => gS1 hm 0 sizeOf43 (rep_one (hm.ow_rep 1 rfl)) rfl fun w hm => gE (gS (gS (gR (gL hm 0 isAgg43 rfl (gC hm rfl call96 (slices_Contains_S_int_int_ok _ aA aR (hm.ow_rep 1 rfl) (-1)) fun bh bi w hm => gE (gs 15 rfl (fun bQ => ?_) fun bQ => ?_))))))
  ·refine gct rfl (gS (gR (gY (yG rfl (y_build (vs := []) (cs := #[nV 0, nV 0, .slice none 0 0]) rfl rfl (by kernel_rfl))) (gSN hm 2 sizeOf49 (one_cons rfl (one_cons rfl (one_cons rfl one_nil))) rfl fun w hm => gA rfl (gE (gRt ?_))))))
   replace hm := hm.nilow (α := Block_)
   exact grct 3 results50 hm rfl isAgg49 sizeOf49 ⟨.slice none 0 0, rfl, hm.pk [0] rfl rfl⟩
  refine gcf rfl (gSk (gS (gR (gY (yn (hm.blk_at 3 rfl) isAgg49 sizeOf49 rfl) (gCg rfl call97 (impl_cloneCode_ok _ c_ v1 (hm.now h1)) ?_)))))
  rintro aI bj bk w ⟨aS, rfl, hB⟩
  replace hm := hm.give hB; clear hB
  refine gAl hm zeroValue49 rfl fun aK w hm => gSN hm 0 sizeOf49 (one_cons rfl (one_cons rfl (one_cons (rep_one (hm.ow_rep 1 rfl)) one_nil))) rfl fun w hm => gE (gS (gW (.p 0 (.q 1 (.e 2 (.e 3 (.p 4 (.p 5 (.e 6 .fin .nil))) .nil) .nil))) [2, 3] [0, 4, 5] hm [0, 1, 2, 3, 4, 5] [blk aK [nV aI.params, nV aI.regs, aS] 49, ow [aS] aI.blocks, blk aH [aR] 43, ow [aR] aA, blk aJ [nV 0, nV 0, .slice none 0 0] 49, blk aG [nV c_.params, nV c_.regs, v1] 49] rfl mxo (by kernel_rfl) (fun _ _ _ h => h.2) fun w hm hS => tP rfl (fun w => yF fo_49_0 rfl) (tQ rfl hS (fun w hm => yL hm 5 isAgg3 rfl) (tO (tY rfl (yL hm 2 isAgg43 rfl) (tAs hS (tO (gb fun aM bR => tf rfl rfl (fun a hf => e_call hf rfl call98 rfl (impl_ColoursUsed_ok _ aA aR (hm.ow_rep 3 rfl) _ bR)) ?_))))))))
  rintro bm w ⟨rfl, hB⟩
  replace hm := hm.below' hB; clear hB
  refine tAk hm [0, 1, 2, 3, 4, 5] rfl fun hS => tP rfl (fun w => yB rfl) (tP rfl (fun w => yF fo_49_1 rfl) (tO (tf0 rfl rfl (fun a hf => e_store1 0 hf hm rfl sizeOf3 rfl rfl rfl rfl rfl) ?_)))
  rintro _ w hm
  refine tAn rfl (tE (gS (gR (gY (yn (hm.blk_at 0 rfl) isAgg49 sizeOf49 rfl) (gY (yU rfl) ?_)))))
  obtain ⟨bS, hle, hm1, hsub, bT⟩ := hm.take2 (L1 := [ow [aS] aI.blocks]) (L2 := [blk aK [nV aI.params, nV (w64 (c_.params + aM)), aS] 49, blk aH [aR] 43, ow [aR] aA, blk aJ [nV 0, nV 0, .slice none 0 0] 49, blk aG [nV c_.params, nV c_.regs, v1] 49]) [1] [0, 2, 3, 4, 5] (by decide) rfl rfl
  refine gCg rfl call99 (impl_eachReg_ok _ bS (⟨aI.params, w64 (c_.params + aM), aI.blocks⟩ : Code_) (.func (.func 100) #[] #[(pV aG), (pV aH)]) aS (fun y0 => impl_recoloured_1 y0 c_ aA) hm1 (visit_of fun w hz3 h0 b i x y hle3 hm3 hf3 => (FnOk.mono (⟨100, [(pV aG), (pV aH)], rfl, call100, impl_recoloured_1_ok w hz3 x h0 b i c_ aG v1 (GT.mono hle3 (GT.mono hle h1)) (hle3 _ _ (fz_blk (hsub 4 _ rfl))) aA aH aR (GT.mono hle3 (fz_ow (hsub 2 _ rfl))) (hle3 _ _ (fz_blk (hsub 1 _ rfl))) hm3 _ hf3⟩) fun _ _ h => h.2))) ?_
  rintro aB bo bp w ⟨rfl, hB⟩
  replace hm := bT _ _ hB; clear hB
  refine gE (gS (gR (gA rfl (gE (gS (gS (gR (gY (yn (hm.blk_at 5 rfl) isAgg49 sizeOf49 rfl) (gCg rfl call102 (impl_liveOf_ok _ _ hm.lez c_ v1 h1 ) ?_)))))))))
  rintro aQ bq br w ⟨bG, bH, bs, ar, ah, rfl, bJ, bt, hB⟩
  replace hm := Mem.giveA hm bJ hB; clear hB
  refine gY (yG rfl (y_nilptr rfl rfl)) (gF fo_109_1 rfl (gL hm 0 isAgg107 rfl (gg fun an bU au => ?_)))
  obtain ⟨ao, ap, av, he⟩ := idx_form' (hm.ow_rep 1 rfl) au
  subst he
  obtain ⟨_, _, bK, bV⟩ := ro_get' (hm.ow_rep 1 rfl) au
  have bB := bV
  obtain ⟨bL, rfl, -⟩ := id bB
  replace bB : GT.rep (hp _) [bL] an := bB
  replace bK : CellsAt (hp _) ao (ap + (0 : Int).toNat * 1) [bL] := bK
  refine gI st_107 bU (idx_lt au) rfl ?_
  obtain ⟨_, bW, hm⟩ := hm.openE 1 rfl au
  have bX := hm.ow_rep 0 rfl
  have aw := bX
  obtain ⟨ai, rfl, -⟩ := id aw
  replace aw : GT.rep (hp _) [ai] an := aw
  clear bW aw
  replace hm : Mem w0 ah _ [ow [ai] (an : MapS Bool), blk bG [nV aQ.c.params, nV aQ.c.regs, bH, sV ao ap aQ.ins.length av, ar] 109, holeE ao ap aQ.ins.length av (aQ.ins : List (MapS Bool)) (0 : Int).toNat [ai], ow [ar] aQ.preds, ow [aS] aB, blk aK [nV aI.params, nV (w64 (c_.params + aM)), aS] 49, blk aH [aR] 43, ow [aR] aA, blk aJ [nV 0, nV 0, .slice none 0 0] 49, blk aG [nV c_.params, nV c_.regs, v1] 49] := hm
  replace hm := hm.pk (L' := [ow [ai] an, blk bG [nV aQ.c.params, nV aQ.c.regs, bH, sV ao ap aQ.ins.length av, ar] 109, holeE ao ap aQ.ins.length av (aQ.ins : List (MapS Bool)) (0 : Int).toNat [ai], ow [ar] aQ.preds, ow [aS] aB, blk aK [nV aI.params, nV (w64 (c_.params + aM)), aS] 49, blk aH [aR] 43, ow [aR] aA, blk aJ [nV 0, nV 0, .slice none 0 0] 49, blk aG [nV c_.params, nV c_.regs, v1] 49]) [0, 1, 2, 3, 4, 5, 6, 7, 8, 9] rfl rfl
  refine gY (yl isAgg106 ((hm.holeE_at 2 rfl).cell (j := 0) rfl) rfl) (gCg rfl call101 (impl_sortedKeys_bool_ok _ an ai (hm.ow_rep 0 rfl)) ?_)
  rintro aC bu bv w ⟨_, rfl, hB⟩
  replace hm := hm.give hB; clear hB
  obtain ⟨aT, aO, rfl, bx⟩ := ro_slice (hm.ow_rep 0 rfl)
  refine gY (yV st_43 rfl) (gM rfl (gE ?_))
  obtain ⟨aL, aE, rfl, bz⟩ := ro_slice (hm.ow_rep 8 rfl)
  obtain ⟨aN, aF, rfl, cA⟩ := ro_slice (hm.ow_rep 5 rfl)
  refine gBk ?_
  replace hm := hm.nilow (α := Ins_)
  refine gNg (fun ax aZ a w => ∃ (aV : Value), St 71 [(2, (pV aG)), (4, (pV aJ)), (6, (pV aH)), (7, (pV aK)), (8, aV), (35, (.slice aT aC.length aO)), (36, (nV ((aC.length : Int)))), (37, (nV ax))] w0 ah [blk aG [nV c_.params, nV c_.regs, v1] 49, blk aJ [nV 0, nV 0, .slice none 0 0] 49, blk aH [.slice aL aA.length aE] 43, ow [.slice aL aA.length aE] aA, blk aK [nV aI.params, nV (w64 (c_.params + aM)), .slice aN aB.length aF] 49, ow [.slice aN aB.length aF] aB, ow [aV] aZ, ow [.slice aT aC.length aO] aC] a w) (fun a hf => ⟨.slice none 0 0, hf.sb rfl, hm.pk [11, 10, 8, 9, 7, 6, 0, 1] rfl rfl⟩) ?_ ?_
  ·repeat clear hm
   rintro _ _ ax aZ a w ⟨aV, hf, hm⟩ cB cC cD _
   refine gv hf (gS (gR (gB rfl (gE (gS (go _ 38 rfl (decide_eq_true (by omega)) (gct rfl (gSk (gS (gJg (fun bC a w => ∃ (ay : Value), St 71 [(2, (pV aG)), (4, (pV aJ)), (6, (pV aH)), (7, (pV aK)), (8, ay), (35, (.slice aT aC.length aO)), (36, (nV ((aC.length : Int)))), (37, (nV ax))] w0 ah [blk aG [nV c_.params, nV c_.regs, v1] 49, blk aJ [nV 0, nV 0, .slice none 0 0] 49, blk aH [.slice aL aA.length aE] 43, ow [.slice aL aA.length aE] aA, blk aK [nV aI.params, nV (w64 (c_.params + aM)), .slice aN aB.length aF] 49, ow [.slice aN aB.length aF] aB, ow [ay] bC, ow [.slice aT aC.length aO] aC] a w) (fun bC => ?_) ?_))))))))))
   ·refine gBk (gS (gR (gg fun aW bY bD => ?_)))
    obtain ⟨ae, af, cE, he⟩ := idx_form (hm.ow_rep 7 rfl) bD
    obtain ⟨rfl, _, rfl⟩ := sl3 he
    refine gI st_43 bY (idx_lt bD) rfl (gY (yl isAgg3 ((flat_cells (cs := [nV aW]) (hm.ow_rep 7 rfl) bD rfl).cell (j := 0) rfl) rfl) (gA rfl (gE (gS (gR (gM rfl (gF fo_49_0 rfl (gL hm 0 isAgg3 rfl (gB rfl (gE (gJg (fun bE a w => ∃ (az : Value), St 71 [(2, (pV aG)), (4, (pV aJ)), (6, (pV aH)), (7, (pV aK)), (8, az), (35, (sV ae af aC.length aO)), (36, (nV ((aC.length : Int)))), (37, (nV ax))] w0 ah [blk aG [nV c_.params, nV c_.regs, v1] 49, blk aJ [nV 0, nV 0, .slice none 0 0] 49, blk aH [.slice aL aA.length aE] 43, ow [.slice aL aA.length aE] aA, blk aK [nV aI.params, nV (w64 (c_.params + aM)), .slice aN aB.length aF] 49, ow [.slice aN aB.length aF] aB, ow [az] bE, ow [sV ae af aC.length aO] aC] a w) (fun bE => ?_) ?_)))))))))))
    ·refine gsd 44 rfl (fun bZ => ?_) fun bZ => ?_
     ·refine gct rfl (gW (.p 0 (.p 1 (.p 4 (.p 8 (.q 2 (.q 3 (.p 5 (.q 6 (.p 7 (.e 9 (.p 10 (.e 11 (.e 12 (.p 13 .fin) .nil) .nil)) .nil)))))))))) [2, 3, 6, 9] [0, 1, 4, 5, 7, 8, 10, 13] hm [0, 1, 2, 3, 4, 5, 6, 7] [blk aG [nV c_.params, nV c_.regs, v1] 49, blk aJ [nV 0, nV 0, .slice none 0 0] 49, blk aH [.slice aL aA.length aE] 43, ow [.slice aL aA.length aE] aA, blk aK [nV aI.params, nV (w64 (c_.params + aM)), .slice aN aB.length aF] 49, ow [.slice aN aB.length aF] aB, ow [aV] aZ, ow [sV ae af aC.length aO] aC] rfl mxo (by kernel_rfl) (fun _ _ _ h => h.2) fun w hm hS => tP rfl (fun w => yM rfl) (tP rfl (fun w => yF fo_49_0 rfl) (tP rfl (fun w => yM rfl) (tP rfl (fun w => yM rfl) (tQ rfl hS (fun w hm => yL hm 0 isAgg3 rfl) (tQ rfl hS (fun w hm => yL hm 2 isAgg43 rfl) (gg fun aP b6 bF => ?_)))))))
      obtain ⟨aa, ab, cF, he⟩ := idx_form (hm.ow_rep 3 rfl) bF
      obtain ⟨rfl, _, rfl⟩ := sl3 he
      refine tP rfl (fun w => yI st_43 b6 (idx_lt bF) rfl) (tQ rfl hS (fun w hm => yl isAgg3 ((flat_cells (cs := [nV aP]) (hm.ow_rep 3 rfl) bF rfl).cell (j := 0) rfl) rfl) (tP rfl (fun w => yB rfl) (tO (tf rfl rfl (fun a hf => e_build (vs := #[(0, (nV aW))]) (cs := [nV aW]) et_43 hf hm rfl rfl (by kernel_rfl) rfl rfl) ?_))))
      rintro _ w ⟨ac, rfl, hm⟩
      replace hm := hm.lit (xs := ([aW] : List Int)) 0 rfl rfl rfl rfl
      refine tAk hm [1, 2, 3, 4, 5, 6, 7, 8] rfl fun hS => tP rfl (fun w => yG rfl (y_build (vs := [(0, (nV 2)), (1, (nV (w64 (c_.params + aP)))), (2, (sV ac 0 1 1))]) (cs := #[nV 2, nV (w64 (c_.params + aP)), sV ac 0 1 1, nV 0]) rfl rfl (by kernel_rfl))) (tO (tf rfl rfl (fun a hf => e_build (vs := #[(0, (.agg #[nV 2, nV (w64 (c_.params + aP)), sV ac 0 1 1, nV 0]))]) (cs := [nV 2, nV (w64 (c_.params + aP)), sV ac 0 1 1, nV 0]) et_61 hf hm rfl rfl (by kernel_rfl) rfl rfl) ?_))
      rintro _ w ⟨bA, rfl, hm⟩
      replace hm := hm.els_nil (α := Ins_)
      replace hm : Mem w0 ah _ [els [] ([] : List Ins_), blk bA [nV 2, nV (w64 (c_.params + aP)), sV ac 0 1 1, nV 0] 65, ow [nV 2, nV (w64 (c_.params + aP)), sV ac 0 1 1, nV 0] ((⟨2, w64 (c_.params + aP), ([aW] : List Int), 0⟩ : Ins_) : Ins_), blk aG [nV c_.params, nV c_.regs, v1] 49, blk aJ [nV 0, nV 0, .slice none 0 0] 49, blk aH [sV aa ab aA.length aE] 43, ow [sV aa ab aA.length aE] aA, blk aK [nV aI.params, nV (w64 (c_.params + aM)), .slice aN aB.length aF] 49, ow [.slice aN aB.length aF] aB, ow [aV] aZ, ow [sV ae af aC.length aO] aC] := mk_Ins_ 2 (w64 (c_.params + aP)) 0 hm 2 rfl
      replace hm := (hm.els_cons 0 2 (by decide) rfl rfl).pk (L' := [els [nV 2, nV (w64 (c_.params + aP)), sV ac 0 1 1, nV 0] ([(⟨2, w64 (c_.params + aP), ([aW] : List Int), 0⟩ : Ins_)] : List Ins_), blk bA [nV 2, nV (w64 (c_.params + aP)), sV ac 0 1 1, nV 0] 65, blk aG [nV c_.params, nV c_.regs, v1] 49, blk aJ [nV 0, nV 0, .slice none 0 0] 49, blk aH [sV aa ab aA.length aE] 43, ow [sV aa ab aA.length aE] aA, blk aK [nV aI.params, nV (w64 (c_.params + aM)), .slice aN aB.length aF] 49, ow [.slice aN aB.length aF] aB, ow [aV] aZ, ow [sV ae af aC.length aO] aC]) [0, 1, 3, 4, 5, 6, 7, 8, 9, 10] rfl rfl
      replace hm := (hm.lit_els 1 0 (by decide) rfl rfl rfl rfl).pk (L' := [ow [sV bA 0 1 1] ([(⟨2, w64 (c_.params + aP), ([aW] : List Int), 0⟩ : Ins_)] : List Ins_), blk aG [nV c_.params, nV c_.regs, v1] 49, blk aJ [nV 0, nV 0, .slice none 0 0] 49, blk aH [sV aa ab aA.length aE] 43, ow [sV aa ab aA.length aE] aA, blk aK [nV aI.params, nV (w64 (c_.params + aM)), .slice aN aB.length aF] 49, ow [.slice aN aB.length aF] aB, ow [aV] aZ, ow [sV ae af aC.length aO] aC]) [1, 2, 3, 4, 5, 6, 7, 8, 9] rfl rfl
      refine tAn rfl (tO (gb fun cG b7 => ?_))
      obtain ⟨b8, b9⟩ := appM_some.1 b7
      replace hm := (hm.both 7 0 (by decide) rfl rfl).pk (L' := [blk aG [nV c_.params, nV c_.regs, v1] 49, blk aJ [nV 0, nV 0, .slice none 0 0] 49, blk aH [sV aa ab aA.length aE] 43, ow [sV aa ab aA.length aE] aA, blk aK [nV aI.params, nV (w64 (c_.params + aM)), .slice aN aB.length aF] 49, ow [.slice aN aB.length aF] aB, both (ow [aV] aZ) (ow [sV bA 0 1 1] ([(⟨2, w64 (c_.params + aP), ([aW] : List Int), 0⟩ : Ins_)] : List Ins_)), ow [sV ae af aC.length aO] aC]) [1, 2, 3, 4, 5, 6, 7, 8] rfl rfl
      refine tf rfl rfl (fun a hf => e_appendD (xs := aZ) (ys := ([(⟨2, w64 (c_.params + aP), ([aW] : List Int), 0⟩ : Ins_)] : List Ins_)) 6 et_61 hf hm rfl rfl rfl rfl b8) ?_
      rintro ba w hm
      rw [b9] at hm
      exact tAn rfl (tP rfl (fun w => yA rfl) (tE (gZ fun a hf => ⟨ba, hf.sb rfl, hm.pk [0, 1, 2, 3, 4, 5, 6, 7] rfl rfl⟩)))
     exact gcf rfl (gSk (gZ fun a hf => ⟨aV, hf.sb rfl, hm.pk [0, 1, 2, 3, 4, 5, 6, 7] rfl rfl⟩))
    repeat clear hm
    rintro bE a w ⟨az, hf, hm⟩
    exact gv hf (gZ fun a hf => ⟨az, hf.sb rfl, hm.pk [0, 1, 2, 3, 4, 5, 6, 7] rfl rfl⟩)
   repeat clear hm
   rintro bC a w ⟨ay, hf, hm⟩
   exact gv hf (gR (gP (by omega) (by omega) rfl (gM rfl (gE (gZe fun a hf => ⟨ay, hf.sb rfl, hm.pk [0, 1, 2, 3, 4, 5, 6, 7] rfl rfl⟩)))))
  repeat clear hm
  rintro cH bM a w ⟨bc, hf, hm⟩ cI cJ
  refine gv hf (gS (gR (gB rfl (gE (gS (go _ 38 rfl (decide_eq_false (by omega)) (gcf rfl (gXt (gHh (gS (gW (.p 0 (.p 2 (.p 3 (.q 1 (.e 4 (.p 5 (.p 6 (.e 7 (.e 8 (.p 9 (.p 10 (.e 11 .fin .nil))) .nil) .nil))) .nil))))) [4, 7, 8] [0, 2, 3, 5, 6, 9, 10] hm [0, 1, 2, 3, 4, 7] [blk aG [nV c_.params, nV c_.regs, v1] 49, blk aJ [nV 0, nV 0, .slice none 0 0] 49, blk aH [.slice aL aA.length aE] 43, ow [.slice aL aA.length aE] aA, blk aK [nV aI.params, nV (w64 (c_.params + aM)), .slice aN aB.length aF] 49, ow [.slice aT aC.length aO] aC] rfl mxo (by kernel_rfl) (fun _ _ _ h => h.2) fun w hm hS => tP rfl (fun w => yF fo_49_2 rfl) (tP rfl (fun w => yM rfl) (tP rfl (fun w => yF fo_49_2 rfl) (tQ rfl hS (fun w hm => yL hm 4 isAgg47 rfl) (tO (tY rfl (yL hm 4 isAgg47 rfl) (tAs hS (gg fun aD bN aj => ?_))))))))))))))))))
  obtain ⟨aX, aY, cK, he⟩ := idx_form' (hm.ow_rep 5 rfl) aj
  obtain ⟨rfl, _, rfl⟩ := sl3 he
  obtain ⟨cL, cM, cN, cO, cP, cQ, cR⟩ := rk_Block_ (hm.ow_rep 5 rfl) aj
  refine tP rfl (fun w => yI st_47 bN (idx_lt aj) rfl) (tP rfl (fun w => yF fo_63_1 rfl) (tO ?_))
  obtain ⟨ak, bO, al, hm⟩ := pin_Block_ hm 5 rfl aj
  refine tY rfl (yl isAgg61 ((hm.holeE_at 8 rfl).cell (j := 1) rfl) rfl) (tAk hm [3, 4, 5, 6, 7, 10] rfl fun hS => tO (gb fun aq bd => ?_))
  obtain ⟨be, bf⟩ := appM_some.1 bd
  replace hm := (hm.both 9 1 (by decide) rfl rfl).pk (L' := [ow [al] aD.next_, ow [ak] aD.phis, blk aG [nV c_.params, nV c_.regs, v1] 49, blk aJ [nV 0, nV 0, .slice none 0 0] 49, blk aH [.slice aL aA.length aE] 43, ow [.slice aL aA.length aE] aA, blk aK [nV aI.params, nV (w64 (c_.params + aM)), sV aX aY aB.length aF] 49, holeE aX aY aB.length aF (aB : List Block_) (0 : Int).toNat [ak, bO, nV aD.jump, nV aD.on, al], both (ow [bc] bM) (ow [bO] aD.ins), ow [.slice aT aC.length aO] aC]) [0, 2, 3, 4, 5, 6, 7, 8, 9, 10] rfl rfl
  refine tf rfl rfl (fun a hf => e_appendD (xs := bM) (ys := aD.ins) 8 et_61 hf hm rfl rfl rfl rfl be) ?_
  rintro am w hm
  rw [bf] at hm
  refine tAk hm [2, 3, 4, 5, 6, 9] rfl fun hS => ?_
  have hL0_1 := hm.holeE_len 7 rfl
  refine tP rfl (fun w => yI st_47 bN (idx_lt2 aj hL0_1) rfl) (tP rfl (fun w => yF fo_63_1 rfl) (tO ?_))
  have bP : ∀ u ∈ ([am] : List Value), u.oneCell' = true := (one_cons (rep_one (hm.ow_rep 8 rfl)) one_nil)
  refine tf0 rfl rfl (fun a hf => e_storeH (j := 1) (vs := [am]) 7 hf hm rfl rfl rfl sizeOf61 rfl rfl (cells_one (bP _ (List.mem_singleton.2 rfl))) bP rfl) ?_
  rintro _ w hm
  replace hm : Mem w0 ah _ [ow [al] aD.next_, ow [ak] aD.phis, blk aG [nV c_.params, nV c_.regs, v1] 49, blk aJ [nV 0, nV 0, .slice none 0 0] 49, blk aH [.slice aL aA.length aE] 43, ow [.slice aL aA.length aE] aA, blk aK [nV aI.params, nV (w64 (c_.params + aM)), sV aX aY aB.length aF] 49, holeE aX aY aB.length aF (aB : List Block_) (0 : Int).toNat [ak, am, nV aD.jump, nV aD.on, al], ow [am] aq, ow [.slice aT aC.length aO] aC] := hm
  refine tAn rfl (tE (gS ?_))
  replace hm := (mk_Block_ aD.jump aD.on hm 1 8 0 rfl).pk (L' := [ow [ak, am, nV aD.jump, nV aD.on, al] ((⟨aD.phis, aq, aD.jump, aD.on, aD.next_⟩ : Block_) : Block_), blk aG [nV c_.params, nV c_.regs, v1] 49, blk aJ [nV 0, nV 0, .slice none 0 0] 49, blk aH [.slice aL aA.length aE] 43, ow [.slice aL aA.length aE] aA, blk aK [nV aI.params, nV (w64 (c_.params + aM)), sV aX aY aB.length aF] 49, holeE aX aY aB.length aF (aB : List Block_) (0 : Int).toNat [ak, am, nV aD.jump, nV aD.on, al], ow [.slice aT aC.length aO] aC]) [1, 2, 3, 4, 5, 6, 7, 9] rfl rfl
  replace hm := (hm.shutE (y := ((⟨aD.phis, aq, aD.jump, aD.on, aD.next_⟩ : Block_) : Block_)) 6 0 (by decide) rfl rfl).pk (L' := [blk aG [nV c_.params, nV c_.regs, v1] 49, blk aJ [nV 0, nV 0, .slice none 0 0] 49, blk aH [.slice aL aA.length aE] 43, ow [.slice aL aA.length aE] aA, blk aK [nV aI.params, nV (w64 (c_.params + aM)), sV aX aY aB.length aF] 49, ow [sV aX aY aB.length aF] (aB.set (0 : Int).toNat (⟨aD.phis, aq, aD.jump, aD.on, aD.next_⟩ : Block_)), ow [.slice aT aC.length aO] aC]) [1, 2, 3, 4, 5, 6, 7] rfl rfl
  have cS := List.getElem?_set_self (a := ((⟨aD.phis, aq, aD.jump, aD.on, aD.next_⟩ : Block_) : Block_)) (idx_lt aj)
  refine gR (gY (yn (hm.blk_at 4 rfl) isAgg49 sizeOf49 rfl) (gSN hm 1 sizeOf49 (one_cons rfl (one_cons rfl (one_cons rfl one_nil))) rfl fun w hm => gA rfl (gE (gRt ?_))))
  replace hm := hm.thaw bJ
  exact grct 1 results50 hm rfl isAgg49 sizeOf49 ⟨sV aX aY aB.length aF, rfl, hm.pk [5] rfl rfl⟩
theorem impl_ColourUnit_1_ok (w0 : World) (hz : Heap) (c_ : Code_) (v1 : Value) (h1 : GT.rep hz [v1] c_.blocks) (c0_ : Int) (bpc0 : Nat) (hbbpc0 : hz bpc0 = some (.cells ([nV c0_] : List Value).toArray 3 (0, 0))) (c1_ : Bool) (bpc1 : Nat) (hm0 : Mem w0 hz w0 [blk bpc1 [(.bool (c1_))] 4]) :
    ConM Tryz.prog 49 [(.agg #[nV c_.params, nV c_.regs, v1]), (pV bpc0), (pV bpc1)] w0 (impl_ColourUnit_1 c_ c0_ c1_) fun r v w' => ∃ (x1 : Value), v = (.agg #[nV r.1.params, nV r.1.regs, x1]) ∧ Mem w0 hz w' [blk bpc1 [(.bool (r.2))] 4, ow [x1] r.1.blocks] := by
  unfold impl_ColourUnit_1
  refine gcon func49 rfl fun r => ?_
  have hm := hm0
  refine gS (gR (gBx hm rfl fun aG w hm => gAl hm zeroValue49 rfl fun aD w hm => gE (gS (gR (gY (yn (hm.blk_at 1 rfl) isAgg49 sizeOf49 rfl) (gY (yl isAgg3 (hm.hz_cell hbbpc0 rfl) rfl) (gCg rfl call50 (impl_recoloured_ok _ c_ v1 (hm.now h1) c0_) ?_)))))))
  rintro aB aH aI w ⟨aC, rfl, hB⟩
  replace hm := hm.give hB; clear hB
  refine gM rfl (gX rfl (gX rfl (gAl hm zeroValue49 rfl fun aE w hm => gSN hm 0 sizeOf49 (one_cons rfl (one_cons rfl (one_cons (rep_one (hm.ow_rep 1 rfl)) one_nil))) rfl fun w hm => gA rfl (gE (gS (gJ hm (fun aA => [(4, (pV aD)), (5, (pV aE))]) (fun aA => [blk aD [nV 0, nV 0, .slice none 0 0] 49, blk aE [nV aB.1.params, nV aB.1.regs, aC] 49, ow [aC] aB.1.blocks, blk bpc1 [(.bool (aA))] 4]) (fun aA => ?_) ?_))))))
  ·refine gR (gL hm 4 isAgg4 rfl (gM rfl (gs 14 rfl (fun aF => ?_) fun aF => ?_)))
   ·exact gM rfl (gKt rfl (gS1 hm 4 sizeOf4 rfl rfl fun w hm => gE (gz hm [2, 0, 1, 4] rfl)))
   exact gO rfl (gKf rfl (gS1 hm 4 sizeOf4 rfl rfl fun w hm => gE (gz hm [2, 0, 1, 4] rfl)))
  repeat clear hm
  intro aA w hm
  exact gS (gR (gY (yn (hm.blk_at 1 rfl) isAgg49 sizeOf49 rfl) (gSN hm 0 sizeOf49 (one_cons rfl (one_cons rfl (one_cons (rep_one (hm.ow_rep 2 rfl)) one_nil))) rfl fun w hm => gE (gRt (grc 0 results49 hm rfl isAgg49 sizeOf49 ⟨aC, rfl, hm.pk [3, 2] rfl rfl⟩)))))
theorem impl_onlyValid_ok (w0 : World) (hz : Heap) (u : Unit_) (v1 : Value) (ok : Bool) (hm0 : Mem w0 hz w0 [ow [v1] u.codes]) :
    ConM Tryz.prog 51 [(.agg #[v1]), (.bool (ok))] w0 (impl_onlyValid u ok) fun r v w' => ∃ (x1 : Value), v = (.tuple #[(.agg #[x1]), (.bool (r.2))]) ∧ Mem w0 hz w' [ow [x1] r.1.codes] := by
  unfold impl_onlyValid
  refine gcon func51 rfl fun r => ?_
  have hm := hm0
  refine gS (gR (gBx hm rfl fun aB w hm => gAl hm zeroValue28 rfl fun aC w hm => gA rfl (gE (gS (gS (gJ hm (fun aA => [(2, (pV aB)), (4, (pV aC)), (12, (.bool (aA)))]) (fun aA => [blk aB [v1] 28, ow [v1] u.codes, blk aC [.slice none 0 0] 28]) (fun aA => ?_) ?_))))))
  ·refine gR (gM rfl (gN rfl (gM rfl (gsn 8 rfl (fun aD => ?_) fun aD => ?_))))
   ·exact gO rfl (gO rfl (gO rfl (gKt rfl (gE (gz hm [1, 2, 0] rfl)))))
   exact gY (yn (hm.blk_at 1 rfl) isAgg28 sizeOf28 rfl) (gC hm rfl call63 (impl_UnitValid_ok _ u v1 (hm.ow_rep 2 rfl)) fun aF aG w hm => gN rfl (gKf rfl (gE (gz hm [1, 2, 0] rfl))))
  repeat clear hm
  intro aA w hm
  refine gs 12 rfl (fun aE => ?_) fun aE => ?_
  ·refine gct rfl (gS (gR (gY (yG rfl (y_build (vs := []) (cs := #[.slice none 0 0]) rfl rfl (by kernel_rfl))) (gSN hm 2 sizeOf28 (one_cons rfl one_nil) rfl fun w hm => gA rfl (gE (gRt ?_))))))
   replace hm := hm.nilow (α := Code_)
   exact grct 3 results51 hm rfl isAgg28 sizeOf28 ⟨.slice none 0 0, rfl, hm.pk [0] rfl rfl⟩
  exact gcf rfl (gSk (gS (gR (gY (yn (hm.blk_at 0 rfl) isAgg28 sizeOf28 rfl) (gSN hm 2 sizeOf28 (one_cons (rep_one (hm.ow_rep 1 rfl)) one_nil) rfl fun w hm => gA rfl (gE (gRt (grct 2 results51 hm rfl isAgg28 sizeOf28 ⟨v1, rfl, hm.pk [1] rfl rfl⟩))))))))
def FnSt {σ : Type} (vf : Value) (hzc : Heap) (K : σ → Ch) (f : Code_ → σ → Option (Code_ × σ)) : Prop :=
  ∀ (w : World) (hz : Heap) (s : σ) (x : Code_) (vx : Value), Heap.le hzc hz → Mem w hz w [K s] → GT.rep hz [vx] x.blocks → ∀ y, f x s = some y →
    FnOk Tryz.prog vf [(.agg #[nV x.params, nV x.regs, vx])] w fun v w' => ∃ vy : Value, v = (.agg #[nV y.1.params, nV y.1.regs, vy]) ∧ Mem w hz w' [K y.2, ow [vy] y.1.blocks]
theorem impl_mappedS_ok {σ : Type} (w0 : World) (hz : Heap) (list : List Code_) (v1 : Value) (h1 : GT.rep hz [v1] list) (vf : Value) (K : σ → Ch) (f : Code_ → σ → Option (Code_ × σ)) (s0 : σ) (hm0 : Mem w0 hz w0 [K s0]) (hfn : FnSt vf hz K f) :
    ConM Tryz.prog 48 [v1, vf] w0 (impl_mappedS f list s0) fun r v w' => ∃ (x1 : Value), v = x1 ∧ Mem w0 hz w' [K r.2, ow [x1] r.1] := by
  unfold impl_mappedS
  refine gcon func48 rfl fun r => ?_
  have hm := hm0
  refine gS (gR (gA rfl (gE (gS (gR (gA rfl (gE (gS (gS (gR (gM rfl ?_)))))))))))
  obtain ⟨aL, aM, rfl, aW⟩ := ro_slice h1
  refine gY (yV st_26 rfl) (gM rfl (gE (gBk ?_)))
  replace hm := hm.nilow (α := Code_)
  refine gNg (fun aI aB a w => ∃ (aC : Value), St 22 [(1, vf), (5, aC), (8, (.slice aL list.length aM)), (9, (nV ((list.length : Int)))), (10, (nV aI))] w0 hz [ow [aC] aB.1, K aB.2] a w) (fun a hf => ⟨.slice none 0 0, hf.sb rfl, hm.pk [0, 1] rfl rfl⟩) ?_ ?_
  ·clear hm hm0
   rintro _ _ aI aB a w ⟨aC, hf, hm⟩ aX aY aZ _
   refine gv hf (gS (gR (gB rfl (gE (gS (go _ 11 rfl (decide_eq_true (by omega)) (gct rfl (gSk (gS (gBk (gS (gR (gg fun aE aN aG => ?_)))))))))))))
   obtain ⟨aa, ab, ac, he⟩ := idx_form' h1 aG
   obtain ⟨rfl, _, rfl⟩ := sl3 he
   obtain ⟨aH, aO, aJ⟩ := rk_Code_ h1 aG
   refine gI st_26 aN (idx_lt aG) rfl (gY (yn (aO.mono hm.lez) isAgg49 sizeOf49 rfl) (gAl hm zeroValue49 rfl fun aK w hm => gSN hm 0 sizeOf49 (one_cons rfl (one_cons rfl (one_cons (rep_one aJ) one_nil))) rfl fun w hm => gE (gR (gM rfl (gM rfl (gY (yn (hm.blk_at 0 rfl) isAgg49 sizeOf49 rfl) (gb fun aA aP => ?_)))))))
   obtain ⟨hz3, hle, hm1, hsub, hk⟩ := hm.take2 (L1 := [K aB.2]) (L2 := [blk aK [nV aE.params, nV aE.regs, aH] 49, ow [aC] aB.1]) [2] [0, 1] (by decide) rfl rfl
   refine gf rfl (fun a hf => e_callv hf rfl rfl rfl (hfn _ hz3 aB.2 aE aH hle hm1 (GT.mono hle aJ) aA aP)) ?_
   rintro ae w ⟨aD, rfl, hB⟩
   replace hm := hk _ _ hB; clear hB hk hsub hm1
   refine gf rfl (fun a hf => e_build (vs := #[(0, (.agg #[nV aA.1.params, nV aA.1.regs, aD]))]) (cs := [nV aA.1.params, nV aA.1.regs, aD]) et_26 hf hm rfl rfl (by kernel_rfl) rfl rfl) ?_
   rintro _ w ⟨aF, rfl, hm⟩
   replace hm := hm.els_nil (α := Code_)
   replace hm : Mem w0 hz _ [els [] ([] : List Code_), blk aF [nV aA.1.params, nV aA.1.regs, aD] 49, K aA.2, ow [nV aA.1.params, nV aA.1.regs, aD] (aA.1 : Code_), blk aK [nV aE.params, nV aE.regs, aH] 49, ow [aC] aB.1] := mk_Code_ aA.1.params aA.1.regs hm 3 rfl
   replace hm := (hm.els_cons 0 3 (by decide) rfl rfl).pk (L' := [els [nV aA.1.params, nV aA.1.regs, aD] ([aA.1] : List Code_), blk aF [nV aA.1.params, nV aA.1.regs, aD] 49, K aA.2, ow [aC] aB.1]) [0, 1, 2, 5] rfl rfl
   replace hm := (hm.lit_els 1 0 (by decide) rfl rfl rfl rfl).pk (L' := [ow [sV aF 0 1 1] ([aA.1] : List Code_), K aA.2, ow [aC] aB.1]) [1, 2, 3] rfl rfl
   refine gb fun af aQ => ?_
   obtain ⟨aR, aS⟩ := appM_some.1 aQ
   replace hm := (hm.both 2 0 (by decide) rfl rfl).pk (L' := [K aA.2, both (ow [aC] aB.1) (ow [sV aF 0 1 1] ([aA.1] : List Code_))]) [1, 2] rfl rfl
   refine gf rfl (fun a hf => e_appendD (xs := aB.1) (ys := ([aA.1] : List Code_)) 1 et_26 hf hm rfl rfl rfl rfl aR) ?_
   rintro aT w hm
   rw [aS] at hm
   exact gA rfl (gE (gR (gP (by omega) (by omega) rfl (gM rfl (gE (gZe fun a hf => ⟨aT, hf.sb rfl, hm.pk [1, 0] rfl rfl⟩))))))
  clear hm hm0
  rintro ah ai a w ⟨aV, hf, hm⟩ aj ak
  exact gv hf (gS (gR (gB rfl (gE (gS (go _ 11 rfl (decide_eq_false (by omega)) (gcf rfl (gXt (gHh (gS (gR (gM rfl (gA rfl (gE (gRt (gr1 results48 rfl ⟨aV, rfl, hm.pk [1, 0] rfl rfl⟩))))))))))))))))
theorem impl_ColourUnit_ok (w0 : World) (u : Unit_) (v1 : Value) (h1 : GT.rep (hp w0) [v1] u.codes) (most : Int) :
    ConM Tryz.prog 16 [(.agg #[v1]), nV most] w0 (impl_ColourUnit u most) fun r v w' => ∃ (x1 : Value), v = (.tuple #[(.agg #[x1]), (.bool (r.2))]) ∧ Mem w0 (hp w0) w' [ow [x1] r.1.codes] := by
  unfold impl_ColourUnit
  refine gcon func16 rfl fun r => ?_
  have hm := Mem.start w0
  refine gS (gR (gBx hm rfl fun aF w hm => gBx hm rfl fun aB w hm => gAl hm zeroValue28 rfl fun aG w hm => gA rfl (gE (gS (gS (gJ hm (fun aH => [(2, (pV aF)), (3, (pV aB)), (4, (pV aG)), (15, (.bool (aH)))]) (fun aH => [blk aF [v1] 28, blk aB [nV most] 3, blk aG [.slice none 0 0] 28]) (fun aH => ?_) ?_))))))
  ·refine gR (gY (yn (hm.blk_at 2 rfl) isAgg28 sizeOf28 rfl) (gC hm rfl call46 (impl_plainAt_ok _ u v1 (hm.now h1) 0) fun aQ aR w hm => gN rfl (gM rfl (gsn 11 rfl (fun aI => ?_) fun aI => ?_))))
   ·exact gO rfl (gO rfl (gO rfl (gKt rfl (gE (gz hm [2, 1, 0] rfl)))))
   exact gL hm 1 isAgg3 rfl (gC hm rfl call47 (impl_within_ok _ most 1 16) fun aS aT w hm => gN rfl (gKf rfl (gE (gz hm [2, 1, 0] rfl))))
  repeat clear hm
  intro aH w hm
  refine gs 15 rfl (fun aJ => ?_) fun aJ => ?_
  ·refine gct rfl (gS (gR (gY (yG rfl (y_build (vs := []) (cs := #[.slice none 0 0]) rfl rfl (by kernel_rfl))) (gSN hm 2 sizeOf28 (one_cons rfl one_nil) rfl fun w hm => gA rfl (gE (gRt ?_))))))
   replace hm := hm.nilow (α := Code_)
   exact grct 3 results16 hm rfl isAgg28 sizeOf28 ⟨.slice none 0 0, rfl, hm.pk [0] rfl rfl⟩
  refine gcf rfl (gSk (gS (gR (gAl hm zeroValue4 rfl fun aC w hm => gS1 hm 0 sizeOf4 rfl rfl fun w hm => gE (gS (gR (gF fo_28_0 rfl (gL hm 1 isAgg26 rfl (gY (yU rfl) ?_)))))))))
  obtain ⟨aK, hle, hm1, hsub, aL⟩ := hm.take2 (L1 := [blk aC [(.bool (true))] 4]) (L2 := [blk aF [v1] 28, blk aB [nV most] 3, blk aG [.slice none 0 0] 28]) [0] [1, 2, 3] (by decide) rfl rfl
  refine gCg rfl call48 (impl_mappedS_ok _ aK u.codes v1 (GT.mono hle h1) (.func (.func 49) #[] #[(pV aB), (pV aC)]) (fun (y1 : Bool) => blk aC [(.bool (y1))] 4) (fun y0 y1 => impl_ColourUnit_1 y0 most y1) true hm1 (fun w hz3 y1 x vx hle3 hm3 hx3 y hy => ⟨49, [(pV aB), (pV aC)], rfl, call49, impl_ColourUnit_1_ok w hz3 x vx hx3 most aB (hle3 _ _ (fz_blk (hsub 1 _ rfl))) y1 aC hm3 _ hy⟩)) ?_
  rintro aA aV aW w ⟨_, rfl, hB⟩
  replace hm := aL _ _ hB; clear hB
  obtain ⟨aD, aE, rfl, aX⟩ := ro_slice (hm.ow_rep 1 rfl)
  refine gY (yG rfl (y_build (vs := [(0, (.slice aD aA.1.length aE))]) (cs := #[.slice aD aA.1.length aE]) rfl rfl (by kernel_rfl))) (gAl hm zeroValue28 rfl fun aM w hm => gSN hm 0 sizeOf28 (one_cons rfl one_nil) rfl fun w hm => gE (gS (gR (gY (yn (hm.blk_at 0 rfl) isAgg28 sizeOf28 rfl) (gL hm 1 isAgg4 rfl ?_)))))
  obtain ⟨aN, hle, hm1, hsub, aO⟩ := hm.take2 (L1 := [ow [.slice aD aA.1.length aE] aA.1]) (L2 := [blk aM [.slice aD aA.1.length aE] 28, blk aC [(.bool (aA.2))] 4, blk aF [v1] 28, blk aB [nV most] 3, blk aG [.slice none 0 0] 28]) [2] [0, 1, 3, 4, 5] (by decide) rfl rfl
  refine gCg rfl call51 (impl_onlyValid_ok _ aN (⟨aA.1⟩ : Unit_) (.slice aD aA.1.length aE) aA.2 hm1 ) ?_
  rintro aY aZ aa w ⟨aP, rfl, hB⟩
  replace hm := aO _ _ hB; clear hB
  exact gX rfl (gX rfl (gSN hm 5 sizeOf28 (one_cons (rep_one (hm.ow_rep 0 rfl)) one_nil) rfl fun w hm => gA rfl (gE (gRt (grct 5 results16 hm rfl isAgg28 sizeOf28 ⟨aP, rfl, hm.pk [0] rfl rfl⟩)))))
theorem laws_eqIntS_ok (w0 : World) (a_ : List Int) (v1 : Value) (h1 : GT.rep (hp w0) [v1] a_) (b_ : List Int) (v2 : Value) (h2 : GT.rep (hp w0) [v2] b_) :
    ConM Tryz.prog 316 [v1, v2] w0 (laws_eqIntS a_ b_) fun r v w' => v = (.bool (r)) ∧ Below w0.heap.size w0 w' := by
  unfold laws_eqIntS
  refine gcon func316 rfl fun r => ?_
  have hm := Mem.start w0
  refine gS (gR (gA rfl (gE (gS (gS (gR (gM rfl ?_)))))))
  obtain ⟨aE, aF, rfl, aQ⟩ := ro_slice h1
  refine gY (yV st_43 rfl) (gM rfl ?_)
  obtain ⟨aG, aH, rfl, aR⟩ := ro_slice h2
  refine gY (yV st_43 rfl) (gB rfl (gE (gsd 10 rfl (fun aI => ?_) fun aI => ?_)))
  ·exact gct rfl (gS (gR (gA rfl (gE (gRt (gr1 results316 rfl ⟨rfl, hm.below⟩))))))
  refine gcf rfl (gSk (gS (gS (gR (gA rfl (gE (gBk (gNf hm (fun aA aD => [(0, (.slice aE a_.length aF)), (1, (.slice aG b_.length aH)), (5, (nV aA))]) (fun aA aD => []) [] rfl ?_ ?_))))))))
  ·repeat clear hm
   intro aS aJ aA aD w hm aT aV aW aK
   refine gS (gS (gR (gM rfl (gM rfl (gY (yV st_43 rfl) (gB rfl (gE (go _ 14 rfl (decide_eq_true (by omega)) (gct rfl (gSk (gS (gBk (gS (gW (.p 0 (.p 1 (.p 2 (.p 4 (.p 5 (.p 6 (.q 3 (.e 7 (.p 8 .fin) .nil)))))))) [7] [0, 1, 2, 4, 5, 6, 8] hm [] [] rfl mxo (by kernel_rfl) (fun _ _ _ h => h.2) fun w hm hS => tP rfl (fun w => yM rfl) (tP rfl (fun w => yM rfl) (gg fun aL aM aB => ?_))))))))))))))))
   obtain ⟨aX, aY, aZ, he⟩ := idx_form h1 aB
   obtain ⟨rfl, _, rfl⟩ := sl3 he
   refine tP rfl (fun w => yI st_43 aM (idx_lt aB) rfl) (tP rfl (fun w => yM rfl) (tP rfl (fun w => yM rfl) (gg fun aN aO aC => ?_)))
   obtain ⟨aa, ab, ac, he⟩ := idx_form h2 aC
   obtain ⟨rfl, _, rfl⟩ := sl3 he
   refine tP rfl (fun w => yI st_43 aO (idx_lt aC) rfl) (tQ rfl hS (fun w hm => yl isAgg3 ((flat_cells (cs := [nV aL]) (hm.now h1) aB rfl).cell (j := 0) rfl) rfl) (tO (tY rfl (yl isAgg3 ((flat_cells (cs := [nV aN]) (hm.now h2) aC rfl).cell (j := 0) rfl) rfl) (tAs hS (tP rfl (fun w => yB rfl) (tE (gsd 25 rfl (fun aP => ?_) fun aP => ?_)))))))
   ·exact gct rfl (gS (gR (gA rfl (gE (gRt (gLr aK aJ (gr1 results316 rfl ⟨rfl, hm.below⟩)))))))
   exact gcf rfl (gSk (gR (gM rfl (gP (by omega) (by omega) rfl (gA rfl (gE (gze hm [] rfl)))))))
  repeat clear hm
  intro ae af w hm ah ai
  exact gS (gS (gR (gM rfl (gM rfl (gY (yV st_43 rfl) (gB rfl (gE (go _ 14 rfl (decide_eq_false (by omega)) (gcf rfl (gXt (gHh (gS (gR (gA rfl (gE (gRt (gr1 results316 rfl ⟨rfl, hm.below⟩)))))))))))))))))
theorem laws_eqPhi_ok (w0 : World) (a_ : Phi_) (v1 : Value) (h1 : GT.rep (hp w0) [v1] a_.args) (b_ : Phi_) (v2 : Value) (h2 : GT.rep (hp w0) [v2] b_.args) :
    ConM Tryz.prog 344 [(.agg #[nV a_.to, v1]), (.agg #[nV b_.to, v2])] w0 (laws_eqPhi a_ b_) fun r v w' => v = (.bool (r)) ∧ Below w0.heap.size w0 w' := by
  unfold laws_eqPhi
  refine gcon func344 rfl fun r => ?_
  have hm := Mem.start w0
  refine gS (gR (gBx hm rfl fun aC w hm => gBx hm rfl fun aD w hm => gA rfl (gE (gS (gS (gR (gF fo_127_0 rfl (gL hm 1 isAgg3 rfl (gF fo_127_0 rfl (gL hm 0 isAgg3 rfl (gB rfl (gE (gsd 9 rfl (fun aA => ?_) fun aA => ?_)))))))))))))
  ·exact gct rfl (gS (gR (gA rfl (gE (gRt (gr1 results344 rfl ⟨rfl, hm.below⟩))))))
  refine gcf rfl (gSk (gS (gS (gR (gF fo_127_1 rfl (gL hm 1 isAgg43 rfl (gF fo_127_1 rfl (gL hm 0 isAgg43 rfl (gC hm rfl call316 (laws_eqIntS_ok _ a_.args v1 (hm.now h1) b_.args v2 (hm.now h2)) fun aE aF w hm => gN rfl (gE (gsn 15 rfl (fun aB => ?_) fun aB => ?_)))))))))))
  ·exact gct rfl (gS (gR (gA rfl (gE (gRt (gr1 results344 rfl ⟨rfl, hm.below⟩))))))
  exact gcf rfl (gSk (gS (gR (gA rfl (gE (gRt (gr1 results344 rfl ⟨rfl, hm.below⟩)))))))
theorem laws_eqPhiS_ok (w0 : World) (a_ : List Phi_) (v1 : Value) (h1 : GT.rep (hp w0) [v1] a_) (b_ : List Phi_) (v2 : Value) (h2 : GT.rep (hp w0) [v2] b_) :
    ConM Tryz.prog 314 [v1, v2] w0 (laws_eqPhiS a_ b_) fun r v w' => v = (.bool (r)) ∧ Below w0.heap.size w0 w' := by
  unfold laws_eqPhiS
  refine gcon func314 rfl fun r => ?_
  have hm := Mem.start w0
  refine gS (gR (gA rfl (gE (gS (gS (gR (gM rfl ?_)))))))
  obtain ⟨aE, aF, rfl, aY⟩ := ro_slice h1
  refine gY (yV st_60 rfl) (gM rfl ?_)
  obtain ⟨aG, aH, rfl, aZ⟩ := ro_slice h2
  refine gY (yV st_60 rfl) (gB rfl (gE (gsd 10 rfl (fun aI => ?_) fun aI => ?_)))
  ·exact gct rfl (gS (gR (gA rfl (gE (gRt (gr1 results314 rfl ⟨rfl, hm.below⟩))))))
  refine gcf rfl (gSk (gS (gS (gR (gA rfl (gE (gBk (gNf hm (fun aA aD => [(0, (.slice aE a_.length aF)), (1, (.slice aG b_.length aH)), (5, (nV aA))]) (fun aA aD => []) [] rfl ?_ ?_))))))))
  ·repeat clear hm
   intro aa aJ aA aD w hm ab ac ae aK
   refine gS (gS (gR (gM rfl (gM rfl (gY (yV st_60 rfl) (gB rfl (gE (go _ 14 rfl (decide_eq_true (by omega)) (gct rfl (gSk (gS (gBk (gS (gW (.p 0 (.p 1 (.p 2 (.p 4 (.p 5 (.p 6 (.q 3 (.e 7 (.e 8 (.p 9 .fin) .nil) .nil)))))))) [7] [0, 1, 2, 4, 5, 6, 9] hm [] [] rfl mxo (by kernel_rfl) (fun _ _ _ h => h.2) fun w hm hS => tP rfl (fun w => yM rfl) (tP rfl (fun w => yM rfl) (gg fun aL aM aB => ?_))))))))))))))))
   obtain ⟨af, ah, ai, he⟩ := idx_form' h1 aB
   obtain ⟨rfl, _, rfl⟩ := sl3 he
   obtain ⟨aN, aO, aP⟩ := rk_Phi_ h1 aB
   refine tP rfl (fun w => yI st_60 aM (idx_lt aB) rfl) (tP rfl (fun w => yM rfl) (tP rfl (fun w => yM rfl) (gg fun aQ aR aC => ?_)))
   obtain ⟨aj, ak, al, he⟩ := idx_form' h2 aC
   obtain ⟨rfl, _, rfl⟩ := sl3 he
   obtain ⟨aS, aT, aV⟩ := rk_Phi_ h2 aC
   refine tP rfl (fun w => yI st_60 aR (idx_lt aC) rfl) (tQ rfl hS (fun w hm => yn (aO.mono hm.lez) isAgg127 sizeOf127 rfl) (tO (tY rfl (yn (aT.mono hm.lez) isAgg127 sizeOf127 rfl) (tAs hS (tO (gb fun am aW => tf rfl rfl (fun a hf => e_call hf rfl call344 rfl (laws_eqPhi_ok _ aL aN (hm.now aP) aQ aS (hm.now aV) _ aW)) ?_))))))
   rintro an w ⟨rfl, hB⟩
   replace hm := hm.below' hB; clear hB
   refine tAn rfl (tP rfl (fun w => yN rfl) (tE (gsn 26 rfl (fun aX => ?_) fun aX => ?_)))
   ·exact gct rfl (gS (gR (gA rfl (gE (gRt (gLr aK aJ (gr1 results314 rfl ⟨rfl, hm.below⟩)))))))
   exact gcf rfl (gSk (gR (gM rfl (gP (by omega) (by omega) rfl (gA rfl (gE (gze hm [] rfl)))))))
  repeat clear hm
  intro ao ap w hm aq ar
  exact gS (gS (gR (gM rfl (gM rfl (gY (yV st_60 rfl) (gB rfl (gE (go _ 14 rfl (decide_eq_false (by omega)) (gcf rfl (gXt (gHh (gS (gR (gA rfl (gE (gRt (gr1 results314 rfl ⟨rfl, hm.below⟩)))))))))))))))))
theorem laws_eqIns_ok (w0 : World) (a_ : Ins_) (v1 : Value) (h1 : GT.rep (hp w0) [v1] a_.args) (b_ : Ins_) (v2 : Value) (h2 : GT.rep (hp w0) [v2] b_.args) :
    ConM Tryz.prog 345 [(.agg #[nV a_.op, nV a_.to, v1, nV a_.n_]), (.agg #[nV b_.op, nV b_.to, v2, nV b_.n_])] w0 (laws_eqIns a_ b_) fun r v w' => v = (.bool (r)) ∧ Below w0.heap.size w0 w' := by
  unfold laws_eqIns
  refine gcon func345 rfl fun r => ?_
  have hm := Mem.start w0
  refine gS (gR (gBx hm rfl fun aE w hm => gBx hm rfl fun aF w hm => gA rfl (gE (gS (gS (gR (gF fo_65_0 rfl (gL hm 1 isAgg3 rfl (gF fo_65_0 rfl (gL hm 0 isAgg3 rfl (gB rfl (gE (gsd 9 rfl (fun aA => ?_) fun aA => ?_)))))))))))))
  ·exact gct rfl (gS (gR (gA rfl (gE (gRt (gr1 results345 rfl ⟨rfl, hm.below⟩))))))
  refine gcf rfl (gSk (gS (gS (gR (gF fo_65_1 rfl (gL hm 1 isAgg3 rfl (gF fo_65_1 rfl (gL hm 0 isAgg3 rfl (gB rfl (gE (gsd 14 rfl (fun aB => ?_) fun aB => ?_)))))))))))
  ·exact gct rfl (gS (gR (gA rfl (gE (gRt (gr1 results345 rfl ⟨rfl, hm.below⟩))))))
  refine gcf rfl (gSk (gS (gS (gR (gF fo_65_2 rfl (gL hm 1 isAgg43 rfl (gF fo_65_2 rfl (gL hm 0 isAgg43 rfl (gC hm rfl call316 (laws_eqIntS_ok _ a_.args v1 (hm.now h1) b_.args v2 (hm.now h2)) fun aG aH w hm => gN rfl (gE (gsn 20 rfl (fun aC => ?_) fun aC => ?_)))))))))))
  ·exact gct rfl (gS (gR (gA rfl (gE (gRt (gr1 results345 rfl ⟨rfl, hm.below⟩))))))
  refine gcf rfl (gSk (gS (gS (gR (gF fo_65_3 rfl (gL hm 1 isAgg3 rfl (gF fo_65_3 rfl (gL hm 0 isAgg3 rfl (gB rfl (gE (gsd 25 rfl (fun aD => ?_) fun aD => ?_)))))))))))
  ·exact gct rfl (gS (gR (gA rfl (gE (gRt (gr1 results345 rfl ⟨rfl, hm.below⟩))))))
  exact gcf rfl (gSk (gS (gR (gA rfl (gE (gRt (gr1 results345 rfl ⟨rfl, hm.below⟩)))))))
theorem laws_eqInsS_ok (w0 : World) (a_ : List Ins_) (v1 : Value) (h1 : GT.rep (hp w0) [v1] a_) (b_ : List Ins_) (v2 : Value) (h2 : GT.rep (hp w0) [v2] b_) :
    ConM Tryz.prog 315 [v1, v2] w0 (laws_eqInsS a_ b_) fun r v w' => v = (.bool (r)) ∧ Below w0.heap.size w0 w' := by
  unfold laws_eqInsS
  refine gcon func315 rfl fun r => ?_
  have hm := Mem.start w0
  refine gS (gR (gA rfl (gE (gS (gS (gR (gM rfl ?_)))))))
  obtain ⟨aE, aF, rfl, aY⟩ := ro_slice h1
  refine gY (yV st_61 rfl) (gM rfl ?_)
  obtain ⟨aG, aH, rfl, aZ⟩ := ro_slice h2
  refine gY (yV st_61 rfl) (gB rfl (gE (gsd 10 rfl (fun aI => ?_) fun aI => ?_)))
  ·exact gct rfl (gS (gR (gA rfl (gE (gRt (gr1 results315 rfl ⟨rfl, hm.below⟩))))))
  refine gcf rfl (gSk (gS (gS (gR (gA rfl (gE (gBk (gNf hm (fun aA aD => [(0, (.slice aE a_.length aF)), (1, (.slice aG b_.length aH)), (5, (nV aA))]) (fun aA aD => []) [] rfl ?_ ?_))))))))
  ·repeat clear hm
   intro aa aJ aA aD w hm ab ac ae aK
   refine gS (gS (gR (gM rfl (gM rfl (gY (yV st_61 rfl) (gB rfl (gE (go _ 14 rfl (decide_eq_true (by omega)) (gct rfl (gSk (gS (gBk (gS (gW (.p 0 (.p 1 (.p 2 (.p 4 (.p 5 (.p 6 (.q 3 (.e 7 (.e 8 (.p 9 .fin) .nil) .nil)))))))) [7] [0, 1, 2, 4, 5, 6, 9] hm [] [] rfl mxo (by kernel_rfl) (fun _ _ _ h => h.2) fun w hm hS => tP rfl (fun w => yM rfl) (tP rfl (fun w => yM rfl) (gg fun aL aM aB => ?_))))))))))))))))
   obtain ⟨af, ah, ai, he⟩ := idx_form' h1 aB
   obtain ⟨rfl, _, rfl⟩ := sl3 he
   obtain ⟨aN, aO, aP⟩ := rk_Ins_ h1 aB
   refine tP rfl (fun w => yI st_61 aM (idx_lt aB) rfl) (tP rfl (fun w => yM rfl) (tP rfl (fun w => yM rfl) (gg fun aQ aR aC => ?_)))
   obtain ⟨aj, ak, al, he⟩ := idx_form' h2 aC
   obtain ⟨rfl, _, rfl⟩ := sl3 he
   obtain ⟨aS, aT, aV⟩ := rk_Ins_ h2 aC
   refine tP rfl (fun w => yI st_61 aR (idx_lt aC) rfl) (tQ rfl hS (fun w hm => yn (aO.mono hm.lez) isAgg65 sizeOf65 rfl) (tO (tY rfl (yn (aT.mono hm.lez) isAgg65 sizeOf65 rfl) (tAs hS (tO (gb fun am aW => tf rfl rfl (fun a hf => e_call hf rfl call345 rfl (laws_eqIns_ok _ aL aN (hm.now aP) aQ aS (hm.now aV) _ aW)) ?_))))))
   rintro an w ⟨rfl, hB⟩
   replace hm := hm.below' hB; clear hB
   refine tAn rfl (tP rfl (fun w => yN rfl) (tE (gsn 26 rfl (fun aX => ?_) fun aX => ?_)))
   ·exact gct rfl (gS (gR (gA rfl (gE (gRt (gLr aK aJ (gr1 results315 rfl ⟨rfl, hm.below⟩)))))))
   exact gcf rfl (gSk (gR (gM rfl (gP (by omega) (by omega) rfl (gA rfl (gE (gze hm [] rfl)))))))
  repeat clear hm
  intro ao ap w hm aq ar
  exact gS (gS (gR (gM rfl (gM rfl (gY (yV st_61 rfl) (gB rfl (gE (go _ 14 rfl (decide_eq_false (by omega)) (gcf rfl (gXt (gHh (gS (gR (gA rfl (gE (gRt (gr1 results315 rfl ⟨rfl, hm.below⟩)))))))))))))))))
theorem laws_eqBlock_ok (w0 : World) (a_ : Block_) (v1 : Value) (h1 : GT.rep (hp w0) [v1] a_.phis) (v2 : Value) (h2 : GT.rep (hp w0) [v2] a_.ins) (v3 : Value) (h3 : GT.rep (hp w0) [v3] a_.next_) (b_ : Block_) (v4 : Value) (h4 : GT.rep (hp w0) [v4] b_.phis) (v5 : Value) (h5 : GT.rep (hp w0) [v5] b_.ins) (v6 : Value) (h6 : GT.rep (hp w0) [v6] b_.next_) :
    ConM Tryz.prog 246 [(.agg #[v1, v2, nV a_.jump, nV a_.on, v3]), (.agg #[v4, v5, nV b_.jump, nV b_.on, v6])] w0 (laws_eqBlock a_ b_) fun r v w' => v = (.bool (r)) ∧ Below w0.heap.size w0 w' := by
  unfold laws_eqBlock
  refine gcon func246 rfl fun r => ?_
  have hm := Mem.start w0
  refine gS (gR (gBx hm rfl fun aF w hm => gBx hm rfl fun aG w hm => gA rfl (gE (gS (gS (gR (gF fo_63_0 rfl (gL hm 1 isAgg60 rfl (gF fo_63_0 rfl (gL hm 0 isAgg60 rfl (gC hm rfl call314 (laws_eqPhiS_ok _ a_.phis v1 (hm.now h1) b_.phis v4 (hm.now h4)) fun aH aI w hm => gN rfl (gE (gsn 10 rfl (fun aA => ?_) fun aA => ?_)))))))))))))
  ·exact gct rfl (gS (gR (gA rfl (gE (gRt (gr1 results246 rfl ⟨rfl, hm.below⟩))))))
  refine gcf rfl (gSk (gS (gS (gR (gF fo_63_1 rfl (gL hm 1 isAgg61 rfl (gF fo_63_1 rfl (gL hm 0 isAgg61 rfl (gC hm rfl call315 (laws_eqInsS_ok _ a_.ins v2 (hm.now h2) b_.ins v5 (hm.now h5)) fun aJ aK w hm => gN rfl (gE (gsn 16 rfl (fun aB => ?_) fun aB => ?_)))))))))))
  ·exact gct rfl (gS (gR (gA rfl (gE (gRt (gr1 results246 rfl ⟨rfl, hm.below⟩))))))
  refine gcf rfl (gSk (gS (gS (gR (gF fo_63_2 rfl (gL hm 1 isAgg3 rfl (gF fo_63_2 rfl (gL hm 0 isAgg3 rfl (gB rfl (gE (gsd 21 rfl (fun aC => ?_) fun aC => ?_)))))))))))
  ·exact gct rfl (gS (gR (gA rfl (gE (gRt (gr1 results246 rfl ⟨rfl, hm.below⟩))))))
  refine gcf rfl (gSk (gS (gS (gR (gF fo_63_3 rfl (gL hm 1 isAgg3 rfl (gF fo_63_3 rfl (gL hm 0 isAgg3 rfl (gB rfl (gE (gsd 26 rfl (fun aD => ?_) fun aD => ?_)))))))))))
  ·exact gct rfl (gS (gR (gA rfl (gE (gRt (gr1 results246 rfl ⟨rfl, hm.below⟩))))))
  refine gcf rfl (gSk (gS (gS (gR (gF fo_63_4 rfl (gL hm 1 isAgg43 rfl (gF fo_63_4 rfl (gL hm 0 isAgg43 rfl (gC hm rfl call316 (laws_eqIntS_ok _ a_.next_ v3 (hm.now h3) b_.next_ v6 (hm.now h6)) fun aL aM w hm => gN rfl (gE (gsn 32 rfl (fun aE => ?_) fun aE => ?_)))))))))))
  ·exact gct rfl (gS (gR (gA rfl (gE (gRt (gr1 results246 rfl ⟨rfl, hm.below⟩))))))
  exact gcf rfl (gSk (gS (gR (gA rfl (gE (gRt (gr1 results246 rfl ⟨rfl, hm.below⟩)))))))
theorem laws_eqBlockS_ok (w0 : World) (a_ : List Block_) (v1 : Value) (h1 : GT.rep (hp w0) [v1] a_) (b_ : List Block_) (v2 : Value) (h2 : GT.rep (hp w0) [v2] b_) :
    ConM Tryz.prog 168 [v1, v2] w0 (laws_eqBlockS a_ b_) fun r v w' => v = (.bool (r)) ∧ Below w0.heap.size w0 w' := by
  unfold laws_eqBlockS
  refine gcon func168 rfl fun r => ?_
  have hm := Mem.start w0
  refine gS (gR (gA rfl (gE (gS (gS (gR (gM rfl ?_)))))))
  obtain ⟨aE, aF, rfl, ai⟩ := ro_slice h1
  refine gY (yV st_47 rfl) (gM rfl ?_)
  obtain ⟨aG, aH, rfl, aj⟩ := ro_slice h2
  refine gY (yV st_47 rfl) (gB rfl (gE (gsd 10 rfl (fun aI => ?_) fun aI => ?_)))
  ·exact gct rfl (gS (gR (gA rfl (gE (gRt (gr1 results168 rfl ⟨rfl, hm.below⟩))))))
  refine gcf rfl (gSk (gS (gS (gR (gA rfl (gE (gBk (gNf hm (fun aA aD => [(0, (.slice aE a_.length aF)), (1, (.slice aG b_.length aH)), (5, (nV aA))]) (fun aA aD => []) [] rfl ?_ ?_))))))))
  ·repeat clear hm
   intro ak aJ aA aD w hm al am an aK
   refine gS (gS (gR (gM rfl (gM rfl (gY (yV st_47 rfl) (gB rfl (gE (go _ 14 rfl (decide_eq_true (by omega)) (gct rfl (gSk (gS (gBk (gS (gW (.p 0 (.p 1 (.p 2 (.p 4 (.p 5 (.p 6 (.q 3 (.e 7 (.e 8 (.p 9 .fin) .nil) .nil)))))))) [7] [0, 1, 2, 4, 5, 6, 9] hm [] [] rfl mxo (by kernel_rfl) (fun _ _ _ h => h.2) fun w hm hS => tP rfl (fun w => yM rfl) (tP rfl (fun w => yM rfl) (gg fun aL aM aB => ?_))))))))))))))))
   obtain ⟨ao, ap, aq, he⟩ := idx_form' h1 aB
   obtain ⟨rfl, _, rfl⟩ := sl3 he
   obtain ⟨aN, aO, aP, aQ, aR, aS, aT⟩ := rk_Block_ h1 aB
   refine tP rfl (fun w => yI st_47 aM (idx_lt aB) rfl) (tP rfl (fun w => yM rfl) (tP rfl (fun w => yM rfl) (gg fun aV aW aC => ?_)))
   obtain ⟨ar, au, av, he⟩ := idx_form' h2 aC
   obtain ⟨rfl, _, rfl⟩ := sl3 he
   obtain ⟨aX, aY, aZ, aa, ab, ac, ae⟩ := rk_Block_ h2 aC
   refine tP rfl (fun w => yI st_47 aW (idx_lt aC) rfl) (tQ rfl hS (fun w hm => yn (aQ.mono hm.lez) isAgg63 sizeOf63 rfl) (tO (tY rfl (yn (aa.mono hm.lez) isAgg63 sizeOf63 rfl) (tAs hS (tO (gb fun aw af => tf rfl rfl (fun a hf => e_call hf rfl call246 rfl (laws_eqBlock_ok _ aL aN (hm.now aR) aO (hm.now aS) aP (hm.now aT) aV aX (hm.now ab) aY (hm.now ac) aZ (hm.now ae) _ af)) ?_))))))
   rintro ax w ⟨rfl, hB⟩
   replace hm := hm.below' hB; clear hB
   refine tAn rfl (tP rfl (fun w => yN rfl) (tE (gsn 26 rfl (fun ah => ?_) fun ah => ?_)))
   ·exact gct rfl (gS (gR (gA rfl (gE (gRt (gLr aK aJ (gr1 results168 rfl ⟨rfl, hm.below⟩)))))))
   exact gcf rfl (gSk (gR (gM rfl (gP (by omega) (by omega) rfl (gA rfl (gE (gze hm [] rfl)))))))
  repeat clear hm
  intro ay az w hm bA bB
  exact gS (gS (gR (gM rfl (gM rfl (gY (yV st_47 rfl) (gB rfl (gE (go _ 14 rfl (decide_eq_false (by omega)) (gcf rfl (gXt (gHh (gS (gR (gA rfl (gE (gRt (gr1 results168 rfl ⟨rfl, hm.below⟩)))))))))))))))))
theorem laws_eqCode_ok (w0 : World) (a_ : Code_) (v1 : Value) (h1 : GT.rep (hp w0) [v1] a_.blocks) (b_ : Code_) (v2 : Value) (h2 : GT.rep (hp w0) [v2] b_.blocks) :
    ConM Tryz.prog 103 [(.agg #[nV a_.params, nV a_.regs, v1]), (.agg #[nV b_.params, nV b_.regs, v2])] w0 (laws_eqCode a_ b_) fun r v w' => v = (.bool (r)) ∧ Below w0.heap.size w0 w' := by
  unfold laws_eqCode
  refine gcon func103 rfl fun r => ?_
  have hm := Mem.start w0
  refine gS (gR (gBx hm rfl fun aD w hm => gBx hm rfl fun aE w hm => gA rfl (gE (gS (gS (gR (gF fo_49_0 rfl (gL hm 1 isAgg3 rfl (gF fo_49_0 rfl (gL hm 0 isAgg3 rfl (gB rfl (gE (gsd 9 rfl (fun aA => ?_) fun aA => ?_)))))))))))))
  ·exact gct rfl (gS (gR (gA rfl (gE (gRt (gr1 results103 rfl ⟨rfl, hm.below⟩))))))
  refine gcf rfl (gSk (gS (gS (gR (gF fo_49_1 rfl (gL hm 1 isAgg3 rfl (gF fo_49_1 rfl (gL hm 0 isAgg3 rfl (gB rfl (gE (gsd 14 rfl (fun aB => ?_) fun aB => ?_)))))))))))
  ·exact gct rfl (gS (gR (gA rfl (gE (gRt (gr1 results103 rfl ⟨rfl, hm.below⟩))))))
  refine gcf rfl (gSk (gS (gS (gR (gF fo_49_2 rfl (gL hm 1 isAgg47 rfl (gF fo_49_2 rfl (gL hm 0 isAgg47 rfl (gC hm rfl call168 (laws_eqBlockS_ok _ a_.blocks v1 (hm.now h1) b_.blocks v2 (hm.now h2)) fun aF aG w hm => gN rfl (gE (gsn 20 rfl (fun aC => ?_) fun aC => ?_)))))))))))
  ·exact gct rfl (gS (gR (gA rfl (gE (gRt (gr1 results103 rfl ⟨rfl, hm.below⟩))))))
  exact gcf rfl (gSk (gS (gR (gA rfl (gE (gRt (gr1 results103 rfl ⟨rfl, hm.below⟩)))))))
theorem laws_eqCodeS_ok (w0 : World) (a_ : List Code_) (v1 : Value) (h1 : GT.rep (hp w0) [v1] a_) (b_ : List Code_) (v2 : Value) (h2 : GT.rep (hp w0) [v2] b_) :
    ConM Tryz.prog 52 [v1, v2] w0 (laws_eqCodeS a_ b_) fun r v w' => v = (.bool (r)) ∧ Below w0.heap.size w0 w' := by
  unfold laws_eqCodeS
  refine gcon func52 rfl fun r => ?_
  have hm := Mem.start w0
  refine gS (gR (gA rfl (gE (gS (gS (gR (gM rfl ?_)))))))
  obtain ⟨aE, aF, rfl, aY⟩ := ro_slice h1
  refine gY (yV st_26 rfl) (gM rfl ?_)
  obtain ⟨aG, aH, rfl, aZ⟩ := ro_slice h2
  refine gY (yV st_26 rfl) (gB rfl (gE (gsd 10 rfl (fun aI => ?_) fun aI => ?_)))
  ·exact gct rfl (gS (gR (gA rfl (gE (gRt (gr1 results52 rfl ⟨rfl, hm.below⟩))))))
  refine gcf rfl (gSk (gS (gS (gR (gA rfl (gE (gBk (gNf hm (fun aA aD => [(0, (.slice aE a_.length aF)), (1, (.slice aG b_.length aH)), (5, (nV aA))]) (fun aA aD => []) [] rfl ?_ ?_))))))))
  ·repeat clear hm
   intro aa aJ aA aD w hm ab ac ae aK
   refine gS (gS (gR (gM rfl (gM rfl (gY (yV st_26 rfl) (gB rfl (gE (go _ 14 rfl (decide_eq_true (by omega)) (gct rfl (gSk (gS (gBk (gS (gW (.p 0 (.p 1 (.p 2 (.p 4 (.p 5 (.p 6 (.q 3 (.e 7 (.e 8 (.p 9 .fin) .nil) .nil)))))))) [7] [0, 1, 2, 4, 5, 6, 9] hm [] [] rfl mxo (by kernel_rfl) (fun _ _ _ h => h.2) fun w hm hS => tP rfl (fun w => yM rfl) (tP rfl (fun w => yM rfl) (gg fun aL aM aB => ?_))))))))))))))))
   obtain ⟨af, ah, ai, he⟩ := idx_form' h1 aB
   obtain ⟨rfl, _, rfl⟩ := sl3 he
   obtain ⟨aN, aO, aP⟩ := rk_Code_ h1 aB
   refine tP rfl (fun w => yI st_26 aM (idx_lt aB) rfl) (tP rfl (fun w => yM rfl) (tP rfl (fun w => yM rfl) (gg fun aQ aR aC => ?_)))
   obtain ⟨aj, ak, al, he⟩ := idx_form' h2 aC
   obtain ⟨rfl, _, rfl⟩ := sl3 he
   obtain ⟨aS, aT, aV⟩ := rk_Code_ h2 aC
   refine tP rfl (fun w => yI st_26 aR (idx_lt aC) rfl) (tQ rfl hS (fun w hm => yn (aO.mono hm.lez) isAgg49 sizeOf49 rfl) (tO (tY rfl (yn (aT.mono hm.lez) isAgg49 sizeOf49 rfl) (tAs hS (tO (gb fun am aW => tf rfl rfl (fun a hf => e_call hf rfl call103 rfl (laws_eqCode_ok _ aL aN (hm.now aP) aQ aS (hm.now aV) _ aW)) ?_))))))
   rintro an w ⟨rfl, hB⟩
   replace hm := hm.below' hB; clear hB
   refine tAn rfl (tP rfl (fun w => yN rfl) (tE (gsn 26 rfl (fun aX => ?_) fun aX => ?_)))
   ·exact gct rfl (gS (gR (gA rfl (gE (gRt (gLr aK aJ (gr1 results52 rfl ⟨rfl, hm.below⟩)))))))
   exact gcf rfl (gSk (gR (gM rfl (gP (by omega) (by omega) rfl (gA rfl (gE (gze hm [] rfl)))))))
  repeat clear hm
  intro ao ap w hm aq ar
  exact gS (gS (gR (gM rfl (gM rfl (gY (yV st_26 rfl) (gB rfl (gE (go _ 14 rfl (decide_eq_false (by omega)) (gcf rfl (gXt (gHh (gS (gR (gA rfl (gE (gRt (gr1 results52 rfl ⟨rfl, hm.below⟩)))))))))))))))))
theorem laws_eqUnit_ok (w0 : World) (a_ : Unit_) (v1 : Value) (h1 : GT.rep (hp w0) [v1] a_.codes) (b_ : Unit_) (v2 : Value) (h2 : GT.rep (hp w0) [v2] b_.codes) :
    ConM Tryz.prog 17 [(.agg #[v1]), (.agg #[v2])] w0 (laws_eqUnit a_ b_) fun r v w' => v = (.bool (r)) ∧ Below w0.heap.size w0 w' := by
  unfold laws_eqUnit
  refine gcon func17 rfl fun r => ?_
  have hm := Mem.start w0
  refine gS (gR (gBx hm rfl fun aB w hm => gBx hm rfl fun aC w hm => gA rfl (gE (gS (gS (gR (gF fo_28_0 rfl (gL hm 1 isAgg26 rfl (gF fo_28_0 rfl (gL hm 0 isAgg26 rfl (gC hm rfl call52 (laws_eqCodeS_ok _ a_.codes v1 (hm.now h1) b_.codes v2 (hm.now h2)) fun aD aE w hm => gN rfl (gE (gsn 10 rfl (fun aA => ?_) fun aA => ?_)))))))))))))
  ·exact gct rfl (gS (gR (gA rfl (gE (gRt (gr1 results17 rfl ⟨rfl, hm.below⟩))))))
  exact gcf rfl (gSk (gS (gR (gA rfl (gE (gRt (gr1 results17 rfl ⟨rfl, hm.below⟩)))))))
theorem laws_markIntS_ok (w0 : World) (hz : Heap) (a_ : List Int) (v1 : Value) (k_ : Int) (hm0 : Mem w0 hz w0 [ow [v1] a_]) :
    ConM Tryz.prog 171 [v1, nV k_] w0 (laws_markIntS a_ k_) fun r v w' => v = (nV r.1) ∧ Mem w0 hz w' [ow [v1] r.2] := by
  unfold laws_markIntS
  refine gcon func171 rfl fun r => ?_
  have hm := hm0
  refine gS (gR (gA rfl (gE (gS (gS (gR (gA rfl (gE ?_))))))))
  obtain ⟨aD, aE, rfl, aG⟩ := ro_slice (hm.ow_rep 0 rfl)
  refine gBk (gNf hm (fun aC aA => [(0, (.slice aD a_.length aE)), (1, (nV aA.2)), (5, (nV aC))]) (fun aC aA => [ow [.slice aD a_.length aE] aA.1]) [0] rfl ?_ ?_)
  ·repeat clear hm
   intro _ _ aC aA w hm aH aI aJ _
   refine gS (gS (gR (gM rfl (gM rfl ?_))))
   have aK := rep_len (hm.ow_rep 0 rfl)
   refine gY (yV st_43 rfl) (gB rfl (gE (go _ 9 rfl (decide_eq_true (by omega)) (gct rfl (gSk (gS (gBk (gS (gR (gM rfl (gM rfl (gM rfl (gg fun aL aF aB => ?_)))))))))))))
   obtain ⟨aM, aN, aO, he⟩ := idx_form (hm.ow_rep 0 rfl) aB
   obtain ⟨rfl, _, rfl⟩ := sl3 he
   have hL1_1 := rep_slice_len (hm.ow_rep 0 rfl)
   refine gI st_43 aF (idx_lt2 aB hL1_1) rfl (gf0 rfl (fun a hf => e_setElem (x1 := aA.2) (j := 0) (vs := [nV aA.2]) 0 hf hm rfl aB rfl sizeOf3 rfl rfl rfl (one_cons rfl one_nil) rfl rfl) ?_)
   rintro _ w hm
   have aP := List.getElem?_set_self (a := aA.2) (idx_lt aB)
   exact gE (gR (gM rfl (gB rfl (gA rfl (gE (gR (gM rfl (gP (by omega) (by omega) rfl (gA rfl (gE (gze hm [0] rfl)))))))))))
  repeat clear hm
  intro aQ aR w hm aS aT
  refine gS (gS (gR (gM rfl (gM rfl ?_))))
  have aV := rep_len (hm.ow_rep 0 rfl)
  exact gY (yV st_43 rfl) (gB rfl (gE (go _ 9 rfl (decide_eq_false (by omega)) (gcf rfl (gXt (gHh (gS (gR (gM rfl (gA rfl (gE (gRt (gr1 results171 rfl ⟨rfl, hm.pk [0] rfl rfl⟩)))))))))))))
theorem laws_markPhiS_ok (w0 : World) (hz : Heap) (a_ : List Phi_) (v1 : Value) (k_ : Int) (hm0 : Mem w0 hz w0 [ow [v1] a_]) :
    ConM Tryz.prog 169 [v1, nV k_] w0 (laws_markPhiS a_ k_) fun r v w' => v = (nV r.1) ∧ Mem w0 hz w' [ow [v1] r.2] := by
  unfold laws_markPhiS
  refine gcon func169 rfl fun r => ?_
  have hm := hm0
  refine gS (gR (gA rfl (gE (gS (gS (gR (gA rfl (gE ?_))))))))
  obtain ⟨aL, aE, rfl, aT⟩ := ro_slice (hm.ow_rep 0 rfl)
  refine gBk (gNf hm (fun aD aA => [(0, (.slice aL a_.length aE)), (1, (nV aA.2)), (5, (nV aD))]) (fun aD aA => [ow [.slice aL a_.length aE] aA.1]) [0] rfl ?_ ?_)
  ·repeat clear hm
   intro _ _ aD aA w hm aV aW aX _
   refine gS (gS (gR (gM rfl (gM rfl ?_))))
   have aY := rep_len (hm.ow_rep 0 rfl)
   refine gY (yV st_60 rfl) (gB rfl (gE (go _ 9 rfl (decide_eq_true (by omega)) (gct rfl (gSk (gS (gBk (gS (gR (gM rfl (gM rfl (gM rfl (gg fun aB aM aF => ?_)))))))))))))
   obtain ⟨aG, aH, aZ, he⟩ := idx_form' (hm.ow_rep 0 rfl) aF
   obtain ⟨rfl, _, rfl⟩ := sl3 he
   obtain ⟨aN, aO, aa⟩ := rk_Phi_ (hm.ow_rep 0 rfl) aF
   have hL1_1 := rep_slice_len (hm.ow_rep 0 rfl)
   refine gI st_60 aM (idx_lt2 aF hL1_1) rfl (gF fo_127_0 rfl (gf0 rfl (fun a hf => e_setElemR (x1 := ((⟨aA.2, aB.args⟩ : Phi_) : Phi_)) (j := 0) (vs := [nV aA.2]) 0 hf hm rfl aF aO rfl (fun F h ho => (fun _ => own_fst_map (α := Int) (β := (List Int)) (cs := [nV aB.to]) (cs' := [nV aA.2]) (ds := [aN]) rfl (fun _ _ => Flat.own_iff.2 rfl)) F ho) rfl sizeOf3 rfl rfl rfl (one_cons rfl one_nil) rfl) ?_))
   rintro _ w hm
   have aJ := List.getElem?_set_self (a := ((⟨aA.2, aB.args⟩ : Phi_) : Phi_)) (idx_lt aF)
   refine gE (gS (gR (gM rfl (gB rfl (gA rfl (gE (gR (gM rfl (gM rfl ?_)))))))))
   obtain ⟨_, _, aI, aP⟩ := ro_get' (hm.ow_rep 0 rfl) aJ
   obtain ⟨_, _, rfl, rfl, aK⟩ := aP
   obtain ⟨aC, rfl, -⟩ := id aK
   replace aK : GT.rep (hp _) [aC] aB.args := aK
   replace aI : CellsAt (hp _) aG (aH + (aD).toNat * 2) [nV aA.2, aC] := aI
   have hL1_2 := rep_slice_len (hm.ow_rep 0 rfl)
   refine gI st_60 aM (idx_lt2 aJ hL1_2) rfl (gF fo_127_1 rfl (gY (yl isAgg43 (aI.cell (j := 1) rfl) rfl) (gM rfl ?_)))
   replace hm : Mem w0 hz _ [ow [aC] aB.args, hole [sV aG aH a_.length aE] [aC] (fun (y : List Int) => ((aA.1.set (aD).toNat (⟨aA.2, aB.args⟩ : Phi_)) : List Phi_).set (aD).toNat (⟨aA.2, y⟩ : Phi_))] := hm.open 0 rfl (foc_elem aJ aI rfl (show FocH (α := Phi_) _ _ (⟨aA.2, aB.args⟩ : Phi_) [aC] aB.args (fun y => (⟨aA.2, y⟩ : Phi_)) from (foc_snd (α := Int) (β := (List Int)) (cs := [nV aA.2]) (ds := [aC]) (v := [aC]) (inner := aB.args) (x := aB.args) (z := aA.2) (put := fun (y : List Int) => y) rfl (foc_id [aC] aB.args))))
   obtain ⟨aQ, hle, hm1, hsub, aR⟩ := hm.take2 (L1 := [ow [aC] aB.args]) (L2 := [hole [sV aG aH a_.length aE] [aC] (fun (y : List Int) => ((aA.1.set (aD).toNat (⟨aA.2, aB.args⟩ : Phi_)) : List Phi_).set (aD).toNat (⟨aA.2, y⟩ : Phi_))]) [0] [1] (by decide) rfl rfl
   refine gCg rfl call171 (laws_markIntS_ok _ aQ aB.args aC (w64 (aA.2 + 1)) hm1 ) ?_
   rintro aS ab ac w ⟨rfl, hB⟩
   replace hm := aR _ _ hB; clear hB
   replace hm := (hm.shut 1 0 (by decide) rfl rfl).pk (L' := [ow [sV aG aH a_.length aE] ((aA.1.set (aD).toNat (⟨aA.2, aB.args⟩ : Phi_)).set (aD).toNat (⟨aA.2, aS.2⟩ : Phi_))]) [1] rfl rfl
   exact gA rfl (gE (gR (gM rfl (gP (by omega) (by omega) rfl (gA rfl (gE (gze hm [0] rfl)))))))
  repeat clear hm
  intro ae af w hm ah ai
  refine gS (gS (gR (gM rfl (gM rfl ?_))))
  have aj := rep_len (hm.ow_rep 0 rfl)
  exact gY (yV st_60 rfl) (gB rfl (gE (go _ 9 rfl (decide_eq_false (by omega)) (gcf rfl (gXt (gHh (gS (gR (gM rfl (gA rfl (gE (gRt (gr1 results169 rfl ⟨rfl, hm.pk [0] rfl rfl⟩)))))))))))))
theorem laws_markInsS_ok (w0 : World) (hz : Heap) (a_ : List Ins_) (v1 : Value) (k_ : Int) (hm0 : Mem w0 hz w0 [ow [v1] a_]) :
    ConM Tryz.prog 170 [v1, nV k_] w0 (laws_markInsS a_ k_) fun r v w' => v = (nV r.1) ∧ Mem w0 hz w' [ow [v1] r.2] := by
  unfold laws_markInsS
  refine gcon func170 rfl fun r => ?_
  have hm := hm0
  refine gS (gR (gA rfl (gE (gS (gS (gR (gA rfl (gE ?_))))))))
  obtain ⟨aV, aG, rfl, af⟩ := ro_slice (hm.ow_rep 0 rfl)
  refine gBk (gNf hm (fun aD aB => [(0, (.slice aV a_.length aG)), (1, (nV aB.2)), (5, (nV aD))]) (fun aD aB => [ow [.slice aV a_.length aG] aB.1]) [0] rfl ?_ ?_)
  ·repeat clear hm
   intro _ _ aD aB w hm ah ai aj _
   refine gS (gS (gR (gM rfl (gM rfl ?_))))
   have ak := rep_len (hm.ow_rep 0 rfl)
   refine gY (yV st_61 rfl) (gB rfl (gE (go _ 9 rfl (decide_eq_true (by omega)) (gct rfl (gSk (gS (gBk (gS (gR (gM rfl (gM rfl (gM rfl (gg fun aA aP aH => ?_)))))))))))))
   obtain ⟨aI, aJ, al, he⟩ := idx_form' (hm.ow_rep 0 rfl) aH
   obtain ⟨rfl, _, rfl⟩ := sl3 he
   obtain ⟨aW, aX, am⟩ := rk_Ins_ (hm.ow_rep 0 rfl) aH
   have hL1_1 := rep_slice_len (hm.ow_rep 0 rfl)
   refine gI st_61 aP (idx_lt2 aH hL1_1) rfl (gF fo_65_0 rfl (gf0 rfl (fun a hf => e_setElemR (x1 := ((⟨aB.2, aA.to, aA.args, aA.n_⟩ : Ins_) : Ins_)) (j := 0) (vs := [nV aB.2]) 0 hf hm rfl aH aX rfl (fun F h ho => (fun _ => own_fst_map (α := Int) (β := Int × (List Int) × Int) (cs := [nV aA.op]) (cs' := [nV aB.2]) (ds := [nV aA.to, aW, nV aA.n_]) rfl (fun _ _ => Flat.own_iff.2 rfl)) F ho) rfl sizeOf3 rfl rfl rfl (one_cons rfl one_nil) rfl) ?_))
   rintro _ w hm
   have aM := List.getElem?_set_self (a := ((⟨aB.2, aA.to, aA.args, aA.n_⟩ : Ins_) : Ins_)) (idx_lt aH)
   refine gE (gS (gR (gM rfl (gB rfl (gA rfl (gE (gS (gR (gM rfl (gM rfl (gM rfl ?_)))))))))))
   obtain ⟨_, _, aQ, aY⟩ := ro_get' (hm.ow_rep 0 rfl) aM
   obtain ⟨_, _, rfl, rfl, _, _, rfl, rfl, _, _, rfl, aR, rfl⟩ := aY
   obtain ⟨aK, rfl, -⟩ := id aR
   replace aR : GT.rep (hp _) [aK] aA.args := aR
   replace aQ : CellsAt (hp _) aI (aJ + (aD).toNat * 4) [nV aB.2, nV aA.to, aK, nV aA.n_] := aQ
   have hL1_2 := rep_slice_len (hm.ow_rep 0 rfl)
   refine gI st_61 aP (idx_lt2 aM hL1_2) rfl (gF fo_65_1 rfl (gf0 rfl (fun a hf => e_setElemR (x1 := ((⟨aB.2, w64 (aB.2 + 1), aA.args, aA.n_⟩ : Ins_) : Ins_)) (j := 1) (vs := [nV (w64 (aB.2 + 1))]) 0 hf hm rfl aM aQ rfl (fun F h ho => (fun _ => own_snd_map (α := Int) (β := Int × (List Int) × Int) (cs := [nV aB.2]) (ds := [nV aA.to, aK, nV aA.n_]) (ds' := [nV (w64 (aB.2 + 1)), aK, nV aA.n_]) rfl (fun _ => own_fst_map (α := Int) (β := (List Int) × Int) (cs := [nV aA.to]) (cs' := [nV (w64 (aB.2 + 1))]) (ds := [aK, nV aA.n_]) rfl (fun _ _ => Flat.own_iff.2 rfl))) F ho) rfl sizeOf3 rfl rfl rfl (one_cons rfl one_nil) rfl) ?_))
   rintro _ w hm
   have aS := List.getElem?_set_self (a := ((⟨aB.2, w64 (aB.2 + 1), aA.args, aA.n_⟩ : Ins_) : Ins_)) (idx_lt aM)
   refine gE (gS (gR (gM rfl (gB rfl (gA rfl (gE (gS (gR (gM rfl (gM rfl ?_))))))))))
   obtain ⟨_, _, aN, aZ⟩ := ro_get' (hm.ow_rep 0 rfl) aS
   obtain ⟨_, _, rfl, rfl, _, _, rfl, rfl, _, _, rfl, aT, rfl⟩ := aZ
   obtain ⟨aC, rfl, -⟩ := id aT
   replace aT : GT.rep (hp _) [aC] aA.args := aT
   replace aN : CellsAt (hp _) aI (aJ + (aD).toNat * 4) [nV aB.2, nV (w64 (aB.2 + 1)), aC, nV aA.n_] := aN
   have hL1_3 := rep_slice_len (hm.ow_rep 0 rfl)
   refine gI st_61 aP (idx_lt2 aS hL1_3) rfl (gF fo_65_2 rfl (gY (yl isAgg43 (aN.cell (j := 2) rfl) rfl) (gM rfl ?_)))
   replace hm : Mem w0 hz _ [ow [aC] aA.args, hole [sV aI aJ a_.length aG] [aC] (fun (y : List Int) => (((aB.1.set (aD).toNat (⟨aB.2, aA.to, aA.args, aA.n_⟩ : Ins_)).set (aD).toNat (⟨aB.2, w64 (aB.2 + 1), aA.args, aA.n_⟩ : Ins_)) : List Ins_).set (aD).toNat (⟨aB.2, w64 (aB.2 + 1), y, aA.n_⟩ : Ins_))] := hm.open 0 rfl (foc_elem aS aN rfl (show FocH (α := Ins_) _ _ (⟨aB.2, w64 (aB.2 + 1), aA.args, aA.n_⟩ : Ins_) [aC] aA.args (fun y => (⟨aB.2, w64 (aB.2 + 1), y, aA.n_⟩ : Ins_)) from (foc_snd (α := Int) (β := Int × (List Int) × Int) (cs := [nV aB.2]) (ds := [nV (w64 (aB.2 + 1)), aC, nV aA.n_]) (v := [aC]) (inner := aA.args) (x := (w64 (aB.2 + 1), aA.args, aA.n_)) (z := aB.2) (put := fun (y : List Int) => (w64 (aB.2 + 1), y, aA.n_)) rfl (foc_snd (α := Int) (β := (List Int) × Int) (cs := [nV (w64 (aB.2 + 1))]) (ds := [aC, nV aA.n_]) (v := [aC]) (inner := aA.args) (x := (aA.args, aA.n_)) (z := w64 (aB.2 + 1)) (put := fun (y : List Int) => (y, aA.n_)) rfl (foc_fst (α := List Int) (β := Int) (cs := [aC]) (ds := [nV aA.n_]) (v := [aC]) (inner := aA.args) (x := aA.args) (z := aA.n_) (put := fun (y : List Int) => y) rfl (foc_id [aC] aA.args))))))
   obtain ⟨aa, hle, hm1, hsub, ab⟩ := hm.take2 (L1 := [ow [aC] aA.args]) (L2 := [hole [sV aI aJ a_.length aG] [aC] (fun (y : List Int) => (((aB.1.set (aD).toNat (⟨aB.2, aA.to, aA.args, aA.n_⟩ : Ins_)).set (aD).toNat (⟨aB.2, w64 (aB.2 + 1), aA.args, aA.n_⟩ : Ins_)) : List Ins_).set (aD).toNat (⟨aB.2, w64 (aB.2 + 1), y, aA.n_⟩ : Ins_))]) [0] [1] (by decide) rfl rfl
   refine gCg rfl call171 (laws_markIntS_ok _ aa aA.args aC (w64 ((w64 (aB.2 + 1)) + 1)) hm1 ) ?_
   rintro aF an ao w ⟨rfl, hB⟩
   replace hm := ab _ _ hB; clear hB
   replace hm := (hm.shut 1 0 (by decide) rfl rfl).pk (L' := [ow [sV aI aJ a_.length aG] (((aB.1.set (aD).toNat (⟨aB.2, aA.to, aA.args, aA.n_⟩ : Ins_)).set (aD).toNat (⟨aB.2, w64 (aB.2 + 1), aA.args, aA.n_⟩ : Ins_)).set (aD).toNat (⟨aB.2, w64 (aB.2 + 1), aF.2, aA.n_⟩ : Ins_))]) [1] rfl rfl
   refine gA rfl (gE (gS (gR (gM rfl (gM rfl (gM rfl (gg fun aE ac aO => ?_)))))))
   obtain ⟨aL, ae, ap⟩ := rk_Ins_ (hm.ow_rep 0 rfl) aO
   have hL1_4 := rep_slice_len (hm.ow_rep 0 rfl)
   refine gI st_61 ac (idx_lt2 aO hL1_4) rfl (gF fo_65_3 rfl (gf0 rfl (fun a hf => e_setElemR (x1 := ((⟨aE.op, aE.to, aE.args, aF.1⟩ : Ins_) : Ins_)) (j := 3) (vs := [nV aF.1]) 0 hf hm rfl aO ae rfl (fun F h ho => (fun _ => own_snd_map (α := Int) (β := Int × (List Int) × Int) (cs := [nV aE.op]) (ds := [nV aE.to, aL, nV aE.n_]) (ds' := [nV aE.to, aL, nV aF.1]) rfl (fun _ => own_snd_map (α := Int) (β := (List Int) × Int) (cs := [nV aE.to]) (ds := [aL, nV aE.n_]) (ds' := [aL, nV aF.1]) rfl (fun _ => own_snd_map (α := List Int) (β := Int) (cs := [aL]) (ds := [nV aE.n_]) (ds' := [nV aF.1]) rfl (fun _ _ => Flat.own_iff.2 rfl)))) F ho) rfl sizeOf3 rfl rfl rfl (one_cons rfl one_nil) rfl) ?_))
   rintro _ w hm
   have aq := List.getElem?_set_self (a := ((⟨aE.op, aE.to, aE.args, aF.1⟩ : Ins_) : Ins_)) (idx_lt aO)
   exact gE (gR (gM rfl (gB rfl (gA rfl (gE (gR (gM rfl (gP (by omega) (by omega) rfl (gA rfl (gE (gze hm [0] rfl)))))))))))
  repeat clear hm
  intro ar au w hm av aw
  refine gS (gS (gR (gM rfl (gM rfl ?_))))
  have ax := rep_len (hm.ow_rep 0 rfl)
  exact gY (yV st_61 rfl) (gB rfl (gE (go _ 9 rfl (decide_eq_false (by omega)) (gcf rfl (gXt (gHh (gS (gR (gM rfl (gA rfl (gE (gRt (gr1 results170 rfl ⟨rfl, hm.pk [0] rfl rfl⟩)))))))))))))
theorem laws_markBlockS_ok (w0 : World) (hz : Heap) (a_ : List Block_) (v1 : Value) (k_ : Int) (hm0 : Mem w0 hz w0 [ow [v1] a_]) :
    ConM Tryz.prog 104 [v1, nV k_] w0 (laws_markBlockS a_ k_) fun r v w' => v = (nV r.1) ∧ Mem w0 hz w' [ow [v1] r.2] := by
  unfold laws_markBlockS
  refine gcon func104 rfl fun r => ?_
  have hm := hm0
  refine gS (gR (gA rfl (gE (gS (gS (gR (gA rfl (gE ?_))))))))
  obtain ⟨al, aH, rfl, bH⟩ := ro_slice (hm.ow_rep 0 rfl)
  refine gBk (gNf hm (fun aE aG => [(0, (.slice al a_.length aH)), (1, (nV aG.2)), (5, (nV aE))]) (fun aE aG => [ow [.slice al a_.length aH] aG.1]) [0] rfl ?_ ?_)
  ·repeat clear hm
   intro _ _ aE aG w hm bJ bK bL _
   refine gS (gS (gR (gM rfl (gM rfl ?_))))
   have bM := rep_len (hm.ow_rep 0 rfl)
   refine gY (yV st_47 rfl) (gB rfl (gE (go _ 9 rfl (decide_eq_true (by omega)) (gct rfl (gSk (gS (gBk (gS (gR (gM rfl (gM rfl (gg fun aC ap aQ => ?_))))))))))))
   obtain ⟨aI, aJ, bN, he⟩ := idx_form' (hm.ow_rep 0 rfl) aQ
   obtain ⟨rfl, _, rfl⟩ := sl3 he
   obtain ⟨aL, aq, ar, am, bO, bP, bQ⟩ := rk_Block_ (hm.ow_rep 0 rfl) aQ
   have hL1_1 := rep_slice_len (hm.ow_rep 0 rfl)
   refine gI st_47 ap (idx_lt2 aQ hL1_1) rfl (gF fo_63_0 rfl (gY (yl isAgg60 (am.cell (j := 0) rfl) rfl) (gM rfl ?_)))
   replace hm : Mem w0 hz _ [ow [aL] aC.phis, hole [sV aI aJ a_.length aH] [aL] (fun (y : List Phi_) => (aG.1 : List Block_).set (aE).toNat (⟨y, aC.ins, aC.jump, aC.on, aC.next_⟩ : Block_))] := hm.open 0 rfl (foc_elem aQ am rfl (show FocH (α := Block_) _ _ aC [aL] aC.phis (fun y => (⟨y, aC.ins, aC.jump, aC.on, aC.next_⟩ : Block_)) from (foc_fst (α := List Phi_) (β := (List Ins_) × Int × Int × (List Int)) (cs := [aL]) (ds := [aq, nV aC.jump, nV aC.on, ar]) (v := [aL]) (inner := aC.phis) (x := aC.phis) (z := (aC.ins, aC.jump, aC.on, aC.next_)) (put := fun (y : List Phi_) => y) rfl (foc_id [aL] aC.phis))))
   obtain ⟨au, hle, hm1, hsub, av⟩ := hm.take2 (L1 := [ow [aL] aC.phis]) (L2 := [hole [sV aI aJ a_.length aH] [aL] (fun (y : List Phi_) => (aG.1 : List Block_).set (aE).toNat (⟨y, aC.ins, aC.jump, aC.on, aC.next_⟩ : Block_))]) [0] [1] (by decide) rfl rfl
   refine gCg rfl call169 (laws_markPhiS_ok _ au aC.phis aL aG.2 hm1 ) ?_
   rintro aN bR bS w ⟨rfl, hB⟩
   replace hm := av _ _ hB; clear hB
   replace hm := (hm.shut 1 0 (by decide) rfl rfl).pk (L' := [ow [sV aI aJ a_.length aH] (aG.1.set (aE).toNat (⟨aN.2, aC.ins, aC.jump, aC.on, aC.next_⟩ : Block_))]) [1] rfl rfl
   refine gA rfl (gE (gS (gR (gM rfl (gM rfl (gg fun aD aw aW => ?_))))))
   obtain ⟨ax, aK, an, ao, bT, bU, bV⟩ := rk_Block_ (hm.ow_rep 0 rfl) aW
   have hL1_2 := rep_slice_len (hm.ow_rep 0 rfl)
   refine gI st_47 aw (idx_lt2 aW hL1_2) rfl (gF fo_63_1 rfl (gY (yl isAgg61 (ao.cell (j := 1) rfl) rfl) (gM rfl ?_)))
   replace hm : Mem w0 hz _ [ow [aK] aD.ins, hole [sV aI aJ a_.length aH] [aK] (fun (y : List Ins_) => ((aG.1.set (aE).toNat (⟨aN.2, aC.ins, aC.jump, aC.on, aC.next_⟩ : Block_)) : List Block_).set (aE).toNat (⟨aD.phis, y, aD.jump, aD.on, aD.next_⟩ : Block_))] := hm.open 0 rfl (foc_elem aW ao rfl (show FocH (α := Block_) _ _ aD [aK] aD.ins (fun y => (⟨aD.phis, y, aD.jump, aD.on, aD.next_⟩ : Block_)) from (foc_snd (α := List Phi_) (β := (List Ins_) × Int × Int × (List Int)) (cs := [ax]) (ds := [aK, nV aD.jump, nV aD.on, an]) (v := [aK]) (inner := aD.ins) (x := (aD.ins, aD.jump, aD.on, aD.next_)) (z := aD.phis) (put := fun (y : List Ins_) => (y, aD.jump, aD.on, aD.next_)) rfl (foc_fst (α := List Ins_) (β := Int × Int × (List Int)) (cs := [aK]) (ds := [nV aD.jump, nV aD.on, an]) (v := [aK]) (inner := aD.ins) (x := aD.ins) (z := (aD.jump, aD.on, aD.next_)) (put := fun (y : List Ins_) => y) rfl (foc_id [aK] aD.ins)))))
   obtain ⟨ay, hle, hm1, hsub, az⟩ := hm.take2 (L1 := [ow [aK] aD.ins]) (L2 := [hole [sV aI aJ a_.length aH] [aK] (fun (y : List Ins_) => ((aG.1.set (aE).toNat (⟨aN.2, aC.ins, aC.jump, aC.on, aC.next_⟩ : Block_)) : List Block_).set (aE).toNat (⟨aD.phis, y, aD.jump, aD.on, aD.next_⟩ : Block_))]) [0] [1] (by decide) rfl rfl
   refine gCg rfl call170 (laws_markInsS_ok _ ay aD.ins aK aN.1 hm1 ) ?_
   rintro aB bW bX w ⟨rfl, hB⟩
   replace hm := az _ _ hB; clear hB
   replace hm := (hm.shut 1 0 (by decide) rfl rfl).pk (L' := [ow [sV aI aJ a_.length aH] ((aG.1.set (aE).toNat (⟨aN.2, aC.ins, aC.jump, aC.on, aC.next_⟩ : Block_)).set (aE).toNat (⟨aD.phis, aB.2, aD.jump, aD.on, aD.next_⟩ : Block_))]) [1] rfl rfl
   refine gA rfl (gE (gS (gR (gM rfl (gM rfl (gM rfl (gg fun aA aX aR => ?_)))))))
   obtain ⟨bA, aY, aO, bB, bY, bZ, b6⟩ := rk_Block_ (hm.ow_rep 0 rfl) aR
   have hL1_3 := rep_slice_len (hm.ow_rep 0 rfl)
   refine gI st_47 aX (idx_lt2 aR hL1_3) rfl (gF fo_63_2 rfl (gf0 rfl (fun a hf => e_setElemR (x1 := ((⟨aA.phis, aA.ins, aB.1, aA.on, aA.next_⟩ : Block_) : Block_)) (j := 2) (vs := [nV aB.1]) 0 hf hm rfl aR bB rfl (fun F h ho => (fun _ => own_snd_map (α := List Phi_) (β := (List Ins_) × Int × Int × (List Int)) (cs := [bA]) (ds := [aY, nV aA.jump, nV aA.on, aO]) (ds' := [aY, nV aB.1, nV aA.on, aO]) rfl (fun _ => own_snd_map (α := List Ins_) (β := Int × Int × (List Int)) (cs := [aY]) (ds := [nV aA.jump, nV aA.on, aO]) (ds' := [nV aB.1, nV aA.on, aO]) rfl (fun _ => own_fst_map (α := Int) (β := Int × (List Int)) (cs := [nV aA.jump]) (cs' := [nV aB.1]) (ds := [nV aA.on, aO]) rfl (fun _ _ => Flat.own_iff.2 rfl)))) F ho) rfl sizeOf3 rfl rfl rfl (one_cons rfl one_nil) rfl) ?_))
   rintro _ w hm
   have aS := List.getElem?_set_self (a := ((⟨aA.phis, aA.ins, aB.1, aA.on, aA.next_⟩ : Block_) : Block_)) (idx_lt aR)
   refine gE (gS (gR (gM rfl (gB rfl (gA rfl (gE (gS (gR (gM rfl (gM rfl (gM rfl ?_)))))))))))
   obtain ⟨_, _, aZ, bC⟩ := ro_get' (hm.ow_rep 0 rfl) aS
   obtain ⟨_, _, rfl, aa, _, _, rfl, ab, _, _, rfl, rfl, _, _, rfl, rfl, ac⟩ := bC
   obtain ⟨ae, rfl, -⟩ := id aa
   replace aa : GT.rep (hp _) [ae] aA.phis := aa
   obtain ⟨aP, rfl, -⟩ := id ab
   replace ab : GT.rep (hp _) [aP] aA.ins := ab
   obtain ⟨aM, rfl, -⟩ := id ac
   replace ac : GT.rep (hp _) [aM] aA.next_ := ac
   replace aZ : CellsAt (hp _) aI (aJ + (aE).toNat * 5) [ae, aP, nV aB.1, nV aA.on, aM] := aZ
   have hL1_4 := rep_slice_len (hm.ow_rep 0 rfl)
   refine gI st_47 aX (idx_lt2 aS hL1_4) rfl (gF fo_63_3 rfl (gf0 rfl (fun a hf => e_setElemR (x1 := ((⟨aA.phis, aA.ins, aB.1, w64 (aB.1 + 1), aA.next_⟩ : Block_) : Block_)) (j := 3) (vs := [nV (w64 (aB.1 + 1))]) 0 hf hm rfl aS aZ rfl (fun F h ho => (fun _ => own_snd_map (α := List Phi_) (β := (List Ins_) × Int × Int × (List Int)) (cs := [ae]) (ds := [aP, nV aB.1, nV aA.on, aM]) (ds' := [aP, nV aB.1, nV (w64 (aB.1 + 1)), aM]) rfl (fun _ => own_snd_map (α := List Ins_) (β := Int × Int × (List Int)) (cs := [aP]) (ds := [nV aB.1, nV aA.on, aM]) (ds' := [nV aB.1, nV (w64 (aB.1 + 1)), aM]) rfl (fun _ => own_snd_map (α := Int) (β := Int × (List Int)) (cs := [nV aB.1]) (ds := [nV aA.on, aM]) (ds' := [nV (w64 (aB.1 + 1)), aM]) rfl (fun _ => own_fst_map (α := Int) (β := (List Int)) (cs := [nV aA.on]) (cs' := [nV (w64 (aB.1 + 1))]) (ds := [aM]) rfl (fun _ _ => Flat.own_iff.2 rfl))))) F ho) rfl sizeOf3 rfl rfl rfl (one_cons rfl one_nil) rfl) ?_))
   rintro _ w hm
   have af := List.getElem?_set_self (a := ((⟨aA.phis, aA.ins, aB.1, w64 (aB.1 + 1), aA.next_⟩ : Block_) : Block_)) (idx_lt aS)
   refine gE (gS (gR (gM rfl (gB rfl (gA rfl (gE (gR (gM rfl (gM rfl ?_)))))))))
   obtain ⟨_, _, aT, bD⟩ := ro_get' (hm.ow_rep 0 rfl) af
   obtain ⟨_, _, rfl, ah, _, _, rfl, ai, _, _, rfl, rfl, _, _, rfl, rfl, aj⟩ := bD
   obtain ⟨ak, rfl, -⟩ := id ah
   replace ah : GT.rep (hp _) [ak] aA.phis := ah
   obtain ⟨aV, rfl, -⟩ := id ai
   replace ai : GT.rep (hp _) [aV] aA.ins := ai
   obtain ⟨aF, rfl, -⟩ := id aj
   replace aj : GT.rep (hp _) [aF] aA.next_ := aj
   replace aT : CellsAt (hp _) aI (aJ + (aE).toNat * 5) [ak, aV, nV aB.1, nV (w64 (aB.1 + 1)), aF] := aT
   have hL1_5 := rep_slice_len (hm.ow_rep 0 rfl)
   refine gI st_47 aX (idx_lt2 af hL1_5) rfl (gF fo_63_4 rfl (gY (yl isAgg43 (aT.cell (j := 4) rfl) rfl) (gM rfl ?_)))
   replace hm : Mem w0 hz _ [ow [aF] aA.next_, hole [sV aI aJ a_.length aH] [aF] (fun (y : List Int) => (((((aG.1.set (aE).toNat (⟨aN.2, aC.ins, aC.jump, aC.on, aC.next_⟩ : Block_)).set (aE).toNat (⟨aD.phis, aB.2, aD.jump, aD.on, aD.next_⟩ : Block_)).set (aE).toNat (⟨aA.phis, aA.ins, aB.1, aA.on, aA.next_⟩ : Block_)).set (aE).toNat (⟨aA.phis, aA.ins, aB.1, w64 (aB.1 + 1), aA.next_⟩ : Block_)) : List Block_).set (aE).toNat (⟨aA.phis, aA.ins, aB.1, w64 (aB.1 + 1), y⟩ : Block_))] := hm.open 0 rfl (foc_elem af aT rfl (show FocH (α := Block_) _ _ (⟨aA.phis, aA.ins, aB.1, w64 (aB.1 + 1), aA.next_⟩ : Block_) [aF] aA.next_ (fun y => (⟨aA.phis, aA.ins, aB.1, w64 (aB.1 + 1), y⟩ : Block_)) from (foc_snd (α := List Phi_) (β := (List Ins_) × Int × Int × (List Int)) (cs := [ak]) (ds := [aV, nV aB.1, nV (w64 (aB.1 + 1)), aF]) (v := [aF]) (inner := aA.next_) (x := (aA.ins, aB.1, w64 (aB.1 + 1), aA.next_)) (z := aA.phis) (put := fun (y : List Int) => (aA.ins, aB.1, w64 (aB.1 + 1), y)) rfl (foc_snd (α := List Ins_) (β := Int × Int × (List Int)) (cs := [aV]) (ds := [nV aB.1, nV (w64 (aB.1 + 1)), aF]) (v := [aF]) (inner := aA.next_) (x := (aB.1, w64 (aB.1 + 1), aA.next_)) (z := aA.ins) (put := fun (y : List Int) => (aB.1, w64 (aB.1 + 1), y)) rfl (foc_snd (α := Int) (β := Int × (List Int)) (cs := [nV aB.1]) (ds := [nV (w64 (aB.1 + 1)), aF]) (v := [aF]) (inner := aA.next_) (x := (w64 (aB.1 + 1), aA.next_)) (z := aB.1) (put := fun (y : List Int) => (w64 (aB.1 + 1), y)) rfl (foc_snd (α := Int) (β := (List Int)) (cs := [nV (w64 (aB.1 + 1))]) (ds := [aF]) (v := [aF]) (inner := aA.next_) (x := aA.next_) (z := w64 (aB.1 + 1)) (put := fun (y : List Int) => y) rfl (foc_id [aF] aA.next_)))))))
   obtain ⟨bE, hle, hm1, hsub, bF⟩ := hm.take2 (L1 := [ow [aF] aA.next_]) (L2 := [hole [sV aI aJ a_.length aH] [aF] (fun (y : List Int) => (((((aG.1.set (aE).toNat (⟨aN.2, aC.ins, aC.jump, aC.on, aC.next_⟩ : Block_)).set (aE).toNat (⟨aD.phis, aB.2, aD.jump, aD.on, aD.next_⟩ : Block_)).set (aE).toNat (⟨aA.phis, aA.ins, aB.1, aA.on, aA.next_⟩ : Block_)).set (aE).toNat (⟨aA.phis, aA.ins, aB.1, w64 (aB.1 + 1), aA.next_⟩ : Block_)) : List Block_).set (aE).toNat (⟨aA.phis, aA.ins, aB.1, w64 (aB.1 + 1), y⟩ : Block_))]) [0] [1] (by decide) rfl rfl
   refine gCg rfl call171 (laws_markIntS_ok _ bE aA.next_ aF (w64 ((w64 (aB.1 + 1)) + 1)) hm1 ) ?_
   rintro bG b7 b8 w ⟨rfl, hB⟩
   replace hm := bF _ _ hB; clear hB
   replace hm := (hm.shut 1 0 (by decide) rfl rfl).pk (L' := [ow [sV aI aJ a_.length aH] (((((aG.1.set (aE).toNat (⟨aN.2, aC.ins, aC.jump, aC.on, aC.next_⟩ : Block_)).set (aE).toNat (⟨aD.phis, aB.2, aD.jump, aD.on, aD.next_⟩ : Block_)).set (aE).toNat (⟨aA.phis, aA.ins, aB.1, aA.on, aA.next_⟩ : Block_)).set (aE).toNat (⟨aA.phis, aA.ins, aB.1, w64 (aB.1 + 1), aA.next_⟩ : Block_)).set (aE).toNat (⟨aA.phis, aA.ins, aB.1, w64 (aB.1 + 1), bG.2⟩ : Block_))]) [1] rfl rfl
   exact gA rfl (gE (gR (gM rfl (gP (by omega) (by omega) rfl (gA rfl (gE (gze hm [0] rfl)))))))
  repeat clear hm
  intro b9 ba w hm bc bd
  refine gS (gS (gR (gM rfl (gM rfl ?_))))
  have be := rep_len (hm.ow_rep 0 rfl)
  exact gY (yV st_47 rfl) (gB rfl (gE (go _ 9 rfl (decide_eq_false (by omega)) (gcf rfl (gXt (gHh (gS (gR (gM rfl (gA rfl (gE (gRt (gr1 results104 rfl ⟨rfl, hm.pk [0] rfl rfl⟩)))))))))))))
theorem laws_markCodeS_ok (w0 : World) (hz : Heap) (a_ : List Code_) (v1 : Value) (k_ : Int) (hm0 : Mem w0 hz w0 [ow [v1] a_]) :
    ConM Tryz.prog 53 [v1, nV k_] w0 (laws_markCodeS a_ k_) fun r v w' => v = (nV r.1) ∧ Mem w0 hz w' [ow [v1] r.2] := by
  unfold laws_markCodeS
  refine gcon func53 rfl fun r => ?_
  have hm := hm0
  refine gS (gR (gA rfl (gE (gS (gS (gR (gA rfl (gE ?_))))))))
  obtain ⟨aQ, aE, rfl, aZ⟩ := ro_slice (hm.ow_rep 0 rfl)
  refine gBk (gNf hm (fun aC aA => [(0, (.slice aQ a_.length aE)), (1, (nV aA.2)), (5, (nV aC))]) (fun aC aA => [ow [.slice aQ a_.length aE] aA.1]) [0] rfl ?_ ?_)
  ·repeat clear hm
   intro _ _ aC aA w hm aa ab ac _
   refine gS (gS (gR (gM rfl (gM rfl ?_))))
   have ae := rep_len (hm.ow_rep 0 rfl)
   refine gY (yV st_26 rfl) (gB rfl (gE (go _ 9 rfl (decide_eq_true (by omega)) (gct rfl (gSk (gS (gBk (gS (gR (gM rfl (gM rfl (gM rfl (gg fun aB aL aF => ?_)))))))))))))
   obtain ⟨aG, aH, af, he⟩ := idx_form' (hm.ow_rep 0 rfl) aF
   obtain ⟨rfl, _, rfl⟩ := sl3 he
   obtain ⟨aR, aS, ah⟩ := rk_Code_ (hm.ow_rep 0 rfl) aF
   have hL1_1 := rep_slice_len (hm.ow_rep 0 rfl)
   refine gI st_26 aL (idx_lt2 aF hL1_1) rfl (gF fo_49_0 rfl (gf0 rfl (fun a hf => e_setElemR (x1 := ((⟨aA.2, aB.regs, aB.blocks⟩ : Code_) : Code_)) (j := 0) (vs := [nV aA.2]) 0 hf hm rfl aF aS rfl (fun F h ho => (fun _ => own_fst_map (α := Int) (β := Int × (List Block_)) (cs := [nV aB.params]) (cs' := [nV aA.2]) (ds := [nV aB.regs, aR]) rfl (fun _ _ => Flat.own_iff.2 rfl)) F ho) rfl sizeOf3 rfl rfl rfl (one_cons rfl one_nil) rfl) ?_))
   rintro _ w hm
   have aJ := List.getElem?_set_self (a := ((⟨aA.2, aB.regs, aB.blocks⟩ : Code_) : Code_)) (idx_lt aF)
   refine gE (gS (gR (gM rfl (gB rfl (gA rfl (gE (gS (gR (gM rfl (gM rfl (gM rfl ?_)))))))))))
   obtain ⟨_, _, aM, aT⟩ := ro_get' (hm.ow_rep 0 rfl) aJ
   obtain ⟨_, _, rfl, rfl, _, _, rfl, rfl, aN⟩ := aT
   obtain ⟨aI, rfl, -⟩ := id aN
   replace aN : GT.rep (hp _) [aI] aB.blocks := aN
   replace aM : CellsAt (hp _) aG (aH + (aC).toNat * 3) [nV aA.2, nV aB.regs, aI] := aM
   have hL1_2 := rep_slice_len (hm.ow_rep 0 rfl)
   refine gI st_26 aL (idx_lt2 aJ hL1_2) rfl (gF fo_49_1 rfl (gf0 rfl (fun a hf => e_setElemR (x1 := ((⟨aA.2, w64 (aA.2 + 1), aB.blocks⟩ : Code_) : Code_)) (j := 1) (vs := [nV (w64 (aA.2 + 1))]) 0 hf hm rfl aJ aM rfl (fun F h ho => (fun _ => own_snd_map (α := Int) (β := Int × (List Block_)) (cs := [nV aA.2]) (ds := [nV aB.regs, aI]) (ds' := [nV (w64 (aA.2 + 1)), aI]) rfl (fun _ => own_fst_map (α := Int) (β := (List Block_)) (cs := [nV aB.regs]) (cs' := [nV (w64 (aA.2 + 1))]) (ds := [aI]) rfl (fun _ _ => Flat.own_iff.2 rfl))) F ho) rfl sizeOf3 rfl rfl rfl (one_cons rfl one_nil) rfl) ?_))
   rintro _ w hm
   have aO := List.getElem?_set_self (a := ((⟨aA.2, w64 (aA.2 + 1), aB.blocks⟩ : Code_) : Code_)) (idx_lt aJ)
   refine gE (gS (gR (gM rfl (gB rfl (gA rfl (gE (gR (gM rfl (gM rfl ?_)))))))))
   obtain ⟨_, _, aK, aV⟩ := ro_get' (hm.ow_rep 0 rfl) aO
   obtain ⟨_, _, rfl, rfl, _, _, rfl, rfl, aP⟩ := aV
   obtain ⟨aD, rfl, -⟩ := id aP
   replace aP : GT.rep (hp _) [aD] aB.blocks := aP
   replace aK : CellsAt (hp _) aG (aH + (aC).toNat * 3) [nV aA.2, nV (w64 (aA.2 + 1)), aD] := aK
   have hL1_3 := rep_slice_len (hm.ow_rep 0 rfl)
   refine gI st_26 aL (idx_lt2 aO hL1_3) rfl (gF fo_49_2 rfl (gY (yl isAgg47 (aK.cell (j := 2) rfl) rfl) (gM rfl ?_)))
   replace hm : Mem w0 hz _ [ow [aD] aB.blocks, hole [sV aG aH a_.length aE] [aD] (fun (y : List Block_) => (((aA.1.set (aC).toNat (⟨aA.2, aB.regs, aB.blocks⟩ : Code_)).set (aC).toNat (⟨aA.2, w64 (aA.2 + 1), aB.blocks⟩ : Code_)) : List Code_).set (aC).toNat (⟨aA.2, w64 (aA.2 + 1), y⟩ : Code_))] := hm.open 0 rfl (foc_elem aO aK rfl (show FocH (α := Code_) _ _ (⟨aA.2, w64 (aA.2 + 1), aB.blocks⟩ : Code_) [aD] aB.blocks (fun y => (⟨aA.2, w64 (aA.2 + 1), y⟩ : Code_)) from (foc_snd (α := Int) (β := Int × (List Block_)) (cs := [nV aA.2]) (ds := [nV (w64 (aA.2 + 1)), aD]) (v := [aD]) (inner := aB.blocks) (x := (w64 (aA.2 + 1), aB.blocks)) (z := aA.2) (put := fun (y : List Block_) => (w64 (aA.2 + 1), y)) rfl (foc_snd (α := Int) (β := (List Block_)) (cs := [nV (w64 (aA.2 + 1))]) (ds := [aD]) (v := [aD]) (inner := aB.blocks) (x := aB.blocks) (z := w64 (aA.2 + 1)) (put := fun (y : List Block_) => y) rfl (foc_id [aD] aB.blocks)))))
   obtain ⟨aW, hle, hm1, hsub, aX⟩ := hm.take2 (L1 := [ow [aD] aB.blocks]) (L2 := [hole [sV aG aH a_.length aE] [aD] (fun (y : List Block_) => (((aA.1.set (aC).toNat (⟨aA.2, aB.regs, aB.blocks⟩ : Code_)).set (aC).toNat (⟨aA.2, w64 (aA.2 + 1), aB.blocks⟩ : Code_)) : List Code_).set (aC).toNat (⟨aA.2, w64 (aA.2 + 1), y⟩ : Code_))]) [0] [1] (by decide) rfl rfl
   refine gCg rfl call104 (laws_markBlockS_ok _ aW aB.blocks aD (w64 ((w64 (aA.2 + 1)) + 1)) hm1 ) ?_
   rintro aY ai aj w ⟨rfl, hB⟩
   replace hm := aX _ _ hB; clear hB
   replace hm := (hm.shut 1 0 (by decide) rfl rfl).pk (L' := [ow [sV aG aH a_.length aE] (((aA.1.set (aC).toNat (⟨aA.2, aB.regs, aB.blocks⟩ : Code_)).set (aC).toNat (⟨aA.2, w64 (aA.2 + 1), aB.blocks⟩ : Code_)).set (aC).toNat (⟨aA.2, w64 (aA.2 + 1), aY.2⟩ : Code_))]) [1] rfl rfl
   exact gA rfl (gE (gR (gM rfl (gP (by omega) (by omega) rfl (gA rfl (gE (gze hm [0] rfl)))))))
  repeat clear hm
  intro ak al w hm am an
  refine gS (gS (gR (gM rfl (gM rfl ?_))))
  have ao := rep_len (hm.ow_rep 0 rfl)
  exact gY (yV st_26 rfl) (gB rfl (gE (go _ 9 rfl (decide_eq_false (by omega)) (gcf rfl (gXt (gHh (gS (gR (gM rfl (gA rfl (gE (gRt (gr1 results53 rfl ⟨rfl, hm.pk [0] rfl rfl⟩)))))))))))))
theorem laws_markUnit_ok (w0 : World) (hz : Heap) (a_ : Unit_) (v1 : Value) (k_ : Int) (hm0 : Mem w0 hz w0 [ow [v1] a_.codes]) :
    ConM Tryz.prog 18 [(.agg #[v1]), nV k_] w0 (laws_markUnit a_ k_) fun r v w' => v = (nV r.1) ∧ Mem w0 hz w' [ow [v1] r.2] := by
  unfold laws_markUnit
  refine gcon func18 rfl fun r => ?_
  have hm := hm0
  refine gS (gR (gBx hm rfl fun aA w hm => gA rfl (gE (gS (gR (gF fo_28_0 rfl (gL hm 0 isAgg26 rfl (gM rfl ?_))))))))
  obtain ⟨aB, hle, hm1, hsub, aC⟩ := hm.take2 (L1 := [ow [v1] a_.codes]) (L2 := [blk aA [v1] 28]) [1] [0] (by decide) rfl rfl
  refine gCg rfl call53 (laws_markCodeS_ok _ aB a_.codes v1 k_ hm1 ) ?_
  rintro aD aE aF w ⟨rfl, hB⟩
  replace hm := aC _ _ hB; clear hB
  exact gA rfl (gE (gS (gR (gM rfl (gA rfl (gE (gRt (gr1 results18 rfl ⟨rfl, hm.pk [0] rfl rfl⟩))))))))
theorem laws_heldIntS_ok (w0 : World) (a_ : List Int) (v1 : Value) (h1 : GT.rep (hp w0) [v1] a_) (k_ : Int) :
    ConM Tryz.prog 174 [v1, nV k_] w0 (laws_heldIntS a_ k_) fun r v w' => v = (nV r) ∧ Below w0.heap.size w0 w' := by
  unfold laws_heldIntS
  refine gcon func174 rfl fun r => ?_
  have hm := Mem.start w0
  refine gS (gR (gA rfl (gE (gS (gS (gR (gA rfl (gE (gBk (gNf hm (fun aA aB => [(0, v1), (1, (nV aB)), (5, (nV aA))]) (fun aA aB => []) [] rfl ?_ ?_))))))))))
  ·repeat clear hm
   intro aI aD aA aB w hm aJ aK aL aE
   refine gS (gS (gR (gM rfl (gM rfl ?_))))
   obtain ⟨aM, aN, rfl, aO⟩ := ro_slice h1
   refine gY (yV st_43 rfl) (gB rfl (gE (go _ 9 rfl (decide_eq_true (by omega)) (gct rfl (gSk (gS (gBk (gS (gS (gR (gM rfl (gM rfl (gg fun aF aG aC => ?_)))))))))))))
   obtain ⟨aP, aQ, aR, he⟩ := idx_form h1 aC
   obtain ⟨rfl, _, rfl⟩ := sl3 he
   refine gI st_43 aG (idx_lt aC) rfl (gY (yl isAgg3 ((flat_cells (cs := [nV aF]) (hm.now h1) aC rfl).cell (j := 0) rfl) rfl) (gM rfl (gB rfl (gE (gsd 17 rfl (fun aH => ?_) fun aH => ?_)))))
   ·exact gct rfl (gS (gR (gA rfl (gE (gRt (gLr aE aD (gr1 results174 rfl ⟨rfl, hm.below⟩)))))))
   exact gcf rfl (gSk (gR (gM rfl (gB rfl (gA rfl (gE (gR (gM rfl (gP (by omega) (by omega) rfl (gA rfl (gE (gze hm [] rfl))))))))))))
  repeat clear hm
  intro aS aT w hm aV aW
  refine gS (gS (gR (gM rfl (gM rfl ?_))))
  obtain ⟨aX, aY, rfl, aZ⟩ := ro_slice h1
  exact gY (yV st_43 rfl) (gB rfl (gE (go _ 9 rfl (decide_eq_false (by omega)) (gcf rfl (gXt (gHh (gS (gR (gM rfl (gA rfl (gE (gRt (gr1 results174 rfl ⟨rfl, hm.below⟩)))))))))))))
theorem laws_heldPhiS_ok (w0 : World) (a_ : List Phi_) (v1 : Value) (h1 : GT.rep (hp w0) [v1] a_) (k_ : Int) :
    ConM Tryz.prog 172 [v1, nV k_] w0 (laws_heldPhiS a_ k_) fun r v w' => v = (nV r) ∧ Below w0.heap.size w0 w' := by
  unfold laws_heldPhiS
  refine gcon func172 rfl fun r => ?_
  have hm := Mem.start w0
  refine gS (gR (gA rfl (gE (gS (gS (gR (gA rfl (gE (gBk (gNf hm (fun aC aA => [(0, v1), (1, (nV aA)), (5, (nV aC))]) (fun aC aA => []) [] rfl ?_ ?_))))))))))
  ·repeat clear hm
   intro aM aD aC aA w hm aN aO aP aE
   refine gS (gS (gR (gM rfl (gM rfl ?_))))
   obtain ⟨aQ, aR, rfl, aS⟩ := ro_slice h1
   refine gY (yV st_60 rfl) (gB rfl (gE (go _ 9 rfl (decide_eq_true (by omega)) (gct rfl (gSk (gS (gBk (gS (gS (gR (gM rfl (gM rfl (gg fun aH aF aB => ?_)))))))))))))
   obtain ⟨aT, aV, aW, he⟩ := idx_form' h1 aB
   obtain ⟨rfl, _, rfl⟩ := sl3 he
   obtain ⟨aI, aG, aJ⟩ := rk_Phi_ h1 aB
   refine gI st_60 aF (idx_lt aB) rfl (gF fo_127_0 rfl (gY (yl isAgg3 ((aG.mono hm.lez).cell (j := 0) rfl) rfl) (gM rfl (gB rfl (gE (gsd 18 rfl (fun aK => ?_) fun aK => ?_))))))
   ·exact gct rfl (gS (gR (gA rfl (gE (gRt (gLr aE aD (gr1 results172 rfl ⟨rfl, hm.below⟩)))))))
   refine gcf rfl (gSk (gS (gR (gM rfl (gB rfl (gA rfl (gE (gS (gR (gM rfl (gM rfl (gI st_60 aF (idx_lt aB) rfl (gF fo_127_1 rfl (gY (yl isAgg43 ((aG.mono hm.lez).cell (j := 1) rfl) rfl) (gM rfl (gC hm rfl call174 (laws_heldIntS_ok _ aH.args aI (hm.now aJ) (w64 (aA + 1))) fun aX aY w hm => gA rfl (gE (gS (gR (gM rfl (gB rfl (gE (gsd 29 rfl (fun aL => ?_) fun aL => ?_)))))))))))))))))))))))
   ·exact gct rfl (gS (gR (gA rfl (gE (gRt (gLr aE aD (gr1 results172 rfl ⟨rfl, hm.below⟩)))))))
   exact gcf rfl (gSk (gR (gM rfl (gP (by omega) (by omega) rfl (gA rfl (gE (gze hm [] rfl)))))))
  repeat clear hm
  intro aZ aa w hm ab ac
  refine gS (gS (gR (gM rfl (gM rfl ?_))))
  obtain ⟨ae, af, rfl, ah⟩ := ro_slice h1
  exact gY (yV st_60 rfl) (gB rfl (gE (go _ 9 rfl (decide_eq_false (by omega)) (gcf rfl (gXt (gHh (gS (gR (gM rfl (gA rfl (gE (gRt (gr1 results172 rfl ⟨rfl, hm.below⟩)))))))))))))
theorem laws_heldInsS_ok (w0 : World) (a_ : List Ins_) (v1 : Value) (h1 : GT.rep (hp w0) [v1] a_) (k_ : Int) :
    ConM Tryz.prog 173 [v1, nV k_] w0 (laws_heldInsS a_ k_) fun r v w' => v = (nV r) ∧ Below w0.heap.size w0 w' := by
  unfold laws_heldInsS
  refine gcon func173 rfl fun r => ?_
  have hm := Mem.start w0
  refine gS (gR (gA rfl (gE (gS (gS (gR (gA rfl (gE (gBk (gNf hm (fun aG aB => [(0, v1), (1, (nV aB)), (5, (nV aG))]) (fun aG aB => []) [] rfl ?_ ?_))))))))))
  ·repeat clear hm
   intro aO aC aG aB w hm aP aQ aR aD
   refine gS (gS (gR (gM rfl (gM rfl ?_))))
   obtain ⟨aS, aT, rfl, aV⟩ := ro_slice h1
   refine gY (yV st_61 rfl) (gB rfl (gE (go _ 9 rfl (decide_eq_true (by omega)) (gct rfl (gSk (gS (gBk (gS (gS (gR (gM rfl (gM rfl (gg fun aH aE aA => ?_)))))))))))))
   obtain ⟨aW, aX, aY, he⟩ := idx_form' h1 aA
   obtain ⟨rfl, _, rfl⟩ := sl3 he
   obtain ⟨aI, aF, aJ⟩ := rk_Ins_ h1 aA
   refine gI st_61 aE (idx_lt aA) rfl (gF fo_65_0 rfl (gY (yl isAgg3 ((aF.mono hm.lez).cell (j := 0) rfl) rfl) (gM rfl (gB rfl (gE (gsd 18 rfl (fun aK => ?_) fun aK => ?_))))))
   ·exact gct rfl (gS (gR (gA rfl (gE (gRt (gLr aD aC (gr1 results173 rfl ⟨rfl, hm.below⟩)))))))
   refine gcf rfl (gSk (gS (gR (gM rfl (gB rfl (gA rfl (gE (gS (gS (gR (gM rfl (gM rfl (gI st_61 aE (idx_lt aA) rfl (gF fo_65_1 rfl (gY (yl isAgg3 ((aF.mono hm.lez).cell (j := 1) rfl) rfl) (gM rfl (gB rfl (gE (gsd 27 rfl (fun aL => ?_) fun aL => ?_)))))))))))))))))))
   ·exact gct rfl (gS (gR (gA rfl (gE (gRt (gLr aD aC (gr1 results173 rfl ⟨rfl, hm.below⟩)))))))
   refine gcf rfl (gSk (gS (gR (gM rfl (gB rfl (gA rfl (gE (gS (gR (gM rfl (gM rfl (gI st_61 aE (idx_lt aA) rfl (gF fo_65_2 rfl (gY (yl isAgg43 ((aF.mono hm.lez).cell (j := 2) rfl) rfl) (gM rfl (gC hm rfl call174 (laws_heldIntS_ok _ aH.args aI (hm.now aJ) (w64 ((w64 (aB + 1)) + 1))) fun aZ aa w hm => gA rfl (gE (gS (gS (gR (gM rfl (gB rfl (gE (gsd 38 rfl (fun aM => ?_) fun aM => ?_))))))))))))))))))))))))
   ·exact gct rfl (gS (gR (gA rfl (gE (gRt (gLr aD aC (gr1 results173 rfl ⟨rfl, hm.below⟩)))))))
   refine gcf rfl (gSk (gS (gS (gR (gM rfl (gM rfl (gI st_61 aE (idx_lt aA) rfl (gF fo_65_3 rfl (gY (yl isAgg3 ((aF.mono hm.lez).cell (j := 3) rfl) rfl) (gM rfl (gB rfl (gE (gsd 45 rfl (fun aN => ?_) fun aN => ?_)))))))))))))
   ·exact gct rfl (gS (gR (gA rfl (gE (gRt (gLr aD aC (gr1 results173 rfl ⟨rfl, hm.below⟩)))))))
   exact gcf rfl (gSk (gR (gM rfl (gB rfl (gA rfl (gE (gR (gM rfl (gP (by omega) (by omega) rfl (gA rfl (gE (gze hm [] rfl))))))))))))
  repeat clear hm
  intro ab ac w hm ae af
  refine gS (gS (gR (gM rfl (gM rfl ?_))))
  obtain ⟨ah, ai, rfl, aj⟩ := ro_slice h1
  exact gY (yV st_61 rfl) (gB rfl (gE (go _ 9 rfl (decide_eq_false (by omega)) (gcf rfl (gXt (gHh (gS (gR (gM rfl (gA rfl (gE (gRt (gr1 results173 rfl ⟨rfl, hm.below⟩)))))))))))))
theorem laws_heldBlockS_ok (w0 : World) (a_ : List Block_) (v1 : Value) (h1 : GT.rep (hp w0) [v1] a_) (k_ : Int) :
    ConM Tryz.prog 105 [v1, nV k_] w0 (laws_heldBlockS a_ k_) fun r v w' => v = (nV r) ∧ Below w0.heap.size w0 w' := by
  unfold laws_heldBlockS
  refine gcon func105 rfl fun r => ?_
  have hm := Mem.start w0
  refine gS (gR (gA rfl (gE (gS (gS (gR (gA rfl (gE (gBk (gNf hm (fun aG aF => [(0, v1), (1, (nV aF)), (5, (nV aG))]) (fun aG aF => []) [] rfl ?_ ?_))))))))))
  ·repeat clear hm
   intro aW aB aG aF w hm aX aY aZ aC
   refine gS (gS (gR (gM rfl (gM rfl ?_))))
   obtain ⟨aa, ab, rfl, ac⟩ := ro_slice h1
   refine gY (yV st_47 rfl) (gB rfl (gE (go _ 9 rfl (decide_eq_true (by omega)) (gct rfl (gSk (gS (gBk (gS (gR (gM rfl (gM rfl (gg fun aH aD aA => ?_))))))))))))
   obtain ⟨ae, af, ah, he⟩ := idx_form' h1 aA
   obtain ⟨rfl, _, rfl⟩ := sl3 he
   obtain ⟨aI, aJ, aK, aE, aL, aM, aN⟩ := rk_Block_ h1 aA
   refine gI st_47 aD (idx_lt aA) rfl (gF fo_63_0 rfl (gY (yl isAgg60 ((aE.mono hm.lez).cell (j := 0) rfl) rfl) (gM rfl (gC hm rfl call172 (laws_heldPhiS_ok _ aH.phis aI (hm.now aL) aF) fun aO ai w hm => gA rfl (gE (gS (gS (gR (gM rfl (gB rfl (gE (gsd 20 rfl (fun aP => ?_) fun aP => ?_))))))))))))
   ·exact gct rfl (gS (gR (gA rfl (gE (gRt (gLr aC aB (gr1 results105 rfl ⟨rfl, hm.below⟩)))))))
   refine gcf rfl (gSk (gS (gR (gM rfl (gM rfl (gI st_47 aD (idx_lt aA) rfl (gF fo_63_1 rfl (gY (yl isAgg61 ((aE.mono hm.lez).cell (j := 1) rfl) rfl) (gM rfl (gC hm rfl call173 (laws_heldInsS_ok _ aH.ins aJ (hm.now aM) aO) fun aQ aj w hm => gA rfl (gE (gS (gS (gR (gM rfl (gB rfl (gE (gsd 29 rfl (fun aR => ?_) fun aR => ?_))))))))))))))))))
   ·exact gct rfl (gS (gR (gA rfl (gE (gRt (gLr aC aB (gr1 results105 rfl ⟨rfl, hm.below⟩)))))))
   refine gcf rfl (gSk (gS (gS (gR (gM rfl (gM rfl (gI st_47 aD (idx_lt aA) rfl (gF fo_63_2 rfl (gY (yl isAgg3 ((aE.mono hm.lez).cell (j := 2) rfl) rfl) (gM rfl (gB rfl (gE (gsd 36 rfl (fun aS => ?_) fun aS => ?_)))))))))))))
   ·exact gct rfl (gS (gR (gA rfl (gE (gRt (gLr aC aB (gr1 results105 rfl ⟨rfl, hm.below⟩)))))))
   refine gcf rfl (gSk (gS (gR (gM rfl (gB rfl (gA rfl (gE (gS (gS (gR (gM rfl (gM rfl (gI st_47 aD (idx_lt aA) rfl (gF fo_63_3 rfl (gY (yl isAgg3 ((aE.mono hm.lez).cell (j := 3) rfl) rfl) (gM rfl (gB rfl (gE (gsd 45 rfl (fun aT => ?_) fun aT => ?_)))))))))))))))))))
   ·exact gct rfl (gS (gR (gA rfl (gE (gRt (gLr aC aB (gr1 results105 rfl ⟨rfl, hm.below⟩)))))))
   refine gcf rfl (gSk (gS (gR (gM rfl (gB rfl (gA rfl (gE (gS (gR (gM rfl (gM rfl (gI st_47 aD (idx_lt aA) rfl (gF fo_63_4 rfl (gY (yl isAgg43 ((aE.mono hm.lez).cell (j := 4) rfl) rfl) (gM rfl (gC hm rfl call174 (laws_heldIntS_ok _ aH.next_ aK (hm.now aN) (w64 ((w64 (aQ + 1)) + 1))) fun ak al w hm => gA rfl (gE (gS (gR (gM rfl (gB rfl (gE (gsd 56 rfl (fun aV => ?_) fun aV => ?_)))))))))))))))))))))))
   ·exact gct rfl (gS (gR (gA rfl (gE (gRt (gLr aC aB (gr1 results105 rfl ⟨rfl, hm.below⟩)))))))
   exact gcf rfl (gSk (gR (gM rfl (gP (by omega) (by omega) rfl (gA rfl (gE (gze hm [] rfl)))))))
  repeat clear hm
  intro am an w hm ao ap
  refine gS (gS (gR (gM rfl (gM rfl ?_))))
  obtain ⟨aq, ar, rfl, au⟩ := ro_slice h1
  exact gY (yV st_47 rfl) (gB rfl (gE (go _ 9 rfl (decide_eq_false (by omega)) (gcf rfl (gXt (gHh (gS (gR (gM rfl (gA rfl (gE (gRt (gr1 results105 rfl ⟨rfl, hm.below⟩)))))))))))))
theorem laws_heldCodeS_ok (w0 : World) (a_ : List Code_) (v1 : Value) (h1 : GT.rep (hp w0) [v1] a_) (k_ : Int) :
    ConM Tryz.prog 54 [v1, nV k_] w0 (laws_heldCodeS a_ k_) fun r v w' => v = (nV r) ∧ Below w0.heap.size w0 w' := by
  unfold laws_heldCodeS
  refine gcon func54 rfl fun r => ?_
  have hm := Mem.start w0
  refine gS (gR (gA rfl (gE (gS (gS (gR (gA rfl (gE (gBk (gNf hm (fun aC aB => [(0, v1), (1, (nV aB)), (5, (nV aC))]) (fun aC aB => []) [] rfl ?_ ?_))))))))))
  ·repeat clear hm
   intro aN aD aC aB w hm aO aP aQ aE
   refine gS (gS (gR (gM rfl (gM rfl ?_))))
   obtain ⟨aR, aS, rfl, aT⟩ := ro_slice h1
   refine gY (yV st_26 rfl) (gB rfl (gE (go _ 9 rfl (decide_eq_true (by omega)) (gct rfl (gSk (gS (gBk (gS (gS (gR (gM rfl (gM rfl (gg fun aH aF aA => ?_)))))))))))))
   obtain ⟨aV, aW, aX, he⟩ := idx_form' h1 aA
   obtain ⟨rfl, _, rfl⟩ := sl3 he
   obtain ⟨aI, aG, aJ⟩ := rk_Code_ h1 aA
   refine gI st_26 aF (idx_lt aA) rfl (gF fo_49_0 rfl (gY (yl isAgg3 ((aG.mono hm.lez).cell (j := 0) rfl) rfl) (gM rfl (gB rfl (gE (gsd 18 rfl (fun aK => ?_) fun aK => ?_))))))
   ·exact gct rfl (gS (gR (gA rfl (gE (gRt (gLr aE aD (gr1 results54 rfl ⟨rfl, hm.below⟩)))))))
   refine gcf rfl (gSk (gS (gR (gM rfl (gB rfl (gA rfl (gE (gS (gS (gR (gM rfl (gM rfl (gI st_26 aF (idx_lt aA) rfl (gF fo_49_1 rfl (gY (yl isAgg3 ((aG.mono hm.lez).cell (j := 1) rfl) rfl) (gM rfl (gB rfl (gE (gsd 27 rfl (fun aL => ?_) fun aL => ?_)))))))))))))))))))
   ·exact gct rfl (gS (gR (gA rfl (gE (gRt (gLr aE aD (gr1 results54 rfl ⟨rfl, hm.below⟩)))))))
   refine gcf rfl (gSk (gS (gR (gM rfl (gB rfl (gA rfl (gE (gS (gR (gM rfl (gM rfl (gI st_26 aF (idx_lt aA) rfl (gF fo_49_2 rfl (gY (yl isAgg47 ((aG.mono hm.lez).cell (j := 2) rfl) rfl) (gM rfl (gC hm rfl call105 (laws_heldBlockS_ok _ aH.blocks aI (hm.now aJ) (w64 ((w64 (aB + 1)) + 1))) fun aY aZ w hm => gA rfl (gE (gS (gR (gM rfl (gB rfl (gE (gsd 38 rfl (fun aM => ?_) fun aM => ?_)))))))))))))))))))))))
   ·exact gct rfl (gS (gR (gA rfl (gE (gRt (gLr aE aD (gr1 results54 rfl ⟨rfl, hm.below⟩)))))))
   exact gcf rfl (gSk (gR (gM rfl (gP (by omega) (by omega) rfl (gA rfl (gE (gze hm [] rfl)))))))
  repeat clear hm
  intro aa ab w hm ac ae
  refine gS (gS (gR (gM rfl (gM rfl ?_))))
  obtain ⟨af, ah, rfl, ai⟩ := ro_slice h1
  exact gY (yV st_26 rfl) (gB rfl (gE (go _ 9 rfl (decide_eq_false (by omega)) (gcf rfl (gXt (gHh (gS (gR (gM rfl (gA rfl (gE (gRt (gr1 results54 rfl ⟨rfl, hm.below⟩)))))))))))))
theorem laws_heldUnit_ok (w0 : World) (a_ : Unit_) (v1 : Value) (h1 : GT.rep (hp w0) [v1] a_.codes) (k_ : Int) :
    ConM Tryz.prog 19 [(.agg #[v1]), nV k_] w0 (laws_heldUnit a_ k_) fun r v w' => v = (nV r) ∧ Below w0.heap.size w0 w' := by
  unfold laws_heldUnit
  refine gcon func19 rfl fun r => ?_
  have hm := Mem.start w0
  refine gS (gR (gBx hm rfl fun aB w hm => gA rfl (gE (gS (gR (gF fo_28_0 rfl (gL hm 0 isAgg26 rfl (gM rfl (gC hm rfl call54 (laws_heldCodeS_ok _ a_.codes v1 (hm.now h1) k_) fun aC aD w hm => gA rfl (gE (gS (gS (gR (gM rfl (gB rfl (gE (gsd 10 rfl (fun aA => ?_) fun aA => ?_)))))))))))))))))
  ·exact gct rfl (gS (gR (gA rfl (gE (gRt (gr1 results19 rfl ⟨rfl, hm.below⟩))))))
  exact gcf rfl (gSk (gS (gR (gM rfl (gA rfl (gE (gRt (gr1 results19 rfl ⟨rfl, hm.below⟩))))))))
theorem laws_FnExactColourUnit_ok (w0 : World) (aU : Unit_) (v1 : Value) (h1 : GT.rep (hp w0) [v1] aU.codes) (aMost : Int) :
    ConM Tryz.prog 3 [(.agg #[v1]), nV aMost] w0 (laws_FnExactColourUnit aU aMost) fun r v w' => v = (.bool (r)) ∧ Below w0.heap.size w0 w' := by
  unfold laws_FnExactColourUnit
  refine gcon func3 rfl fun r => ?_
  have hm := Mem.start w0
  refine gS (gR (gBx hm rfl fun aG w hm => gA rfl (gE (gS (gR (gA rfl (gE (gS (gR (gY (yn (hm.blk_at 0 rfl) isAgg24 sizeOf24 rfl) (gM rfl (gC hm rfl call13 (laws_szUnit_ok _ aU v1 (hm.now h1) 1048576) fun au av w hm => gA rfl (gE (gS (gS (gR (gM rfl (gB rfl (gE (gsd 20 rfl (fun aQ => ?_) fun aQ => ?_))))))))))))))))))))
  ·exact gct rfl (gS (gR (gA rfl (gE (gRt (gr1 results3 rfl ⟨rfl, hm.below⟩))))))
  refine gcf rfl (gSk (gS (gR (gY (yn (hm.blk_at 0 rfl) isAgg24 sizeOf24 rfl) (gCg rfl call15 (laws_toUnit_ok _ aU v1 (hm.now h1)) ?_)))))
  rintro aR aw ax w ⟨aS, rfl, hB⟩
  replace hm := hm.give hB; clear hB
  refine gM rfl (gCg rfl call14 (spec_ColourUnit_ok _ aR aS (hm.ow_rep 0 rfl) aMost) ?_)
  rintro aC ay az w ⟨aB, rfl, hB⟩
  replace hm := hm.give hB; clear hB
  refine gM rfl (gX rfl (gX rfl (gAl hm zeroValue28 rfl fun aH w hm => gSN hm 0 sizeOf28 (one_cons (rep_one (hm.ow_rep 1 rfl)) one_nil) rfl fun w hm => gA rfl (gE (gS (gR (gY (yn (hm.blk_at 3 rfl) isAgg24 sizeOf24 rfl) (gCg rfl call15 (laws_toUnit_ok _ aU v1 (hm.now h1)) ?_))))))))
  rintro aI bA bB w ⟨aD, rfl, hB⟩
  replace hm := hm.give hB; clear hB
  refine gAl hm zeroValue28 rfl fun aJ w hm => gSN hm 0 sizeOf28 (one_cons (rep_one (hm.ow_rep 1 rfl)) one_nil) rfl fun w hm => gE (gS (gR (gY (yn (hm.blk_at 0 rfl) isAgg28 sizeOf28 rfl) (gM rfl (gCg rfl call16 (impl_ColourUnit_ok _ aI aD (hm.ow_rep 1 rfl) aMost) ?_)))))
  rintro aE bC bD w ⟨aA, rfl, hB⟩
  replace hm := hm.give hB; clear hB
  refine gM rfl (gX rfl (gX rfl (gAl hm zeroValue28 rfl fun aF w hm => gSN hm 0 sizeOf28 (one_cons (rep_one (hm.ow_rep 1 rfl)) one_nil) rfl fun w hm => gA rfl (gE (gS (gS (gJ hm (fun aK => [(1, (nV aMost)), (2, (pV aG)), (6, (pV aH)), (7, (.bool (aC.2))), (8, (pV aJ)), (9, (pV aF)), (10, (.bool (aE.2))), (44, (.bool (aK)))]) (fun aK => [blk aG [v1] 24, blk aH [aB] 28, ow [aB] aC.1.codes, blk aJ [aD] 28, ow [aD] aI.codes, blk aF [aA] 28, ow [aA] aE.1.codes]) (fun aK => ?_) ?_)))))))
  ·refine gR (gY (yn (hm.blk_at 0 rfl) isAgg28 sizeOf28 rfl) (gY (yn (hm.blk_at 4 rfl) isAgg28 sizeOf28 rfl) (gC hm rfl call17 (laws_eqUnit_ok _ aE.1 aA (hm.ow_rep 1 rfl) aC.1 aB (hm.ow_rep 5 rfl)) fun bE bF w hm => gN rfl (gM rfl (gsn 40 rfl (fun aT => ?_) fun aT => ?_)))))
   ·exact gO rfl (gO rfl (gO rfl (gKt rfl (gE (gz hm [7, 4, 5, 2, 3, 0, 1] rfl)))))
   exact gM rfl (gM rfl (gY (yG rfl (y_neqb underlying4 rfl rfl rfl)) (gKf rfl (gE (gz hm [7, 4, 5, 2, 3, 0, 1] rfl)))))
  repeat clear hm
  intro aK w hm
  refine gs 44 rfl (fun aV => ?_) fun aV => ?_
  ·exact gct rfl (gS (gR (gA rfl (gE (gRt (gr1 results3 rfl ⟨rfl, hm.below⟩))))))
  refine gcf rfl (gSk (gS (gS (gW (.q 0 (.e 1 (.e 2 (.e 3 (.p 4 .fin) .nil) .nil) .nil)) [1, 2] [4] hm [0, 1, 2, 3, 4, 5, 6] [blk aG [v1] 24, blk aH [aB] 28, ow [aB] aC.1.codes, blk aJ [aD] 28, ow [aD] aI.codes, blk aF [aA] 28, ow [aA] aE.1.codes] rfl mxo (by kernel_rfl) (fun _ _ _ h => h.2) fun w hm hS => tQ rfl hS (fun w hm => yn (hm.blk_at 3 rfl) isAgg28 sizeOf28 rfl) (tO (tY rfl (yn (hm.blk_at 0 rfl) isAgg24 sizeOf24 rfl) (tAs hS (tO (gb fun aO aW => tf rfl rfl (fun a hf => e_call hf rfl call15 rfl (laws_toUnit_ok _ aU v1 (hm.now h1) _ aW)) ?_)))))))))
  rintro bG w ⟨aP, rfl, hB⟩
  replace hm := hm.give hB; clear hB
  refine tAk hm [1, 2, 3, 4, 5, 6, 7] rfl fun hS => tO (gb fun bH aX => tf rfl rfl (fun a hf => e_call hf rfl call17 rfl (laws_eqUnit_ok _ aI aD (hm.ow_rep 5 rfl) aO aP (hm.ow_rep 0 rfl) _ aX)) ?_)
  rintro bJ w ⟨rfl, hB⟩
  replace hm := hm.below' hB; clear hB
  refine tAn rfl (tP rfl (fun w => yN rfl) (tE (gsn 49 rfl (fun aY => ?_) fun aY => ?_)))
  ·exact gct rfl (gS (gR (gA rfl (gE (gRt (gr1 results3 rfl ⟨rfl, hm.below⟩))))))
  refine gcf rfl (gSk (gS (gR (gA rfl (gE (gS (gR (gY (yn (hm.blk_at 4 rfl) isAgg28 sizeOf28 rfl) (gM rfl ?_)))))))))
  obtain ⟨aZ, hle, hm1, hsub, aa⟩ := hm.take2 (L1 := [ow [aD] aI.codes]) (L2 := [ow [aP] aO.codes, blk aG [v1] 24, blk aH [aB] 28, ow [aB] aC.1.codes, blk aJ [aD] 28, blk aF [aA] 28, ow [aA] aE.1.codes]) [5] [0, 1, 2, 3, 4, 6, 7] (by decide) rfl rfl
  refine gCg rfl call18 (laws_markUnit_ok _ aZ aI aD 1 hm1 ) ?_
  rintro bK bL bM w ⟨rfl, hB⟩
  replace hm := aa _ _ hB; clear hB
  refine gA rfl (gE (gS (gS (gJ hm (fun aL => [(1, (nV aMost)), (2, (pV aG)), (6, (pV aH)), (7, (.bool (aC.2))), (9, (pV aF)), (65, (.bool (aL)))]) (fun aL => [blk aG [v1] 24, blk aH [aB] 28, ow [aB] aC.1.codes, blk aF [aA] 28, ow [aA] aE.1.codes]) (fun aL => ?_) ?_))))
  ·refine gR (gM rfl (gB rfl (gM rfl (gsd 55 rfl (fun ab => ?_) fun ab => ?_))))
   ·exact gO rfl (gO rfl (gO rfl (gO rfl (gKt rfl (gM rfl (gO rfl (gO rfl (gO rfl (gKt rfl (gE (gz hm [2, 3, 4, 6, 7] rfl)))))))))))
   refine gY (yn (hm.blk_at 6 rfl) isAgg28 sizeOf28 rfl) (gY (yn (hm.blk_at 3 rfl) isAgg28 sizeOf28 rfl) (gC hm rfl call17 (laws_eqUnit_ok _ aE.1 aA (hm.ow_rep 7 rfl) aC.1 aB (hm.ow_rep 4 rfl)) fun bN bO w hm => gN rfl (gKf rfl (gM rfl (gsn 61 rfl (fun ac => ?_) fun ac => ?_)))))
   ·exact gO rfl (gO rfl (gO rfl (gKt rfl (gE (gz hm [2, 3, 4, 6, 7] rfl)))))
   exact gM rfl (gM rfl (gY (yG rfl (y_neqb underlying4 rfl rfl rfl)) (gKf rfl (gE (gz hm [2, 3, 4, 6, 7] rfl)))))
  repeat clear hm
  intro aL w hm
  refine gs 65 rfl (fun ae => ?_) fun ae => ?_
  ·exact gct rfl (gS (gR (gA rfl (gE (gRt (gr1 results3 rfl ⟨rfl, hm.below⟩))))))
  refine gcf rfl (gSk (gS (gR (gA rfl (gE (gS (gR (gY (yn (hm.blk_at 3 rfl) isAgg28 sizeOf28 rfl) (gM rfl ?_)))))))))
  obtain ⟨af, hle, hm1, hsub, ah⟩ := hm.take2 (L1 := [ow [aA] aE.1.codes]) (L2 := [blk aG [v1] 24, blk aH [aB] 28, ow [aB] aC.1.codes, blk aF [aA] 28]) [4] [0, 1, 2, 3] (by decide) rfl rfl
  refine gCg rfl call18 (laws_markUnit_ok _ af aE.1 aA 1 hm1 ) ?_
  rintro aM bP bQ w ⟨rfl, hB⟩
  replace hm := ah _ _ hB; clear hB
  refine gA rfl (gE (gS (gR (gA rfl (gE (gS (gR (gY (yn (hm.blk_at 4 rfl) isAgg28 sizeOf28 rfl) (gM rfl (gC hm rfl call19 (laws_heldUnit_ok _ (⟨aM.2⟩ : Unit_) aA (hm.ow_rep 0 rfl) 1) fun bR bS w hm => gA rfl (gE (gS (gS (gR (gM rfl (gB rfl (gE (gsd 73 rfl (fun ai => ?_) fun ai => ?_))))))))))))))))))
  ·exact gct rfl (gS (gR (gA rfl (gE (gRt (gr1 results3 rfl ⟨rfl, hm.below⟩))))))
  refine gcf rfl (gSk (gS (gS (gR (gM rfl (gM rfl (gB rfl (gE (gsd 76 rfl (fun aj => ?_) fun aj => ?_)))))))))
  ·exact gct rfl (gS (gR (gA rfl (gE (gRt (gr1 results3 rfl ⟨rfl, hm.below⟩))))))
  refine gcf rfl (gSk (gS (gR (gY (yn (hm.blk_at 1 rfl) isAgg24 sizeOf24 rfl) (gCg rfl call15 (laws_toUnit_ok _ aU v1 (hm.now h1)) ?_)))))
  rintro ak bT bU w ⟨al, rfl, hB⟩
  replace hm := hm.give hB; clear hB
  refine gM rfl (gCg rfl call16 (impl_ColourUnit_ok _ ak al (hm.ow_rep 0 rfl) aMost) ?_)
  rintro am bV bW w ⟨an, rfl, hB⟩
  replace hm := hm.give hB; clear hB
  refine gM rfl (gX rfl (gX rfl (gAl hm zeroValue28 rfl fun bX w hm => gSN hm 0 sizeOf28 (one_cons (rep_one (hm.ow_rep 1 rfl)) one_nil) rfl fun w hm => gA rfl (gE (gS (gS (gJ hm (fun aN => [(9, (pV aF)), (12, (nV aM.1)), (92, (.bool (aN)))]) (fun aN => [blk aF [aA] 28, ow [aA] aM.2]) (fun aN => ?_) ?_)))))))
  ·refine gR (gY (yn (hm.blk_at 0 rfl) isAgg28 sizeOf28 rfl) (gY (yn (hm.blk_at 5 rfl) isAgg28 sizeOf28 rfl) (gC hm rfl call17 (laws_eqUnit_ok _ am.1 an (hm.ow_rep 1 rfl) aC.1 aB (hm.ow_rep 6 rfl)) fun bY bZ w hm => gN rfl (gM rfl (gsn 88 rfl (fun ao => ?_) fun ao => ?_)))))
   ·exact gO rfl (gO rfl (gO rfl (gKt rfl (gE (gz hm [7, 3] rfl)))))
   exact gM rfl (gM rfl (gY (yG rfl (y_neqb underlying4 rfl rfl rfl)) (gKf rfl (gE (gz hm [7, 3] rfl)))))
  repeat clear hm
  intro aN w hm
  refine gs 92 rfl (fun ap => ?_) fun ap => ?_
  ·exact gct rfl (gS (gR (gA rfl (gE (gRt (gr1 results3 rfl ⟨rfl, hm.below⟩))))))
  refine gcf rfl (gSk (gS (gR (gA rfl (gE (gS (gR (gY (yn (hm.blk_at 0 rfl) isAgg28 sizeOf28 rfl) (gM rfl (gC hm rfl call19 (laws_heldUnit_ok _ (⟨aM.2⟩ : Unit_) aA (hm.ow_rep 1 rfl) 1) fun b6 b7 w hm => gA rfl (gE (gS (gS (gR (gM rfl (gB rfl (gE (gsd 97 rfl (fun aq => ?_) fun aq => ?_))))))))))))))))))
  ·exact gct rfl (gS (gR (gA rfl (gE (gRt (gr1 results3 rfl ⟨rfl, hm.below⟩))))))
  refine gcf rfl (gSk (gS (gS (gR (gM rfl (gM rfl (gB rfl (gE (gsd 100 rfl (fun ar => ?_) fun ar => ?_)))))))))
  ·exact gct rfl (gS (gR (gA rfl (gE (gRt (gr1 results3 rfl ⟨rfl, hm.below⟩))))))
  exact gcf rfl (gSk (gS (gR (gA rfl (gE (gRt (gr1 results3 rfl ⟨rfl, hm.below⟩)))))))
end Go.Proofs.YtabgclojkbijbaaGreat
