/- A part of the proof of FnExactInlineCallSaid. -/
import Derived.Test.YthikiocjbepfnaaGreatIlWalksB
namespace Go.Proofs.YthikiocjbepfnaaGreat
open Go Go.Wk Go.RowKit
set_option maxRecDepth 4000
set_option maxHeartbeats 4000000
open Tryz
theorem er_sB : SliceTy Tryz.prog 42 49 5 := ⟨underlying42,sizeOf49⟩
theorem er_sP : SliceTy Tryz.prog 45 105 2 := ⟨underlying45,sizeOf105⟩
theorem er_sI : SliceTy Tryz.prog 46 51 4 := ⟨underlying46,sizeOf51⟩
theorem er_sN : SliceTy Tryz.prog 47 3 1 := ⟨underlying47,sizeOf3⟩
theorem er_C2 : FieldOff Tryz.prog 44 2 2 := by have h := FieldOff.mk (k := 2) underlying44 rfl sizeOf42; exact h
theorem er_B0 : FieldOff Tryz.prog 49 0 0 := by have h := FieldOff.mk (k := 0) underlying49 rfl sizeOf45; exact h
theorem er_B1 : FieldOff Tryz.prog 49 1 1 := by have h := FieldOff.mk (k := 1) underlying49 rfl sizeOf46; exact h
theorem er_B2 : FieldOff Tryz.prog 49 2 2 := by have h := FieldOff.mk (k := 2) underlying49 rfl sizeOf3; exact h
theorem er_B3 : FieldOff Tryz.prog 49 3 3 := by have h := FieldOff.mk (k := 3) underlying49 rfl sizeOf3; exact h
theorem er_P0 : FieldOff Tryz.prog 105 0 0 := by have h := FieldOff.mk (k := 0) underlying105 rfl sizeOf3; exact h
theorem er_P1 : FieldOff Tryz.prog 105 1 1 := by have h := FieldOff.mk (k := 1) underlying105 rfl sizeOf47; exact h
theorem er_I0 : FieldOff Tryz.prog 51 0 0 := by have h := FieldOff.mk (k := 0) underlying51 rfl sizeOf3; exact h
theorem er_I1 : FieldOff Tryz.prog 51 1 1 := by have h := FieldOff.mk (k := 1) underlying51 rfl sizeOf3; exact h
theorem er_I2 : FieldOff Tryz.prog 51 2 2 := by have h := FieldOff.mk (k := 2) underlying51 rfl sizeOf47; exact h
section
variable {F : Nat → Prop} {h : Heap} {b off len cap b2 o2 l2 c2 b3 o3 l3 c3 i k j : Nat} {bl : List Block_} {B : Block_} {p : Phi_} {q : Ins_} {n : Int} {v1 v2 v3 va : Value} {j1 j2 : Int}
theorem er_arg {xs : List Int} (hx : xs[j]? = some n) (hc : CellsAt h b3 (o3 + j * 1) [.int .i64 n]) : ∀ G, GT.own G h [.slice (some ⟨b3, o3, none⟩) l3 c3] xs → Deep G h [.slice (some ⟨b3, o3, none⟩) l3 c3] b3 (o3 + j * 1) n (fun y => xs.set j y) := fun G ho =>
  list_shal (d := 0) ho hx hc rfl λ_ ho=>shal_int ho
theorem er_phiT (hp : B.phis[k]? = some p) (hc : CellsAt h b2 (o2 + k * 2) [.int .i64 p.to, va]) : ∀ G, GT.own G h [.slice (some ⟨b2, o2, none⟩) l2 c2] B.phis → Deep G h [.slice (some ⟨b2, o2, none⟩) l2 c2] b2 (o2 + k * 2 + 0) p.to (fun y => B.phis.set k { p with to := y }) := fun G ho =>
  list_shal (d := 0) ho hp hc rfl λG ho=>fst_shal (α := Int) (β := List Int) (p := (p.to,p.args)) (c := [.int .i64 p.to]) (d := [va]) ho rfl rfl λ_ ho=>shal_int ho
theorem er_phiA (hp : B.phis[k]? = some p) (hc : CellsAt h b2 (o2 + k * 2) [.int .i64 p.to, .slice (some ⟨b3, o3, none⟩) l3 c3]) (hx : p.args[j]? = some n) (hn : CellsAt h b3 (o3 + j * 1) [.int .i64 n]) : ∀ G, GT.own G h [.slice (some ⟨b2, o2, none⟩) l2 c2] B.phis → Deep G h [.slice (some ⟨b2, o2, none⟩) l2 c2] b3 (o3 + j * 1) n (fun y => B.phis.set k { p with args := p.args.set j y }) := fun G ho =>
  list_deep ho hp hc rfl λG ho=>snd_deep (α := Int) (β := List Int) (p := (p.to,p.args)) (c := [.int .i64 p.to]) (d := [.slice (some ⟨b3,o3,none⟩) l3 c3]) ho rfl rfl (er_arg hx hn)
theorem er_insT (hp : B.ins[k]? = some q) (hc : CellsAt h b2 (o2 + k * 4) [.int .i64 q.op, .int .i64 q.to, va, .int .i64 q.n_]) : ∀ G, GT.own G h [.slice (some ⟨b2, o2, none⟩) l2 c2] B.ins → Deep G h [.slice (some ⟨b2, o2, none⟩) l2 c2] b2 (o2 + k * 4 + 1) q.to (fun y => B.ins.set k { q with to := y }) := fun G ho =>
  list_shal (d := 1) ho hp hc rfl fun G ho => snd_shal (α := Int) (β := Int × List Int × Int) (p := (q.op, q.to, q.args, q.n_)) (c := [.int .i64 q.op]) (d := [.int .i64 q.to, va, .int .i64 q.n_]) ho rfl rfl fun G ho =>
    fst_shal (α := Int) (β := List Int × Int) (p := (q.to,q.args,q.n_)) (c := [.int .i64 q.to]) (d := [va,.int .i64 q.n_]) ho rfl rfl λ_ ho=>shal_int ho
theorem er_insA (hp : B.ins[k]? = some q) (hc : CellsAt h b2 (o2 + k * 4) [.int .i64 q.op, .int .i64 q.to, .slice (some ⟨b3, o3, none⟩) l3 c3, .int .i64 q.n_]) (hx : q.args[j]? = some n) (hn : CellsAt h b3 (o3 + j * 1) [.int .i64 n]) : ∀ G, GT.own G h [.slice (some ⟨b2, o2, none⟩) l2 c2] B.ins → Deep G h [.slice (some ⟨b2, o2, none⟩) l2 c2] b3 (o3 + j * 1) n (fun y => B.ins.set k { q with args := q.args.set j y }) := fun G ho =>
  list_deep ho hp hc rfl fun G ho => snd_deep (α := Int) (β := Int × List Int × Int) (p := (q.op, q.to, q.args, q.n_)) (c := [.int .i64 q.op]) (d := [.int .i64 q.to, .slice (some ⟨b3, o3, none⟩) l3 c3, .int .i64 q.n_]) ho rfl rfl fun G ho =>
    snd_deep (α := Int) (β := List Int × Int) (p := (q.to, q.args, q.n_)) (c := [.int .i64 q.to]) (d := [.slice (some ⟨b3, o3, none⟩) l3 c3, .int .i64 q.n_]) ho rfl rfl fun G ho =>
      fst_deep (α := List Int) (β := Int) (p := (q.args,q.n_)) (c := [.slice (some ⟨b3,o3,none⟩) l3 c3]) (d := [.int .i64 q.n_]) ho rfl rfl (er_arg hx hn)
theorem er_inP {i2 : Nat} {g : Int → List Phi_} (hb : bl[i]? = some B) (hc : CellsAt h b (off + i * 5) [v1, v2, .int .i64 B.jump, .int .i64 B.on, v3]) (hs : ∀ G, GT.own G h [v1] B.phis → Deep G h [v1] b2 i2 n g) : ∀ F, GT.own F h [.slice (some ⟨b, off, none⟩) len cap] bl → Deep F h [.slice (some ⟨b, off, none⟩) len cap] b2 i2 n (fun y => bl.set i { B with phis := g y }) := fun F ho =>
  list_deep ho hb hc rfl λG ho=>fst_deep (α := List Phi_) (β := List Ins_ × Int × Int × List Int) (p := (B.phis,B.ins,B.jump,B.on,B.next_)) (c := [v1]) (d := [v2,.int .i64 B.jump,.int .i64 B.on,v3]) ho rfl rfl hs
theorem er_inI {i2 : Nat} {g : Int → List Ins_} (hb : bl[i]? = some B) (hc : CellsAt h b (off + i * 5) [v1, v2, .int .i64 B.jump, .int .i64 B.on, v3]) (hs : ∀ G, GT.own G h [v2] B.ins → Deep G h [v2] b2 i2 n g) : ∀ F, GT.own F h [.slice (some ⟨b, off, none⟩) len cap] bl → Deep F h [.slice (some ⟨b, off, none⟩) len cap] b2 i2 n (fun y => bl.set i { B with ins := g y }) := fun F ho =>
  list_deep ho hb hc rfl fun G ho => snd_deep (α := List Phi_) (β := List Ins_ × Int × Int × List Int) (p := (B.phis, B.ins, B.jump, B.on, B.next_)) (c := [v1]) (d := [v2, .int .i64 B.jump, .int .i64 B.on, v3]) ho rfl rfl fun G ho =>
    fst_deep (α := List Ins_) (β := Int × Int × List Int) (p := (B.ins,B.jump,B.on,B.next_)) (c := [v2]) (d := [.int .i64 B.jump,.int .i64 B.on,v3]) ho rfl rfl hs
theorem er_on (hb : bl[i]? = some B) (hc : CellsAt h b (off + i * 5) [v1, v2, .int .i64 B.jump, .int .i64 B.on, v3]) : ∀ F, GT.own F h [.slice (some ⟨b, off, none⟩) len cap] bl → Deep F h [.slice (some ⟨b, off, none⟩) len cap] b (off + i * 5 + 3) B.on (fun y => bl.set i { B with on := y }) := fun F ho =>
  list_shal (d := 3) ho hb hc rfl fun G ho => snd_shal (α := List Phi_) (β := List Ins_ × Int × Int × List Int) (p := (B.phis, B.ins, B.jump, B.on, B.next_)) (c := [v1]) (d := [v2, .int .i64 B.jump, .int .i64 B.on, v3]) (k := 2) ho rfl rfl fun G ho =>
    snd_shal (α := List Ins_) (β := Int × Int × List Int) (p := (B.ins, B.jump, B.on, B.next_)) (c := [v2]) (d := [.int .i64 B.jump, .int .i64 B.on, v3]) (k := 1) ho rfl rfl fun G ho =>
      snd_shal (α := Int) (β := Int × List Int) (p := (B.jump, B.on, B.next_)) (c := [.int .i64 B.jump]) (d := [.int .i64 B.on, v3]) (k := 0) ho rfl rfl fun G ho =>
        fst_shal (α := Int) (β := List Int) (p := (B.on,B.next_)) (c := [.int .i64 B.on]) (d := [v3]) ho rfl rfl λ_ ho=>shal_int ho
end
section
variable {w0 w : World} {hz : Heap} {L : List Ch} {vf : Value} {f : Int → Option Int} {b off len cap n : Nat} {l : Env} {bl : List Block_} {i k j : Int} {ops : Array Oper} {Q : Exit → Act → World → Prop} {o : Oper} {rest : List Oper} {d : Nat} {ρ : Type} {r : ρ}
theorem er_call {m : Option ρ} {x y : Operand} {tys : Array TypeId} {cs : List Value} {α : Type} [GT α] {z : α} {b2 i2 : Nat} {nn yy : Int} {g : Int → α} (hm : Mem w0 hz w (ow cs z :: L)) (hv : VisitP Tryz.prog vf f hz) (hd : ∀ F, GT.own F (hp w) cs z → Deep F (hp w) cs b2 i2 nn g) (hy : f nn = some yy)
    (h : (gd ops l o.guard,o.dst,Nat.blt d n,o.op,ev l x,evs l [y]) = (true,some d,true,.call { callee := .value x,args := #[y],argTypes := tys },some vf,some [.pointer (some ⟨b2,i2,none⟩)]))
    (k : ∀ v w',Mem w0 hz w' (ow cs (g yy) :: L) → G m r n ((d,v) :: l) (wpList Tryz.prog ops Q rest) w') : G m r n l (wpList Tryz.prog ops Q (o :: rest)) w := by
  obtain ⟨h1,h2,h3,h4,h5,h6⟩ := t6 h
  refine gf (d := d) (by rw [h1,h2,h3]) (λa hf=>e_callv hf h4 h5 h6 (hv w b2 i2 nn yy hm.lez (hm.spot hd).1 (hm.spot hd).2 hy)) ?_
  rintro v w' ⟨hs,hh⟩
  exact k v w' (hm.visited hd hs hh)
theorem er_PT_some {z : List Block_} (h : er_PT f i k bl = some z) : ∃ B p y, (0 ≤ i ∧ bl[i.toNat]? = some B) ∧ (0 ≤ k ∧ B.phis[k.toNat]? = some p) ∧ f p.to = some y ∧ bl.set i.toNat { B with phis := B.phis.set k.toNat { p with to := y } } = z := by
  obtain ⟨B,hB,h⟩ := bnd h; obtain ⟨p,hp,h⟩ := bnd h; obtain ⟨y,hy,h⟩ := bnd h
  exact ⟨B,p,y,getI_some.1 hB,getI_some.1 hp,hy,Option.some.inj h⟩
theorem er_PA_some {z : List Block_} (h : er_PA f i k j bl = some z) : ∃ B p n y, (0 ≤ i ∧ bl[i.toNat]? = some B) ∧ (0 ≤ k ∧ B.phis[k.toNat]? = some p) ∧ (0 ≤ j ∧ p.args[j.toNat]? = some n) ∧ f n = some y ∧ bl.set i.toNat { B with phis := B.phis.set k.toNat { p with args := p.args.set j.toNat y } } = z := by
  obtain ⟨B,hB,h⟩ := bnd h; obtain ⟨p,hp,h⟩ := bnd h; obtain ⟨n,hn,h⟩ := bnd h; obtain ⟨y,hy,h⟩ := bnd h
  exact ⟨B,p,n,y,getI_some.1 hB,getI_some.1 hp,getI_some.1 hn,hy,Option.some.inj h⟩
theorem er_IT_some {z : List Block_} (h : er_IT f i k bl = some z) : ∃ B p y, (0 ≤ i ∧ bl[i.toNat]? = some B) ∧ (0 ≤ k ∧ B.ins[k.toNat]? = some p) ∧ f p.to = some y ∧ bl.set i.toNat { B with ins := B.ins.set k.toNat { p with to := y } } = z := by
  obtain ⟨B,hB,h⟩ := bnd h; obtain ⟨p,hp,h⟩ := bnd h; obtain ⟨y,hy,h⟩ := bnd h
  exact ⟨B,p,y,getI_some.1 hB,getI_some.1 hp,hy,Option.some.inj h⟩
theorem er_IA_some {z : List Block_} (h : er_IA f i k j bl = some z) : ∃ B p n y, (0 ≤ i ∧ bl[i.toNat]? = some B) ∧ (0 ≤ k ∧ B.ins[k.toNat]? = some p) ∧ (0 ≤ j ∧ p.args[j.toNat]? = some n) ∧ f n = some y ∧ bl.set i.toNat { B with ins := B.ins.set k.toNat { p with args := p.args.set j.toNat y } } = z := by
  obtain ⟨B,hB,h⟩ := bnd h; obtain ⟨p,hp,h⟩ := bnd h; obtain ⟨n,hn,h⟩ := bnd h; obtain ⟨y,hy,h⟩ := bnd h
  exact ⟨B,p,n,y,getI_some.1 hB,getI_some.1 hp,getI_some.1 hn,hy,Option.some.inj h⟩
theorem er_P {v : Value} {ps : List Phi_} {p : Phi_} (hr : GT.rep (hp w) [v] ps) (hp_ : ps[k.toNat]? = some p) : ∃ b2 o2 c2 p3 n3 c3, v = .slice (some ⟨b2, o2, none⟩) ps.length c2 ∧ CellsAt (hp w) b2 (o2 + k.toNat * 2) [.int .i64 p.to, .slice p3 n3 c3] ∧ GT.rep (hp w) [.slice p3 n3 c3] p.args ∧ p.args.length = n3 ∧ n3 ≤ 140737488355328 := by
  obtain ⟨b2,o2,c2,rfl⟩ := idx_form' hr hp_
  obtain ⟨va,h1,h2⟩ := rk_Phi_ hr hp_
  obtain ⟨p3,c3,rfl,l3⟩ := (rep_list.1 h2).len
  exact ⟨b2,o2,c2,p3,_,c3,rfl,h1,h2,rfl,l3⟩
theorem er_I {v : Value} {ps : List Ins_} {p : Ins_} (hr : GT.rep (hp w) [v] ps) (hp_ : ps[k.toNat]? = some p) : ∃ b2 o2 c2 p3 n3 c3, v = .slice (some ⟨b2, o2, none⟩) ps.length c2 ∧ CellsAt (hp w) b2 (o2 + k.toNat * 4) [.int .i64 p.op, .int .i64 p.to, .slice p3 n3 c3, .int .i64 p.n_] ∧ GT.rep (hp w) [.slice p3 n3 c3] p.args ∧ p.args.length = n3 ∧ n3 ≤ 140737488355328 := by
  obtain ⟨b2,o2,c2,rfl⟩ := idx_form' hr hp_
  obtain ⟨va,h1,h2⟩ := rk_Ins_ hr hp_
  obtain ⟨p3,c3,rfl,l3⟩ := (rep_list.1 h2).len
  exact ⟨b2,o2,c2,p3,_,c3,rfl,h1,h2,rfl,l3⟩
theorem er_N {v : Value} {xs : List Int} {x : Int} (hr : GT.rep (hp w) [v] xs) (hx : xs[j.toNat]? = some x) : ∃ b3 o3 c3, v = .slice (some ⟨b3, o3, none⟩) xs.length c3 ∧ CellsAt (hp w) b3 (o3 + j.toNat * 1) [.int .i64 x] := by
  obtain ⟨b3,o3,c3,rfl⟩ := idx_form hr hx
  exact ⟨b3,o3,c3,rfl,flat_cells (cs := [.int .i64 x]) hr hx rfl⟩
end
section
variable {F : Nat → Prop} {h h0 : Heap} {b off len cap b2 i2 i : Nat} {bl : List Block_} {B : Block_} {n : Int} {v1 v2 v3 : Value}
theorem er_inPs {g : Int → List Phi_} (hb : bl[i]? = some B) (hc : CellsAt h b (off + i * 5) [v1, v2, .int .i64 B.jump, .int .i64 B.on, v3]) (hs : ∀ G, GT.own G h [v1] B.phis → Deep G h [v1] b2 i2 n g) : ∀ F, GT.own (α := Shp h0 (List Block_)) F h [.slice (some ⟨b, off, none⟩) len cap] bl → Deep (α := Shp h0 (List Block_)) F h [.slice (some ⟨b, off, none⟩) len cap] b2 i2 n (fun y => (bl.set i { B with phis := g y } : List Block_)) :=
  sh_deep (α := List Block_) (er_inP hb hc hs)
theorem er_inIs {g : Int → List Ins_} (hb : bl[i]? = some B) (hc : CellsAt h b (off + i * 5) [v1, v2, .int .i64 B.jump, .int .i64 B.on, v3]) (hs : ∀ G, GT.own G h [v2] B.ins → Deep G h [v2] b2 i2 n g) : ∀ F, GT.own (α := Shp h0 (List Block_)) F h [.slice (some ⟨b, off, none⟩) len cap] bl → Deep (α := Shp h0 (List Block_)) F h [.slice (some ⟨b, off, none⟩) len cap] b2 i2 n (fun y => (bl.set i { B with ins := g y } : List Block_)) :=
  sh_deep (α := List Block_) (er_inI hb hc hs)
theorem er_ons (hb : bl[i]? = some B) (hc : CellsAt h b (off + i * 5) [v1, v2, .int .i64 B.jump, .int .i64 B.on, v3]) : ∀ F, GT.own (α := Shp h0 (List Block_)) F h [.slice (some ⟨b, off, none⟩) len cap] bl → Deep (α := Shp h0 (List Block_)) F h [.slice (some ⟨b, off, none⟩) len cap] b (off + i * 5 + 3) B.on (fun y => (bl.set i { B with on := y } : List Block_)) :=
  sh_deep (α := List Block_) (er_on hb hc)
end
theorem er_Bs {w0 w : World} {hz h0 : Heap} {L : List Ch} {b off len cap : Nat} {bl : List Block_} {i : Int} (hm : Mem w0 hz w (ow (α := Shp h0 (List Block_)) [.slice (some ⟨b, off, none⟩) len cap] bl :: L)) {B : Block_} (hB : bl[i.toNat]? = some B) : ∃ p1 n1 c1 p2 n2 c2 v3, CellsAt (hp w) b (off + i.toNat * 5) [.slice p1 n1 c1, .slice p2 n2 c2, .int .i64 B.jump, .int .i64 B.on, v3] ∧ GT.rep (hp w) [.slice p1 n1 c1] B.phis ∧ GT.rep (hp w) [.slice p2 n2 c2] B.ins ∧ (B.phis.length = n1 ∧ B.ins.length = n2) ∧ n1 ≤ 140737488355328 ∧ n2 ≤ 140737488355328 := by
  obtain ⟨v1,v2,v3,h1,h2,h3,_⟩ := rk_Block_ (sh_rep (hm.ow_rep 0 rfl)) hB
  obtain ⟨p1,c1,rfl,l1⟩ := (rep_list.1 h2).len
  obtain ⟨p2,c2,rfl,l2⟩ := (rep_list.1 h3).len
  exact ⟨p1,_,c1,p2,_,c2,v3,h1,h2,h3,⟨rfl,rfl⟩,l1,l2⟩
theorem er_pieces {w0 w : World} {hz h0 : Heap} {L : List Ch} {b off len cap : Nat} {xs : List Block_} {B : Block_} {p1 p2 p3 u1 u2 : Value} (hm : Mem w0 hz w (ow (α := Shp h0 (List Block_)) [.slice (some ⟨b, off, none⟩) len cap] xs :: L)) (hx : xs[0]? = some B) (hc : CellsAt h0 b off [p1, p2, u1, u2, p3])
    (h1 : ∃ a n c,p1 = .slice a n c) (h2 : ∃ a n c,p2 = .slice a n c) (h3 : ∃ a n c,p3 = .slice a n c) : Mem w0 hz w (ow [p3] B.next_ :: ow [.int .i64 B.on] B.on :: ow [.int .i64 B.jump] B.jump :: ow [p2] B.ins :: ow [p1] B.phis :: L) := by
  obtain ⟨a1,n1,c1,rfl⟩ := h1
  obtain ⟨a2,n2,c2,rfl⟩ := h2
  obtain ⟨a3,n3,c3,rfl⟩ := h3
  obtain ⟨cs,hm,hcs⟩ := hm.sh_one 0 rfl hx hc
  have hr := hm.ow_rep 0 rfl
  have e0 := hcs 0 _ rfl (λ_ _ h=>by cases h) (by decide)
  have e1 := hcs 1 _ rfl (λ_ _ h=>by cases h) (by decide)
  have e4 := hcs 4 _ rfl (λ_ _ h=>by cases h) (by decide)
  obtain ⟨_,_,rfl,⟨v1,rfl,_⟩,_,_,rfl,⟨v2,rfl,_⟩,_,_,rfl,rfl,_,_,rfl,rfl,⟨v3,rfl,_⟩⟩ := hr
  simp only [List.cons_append,List.nil_append,List.getElem?_cons_zero,List.getElem?_cons_succ,Option.some.injEq] at e0 e1 e4
  subst e0; subst e1; subst e4
  replace hm := hm.imp (c' := ow ([.slice a1 n1 c1] ++ [.slice a2 n2 c2,.int .i64 B.jump,.int .i64 B.on,.slice a3 n3 c3]) ((B.phis,B.ins,B.jump,B.on,B.next_) : List Phi_ × List Ins_ × Int × Int × List Int)) 0 rfl (λF h0=>h0)
  replace hm := Mem.unpair (α := List Phi_) (β := List Ins_ × Int × Int × List Int) (c := [.slice a1 n1 c1]) (d := [.slice a2 n2 c2,.int .i64 B.jump,.int .i64 B.on,.slice a3 n3 c3]) (x := B.phis) (y := (B.ins,B.jump,B.on,B.next_)) hm 0 rfl rfl
  replace hm := Mem.unpair (α := List Ins_) (β := Int × Int × List Int) (c := [.slice a2 n2 c2]) (d := [.int .i64 B.jump,.int .i64 B.on,.slice a3 n3 c3]) (x := B.ins) (y := (B.jump,B.on,B.next_)) hm 0 rfl rfl
  replace hm := Mem.unpair (α := Int) (β := Int × List Int) (c := [.int .i64 B.jump]) (d := [.int .i64 B.on,.slice a3 n3 c3]) (x := B.jump) (y := (B.on,B.next_)) hm 0 rfl rfl
  replace hm := Mem.unpair (α := Int) (β := List Int) (c := [.int .i64 B.on]) (d := [.slice a3 n3 c3]) (x := B.on) (y := B.next_) hm 0 rfl rfl
  exact hm
theorem impl_eachReg_ok (w0 : World) (hz : Heap) (c_ : Code_) (vf v1 : Value) (f : Int → Option Int) (hm0 : Mem w0 hz w0 [ow [v1] c_.blocks]) (hv : VisitP Tryz.prog vf f hz) :
    ConM Tryz.prog 57 [(.agg #[(.int .i64 c_.params),(.int .i64 c_.regs),v1]),vf] w0 (impl_eachReg f c_) λr v w'=>v = .tuple #[] ∧ Mem w0 hz w' [ow (α := Shp (hp w0) (List Block_)) [v1] r] := by
  unfold impl_eachReg
  refine gcon func57 rfl λr=>?_
  have hm : Mem w0 hz w0 [ow (α := Shp (hp w0) (List Block_)) [v1] c_.blocks] := hm0.sh_in 0 rfl
  obtain ⟨p0,c0,hv1,hlen⟩ := (rep_list.1 (hm0.ow_rep 0 rfl)).len
  subst hv1
  refine gS (gR (gBx hm rfl λb0 w hm=>gE (gS (gR (gF er_C2 rfl (gL hm 0 isAgg42 rfl (gY (yV er_sB rfl) (gM rfl (gE ?_)))))))))
  refine gBk (gNf hm (λi _=>[(1,vf),(2,.pointer (some ⟨b0,0,none⟩)),(12,.int .i64 (c_.blocks.length : Int)),(13,.int .i64 i)]) (λ_ bl=>[ow (α := Shp (hp w0) (List Block_)) [.slice p0 c_.blocks.length c0] bl,blk b0 [.int .i64 c_.params,.int .i64 c_.regs,.slice p0 c_.blocks.length c0] 44]) [1,0] rfl ?_ ?_)
  · clear hm hm0
    intro _ _ i bl w hm hi1 hi2 q _
    refine gS (gR (gB rfl (gE (gS (go _ 14 rfl (decide_eq_true (by omega)) (gct rfl (gSk (gS ?_))))))))
    have hbl : bl.length = c_.blocks.length := rep_slice_len (sh_rep (hm.ow_rep 0 rfl))
    refine gBk (gS (gR (gM rfl (gA rfl (gE ?_)))))
    have hB0 : bl[i.toNat]? = some (bl[i.toNat]'(by omega)) := List.getElem?_eq_getElem _
    obtain ⟨bb,off,cc,he⟩ := idx_form' (sh_rep (hm.ow_rep 0 rfl)) hB0
    simp only [Value.slice.injEq,Option.some.injEq] at he
    obtain ⟨rfl,_,rfl⟩ := he
    refine gS (gR (gF er_C2 rfl (gL hm 1 isAgg42 rfl (gM rfl (gI er_sB hi1 (show i.toNat < c_.blocks.length by omega) rfl (gA rfl (gE ?_)))))))
    unfold er_blk
    refine gb λm hm1=>?_
    obtain ⟨B,hB,hm1⟩ := bnd hm1
    obtain rfl := Option.some.inj hm1
    obtain ⟨p1,n1,c1,p2,n2,c2,v3,hc,hr1,hr2,⟨e1,e2⟩,q1,q2⟩ := er_Bs hm (getI_some.1 hB).2
    subst e1
    refine gS (gS (gR (gM rfl (gY (yG rfl (y_nilptr rfl rfl)) (gF er_B0 rfl (gY (yl isAgg45 (hc.cell (j := 0) rfl) rfl) (gY (yV er_sP rfl) (gM rfl (gE ?_)))))))))
    refine gBk (gNf hm (λk _=>[(1,vf),(2,.pointer (some ⟨b0,0,none⟩)),(12,.int .i64 (c_.blocks.length : Int)),(13,.int .i64 i),(5,.pointer (some ⟨bb,off + i.toNat * 5,none⟩)),(24,.int .i64 (B.phis.length : Int)),(25,.int .i64 k)]) (λ_ bl=>[ow (α := Shp (hp w0) (List Block_)) [.slice (some ⟨bb,off,none⟩) c_.blocks.length c0] bl,blk b0 [.int .i64 c_.params,.int .i64 c_.regs,.slice (some ⟨bb,off,none⟩) c_.blocks.length c0] 44]) [0,1] rfl ?_ ?_)
    · clear hm hc hr1 hr2
      intro _ _ k bl1 w hm hk1 hk2 q _
      have hnn : ((B.phis.length : Nat) : Int) ≤ 140737488355328 := by omega
      refine gS (gR (gB rfl (gE (gS (go _ 26 rfl (decide_eq_true (by omega)) (gct rfl (gSk (gS ?_))))))))
      refine gBk (gS (gR (gM rfl (gA rfl (gE (gS ?_))))))
      unfold er_phi
      refine gb λbl2 hq=>?_
      obtain ⟨B1,P1,y,hB1,hP1,hy,rfl⟩ := er_PT_some hq
      obtain ⟨p1,n1,c1,p2,n2,c2,v3,hc,hr1,hr2,⟨e1,e2⟩,q1,q2⟩ := er_Bs hm hB1.2
      obtain ⟨b2,o2,c2',p3,n3,c3,he,hcp,hra,e3,q3⟩ := er_P hr1 hP1.2
      simp only [Value.slice.injEq] at he
      obtain ⟨rfl,rfl,rfl⟩ := he
      refine gR (gM rfl (gM rfl (gY (yG rfl (y_nilptr rfl rfl)) (gF er_B0 rfl (gY (yl isAgg45 (hc.cell (j := 0) rfl) rfl) (gM rfl (gI er_sP hk1 (idx_lt hP1.2) rfl (gF er_P0 rfl (er_call hm hv (er_inPs hB1.2 hc (er_phiT hP1.2 hcp)) hy rfl λv w hm=>?_)))))))))
      refine gE (gS ?_)
      clear hc hr1 hr2 hcp hra
      refine gb λm hq=>?_
      obtain ⟨B2,hB2,hq⟩ := bnd hq
      obtain ⟨P2,hP2,hq⟩ := bnd hq
      obtain rfl := Option.some.inj hq
      have hB2 := getI_some.1 hB2
      have hP2 := getI_some.1 hP2
      obtain ⟨p1,n1,c1,p2,n2,c2,v3,hc,hr1,hr2,⟨e1,e2⟩,q1,q2⟩ := er_Bs hm hB2.2
      obtain ⟨b2,o2,c2',p3,n3,c3,he,hcp,hra,e3,q3⟩ := er_P hr1 hP2.2
      simp only [Value.slice.injEq] at he
      obtain ⟨rfl,rfl,rfl⟩ := he
      subst e3
      refine gR (gM rfl (gY (yG rfl (y_nilptr rfl rfl)) (gF er_B0 rfl (gY (yl isAgg45 (hc.cell (j := 0) rfl) rfl) (gM rfl (gI er_sP hk1 (idx_lt hP2.2) rfl (gF er_P1 rfl (gY (yl isAgg47 (hcp.cell (j := 1) rfl) rfl) (gY (yV er_sN rfl) (gM rfl (gE ?_)))))))))))
      refine gBk (gNf hm (λj _=>[(1,vf),(2,.pointer (some ⟨b0,0,none⟩)),(12,.int .i64 (c_.blocks.length : Int)),(13,.int .i64 i),(5,.pointer (some ⟨bb,off + i.toNat * 5,none⟩)),(24,.int .i64 (B.phis.length : Int)),(25,.int .i64 k),(6,.int .i64 k),(45,.int .i64 (P2.args.length : Int)),(46,.int .i64 j)]) (λ_ bl=>[ow (α := Shp (hp w0) (List Block_)) [.slice (some ⟨bb,off,none⟩) c_.blocks.length c0] bl,blk b0 [.int .i64 c_.params,.int .i64 c_.regs,.slice (some ⟨bb,off,none⟩) c_.blocks.length c0] 44]) [0,1] rfl ?_ ?_)
      · clear hm hc hr1 hr2 hcp hra
        intro _ _ j bl3 w hm hj1 hj2 q _
        refine gS (gR (gB rfl (gE (gS (go _ 47 rfl (decide_eq_true (by omega)) (gct rfl (gSk (gS ?_))))))))
        refine gBk (gS (gR (gM rfl (gA rfl (gE ?_)))))
        refine gb λbl4 hq=>?_
        obtain ⟨B3,P3,nn,y,hB3,hP3,hn3,hy,rfl⟩ := er_PA_some hq
        obtain ⟨p1,n1,c1,p2,n2,c2,v3,hc,hr1,hr2,⟨e1,e2⟩,q1,q2⟩ := er_Bs hm hB3.2
        obtain ⟨b2,o2,c2',p3,n3,c3,he,hcp,hra,e3,q3⟩ := er_P hr1 hP3.2
        simp only [Value.slice.injEq] at he
        obtain ⟨rfl,rfl,rfl⟩ := he
        obtain ⟨b3,o3,c3',he,hcn⟩ := er_N hra hn3.2
        simp only [Value.slice.injEq] at he
        obtain ⟨rfl,rfl,rfl⟩ := he
        refine gR (gM rfl (gM rfl (gY (yG rfl (y_nilptr rfl rfl)) (gF er_B0 rfl (gY (yl isAgg45 (hc.cell (j := 0) rfl) rfl) (gM rfl (gI er_sP hk1 (idx_lt hP3.2) rfl (gF er_P1 rfl (gY (yl isAgg47 (hcp.cell (j := 1) rfl) rfl) (gM rfl (gI er_sN hj1 (idx_lt hn3.2) rfl (er_call hm hv (er_inPs hB3.2 hc (er_phiA hP3.2 hcp hn3.2 hcn)) hy rfl λv w hm=>?_))))))))))))
        exact gE (gR (gP (by omega) (by omega) rfl (gM rfl (gE (gze hm [0,1] rfl)))))
      · clear hm hc hr1 hr2 hcp hra
        intro j bl3 w hm hj1 hj2
        refine gS (gR (gB rfl (gE (gS (go _ 47 rfl (decide_eq_false (by omega)) (gcf rfl (gXt (gHh ?_))))))))
        exact gR (gP (by omega) (by omega) rfl (gM rfl (gE (gze hm [0,1] rfl))))
    · clear hm hc hr1 hr2
      intro k bl1 w hm hk1 hk2
      refine gS (gR (gB rfl (gE (gS (go _ 26 rfl (decide_eq_false (by omega)) (gcf rfl (gXt (gHh (gS (gS ?_))))))))))
      refine gb λm hm2=>?_
      obtain ⟨B,hB,hm2⟩ := bnd hm2
      obtain rfl := Option.some.inj hm2
      obtain ⟨p1,n1,c1,p2,n2,c2,v3,hc,hr1,hr2,⟨e1,e2⟩,q1,q2⟩ := er_Bs hm (getI_some.1 hB).2
      subst e2
      refine gR (gM rfl (gY (yG rfl (y_nilptr rfl rfl)) (gF er_B1 rfl (gY (yl isAgg46 (hc.cell (j := 1) rfl) rfl) (gY (yV er_sI rfl) (gM rfl (gE ?_)))))))
      refine gBk (gNf hm (λk _=>[(1,vf),(2,.pointer (some ⟨b0,0,none⟩)),(12,.int .i64 (c_.blocks.length : Int)),(13,.int .i64 i),(5,.pointer (some ⟨bb,off + i.toNat * 5,none⟩)),(67,.int .i64 (B.ins.length : Int)),(68,.int .i64 k)]) (λ_ bl=>[ow (α := Shp (hp w0) (List Block_)) [.slice (some ⟨bb,off,none⟩) c_.blocks.length c0] bl,blk b0 [.int .i64 c_.params,.int .i64 c_.regs,.slice (some ⟨bb,off,none⟩) c_.blocks.length c0] 44]) [0,1] rfl ?_ ?_)
      · clear hm hc hr1 hr2
        intro _ _ k bl1 w hm hk1 hk2 q _
        refine gS (gR (gB rfl (gE (gS (go _ 69 rfl (decide_eq_true (by omega)) (gct rfl (gSk (gS ?_))))))))
        refine gBk (gS (gR (gM rfl (gA rfl (gE (gS ?_))))))
        unfold er_ins
        refine gJ hm (λ_=>[(1,vf),(2,.pointer (some ⟨b0,0,none⟩)),(12,.int .i64 (c_.blocks.length : Int)),(13,.int .i64 i),(5,.pointer (some ⟨bb,off + i.toNat * 5,none⟩)),(67,.int .i64 (B.ins.length : Int)),(68,.int .i64 k),(8,.int .i64 k)]) (λbl=>[ow (α := Shp (hp w0) (List Block_)) [.slice (some ⟨bb,off,none⟩) c_.blocks.length c0] bl,blk b0 [.int .i64 c_.params,.int .i64 c_.regs,.slice (some ⟨bb,off,none⟩) c_.blocks.length c0] 44]) (λz=>?_) λbl2 w hm=>?_
        · refine gb fun u hu => ?_
          obtain ⟨B1,hB1,hu⟩ := bnd hu
          obtain ⟨P1,hP1,hu⟩ := bnd hu
          have hB1 := getI_some.1 hB1
          have hP1 := getI_some.1 hP1
          obtain ⟨p1,n1,c1,p2,n2,c2,v3,hc,hr1,hr2,⟨e1,e2⟩,_,_⟩ := er_Bs hm hB1.2
          obtain ⟨b2,o2,c2',p3,n3,c3,he,hcp,hra,e3,_⟩ := er_I hr2 hP1.2
          simp only [Value.slice.injEq] at he
          obtain ⟨rfl,rfl,rfl⟩ := he
          refine gS (gR (gM rfl (gY (yG rfl (y_nilptr rfl rfl)) (gF er_B1 rfl (gY (yl isAgg46 (hc.cell (j := 1) rfl) rfl) (gM rfl (gI er_sI hk1 (idx_lt hP1.2) rfl (gF er_I0 rfl (gY (yl isAgg3 (hcp.cell (j := 0) rfl) rfl) (gf rfl (λa hf=>e_call hf rfl call92 rfl (impl_sets_ok _ _ u hu)) ?_))))))))))
          rintro v w ⟨rfl,hBe⟩
          replace hm := hm.below' hBe
          clear hBe hc hr1 hr2 hcp hra
          refine gE (gs 79 rfl (λ_=>?_) λ_=>gcf rfl (gSk (gz hm [0,1] rfl)))
          refine gin λhq=>?_
          obtain ⟨B2,P2,y,hB2,hP2,hy,rfl⟩ := er_IT_some hq
          obtain ⟨p1,n1,c1,p2,n2,c2,v3,hc,hr1,hr2,⟨e1,e2⟩,_,_⟩ := er_Bs hm hB2.2
          obtain ⟨b2,o2,c2',p3,n3,c3,he,hcp,hra,e3,_⟩ := er_I hr2 hP2.2
          simp only [Value.slice.injEq] at he
          obtain ⟨rfl,rfl,rfl⟩ := he
          exact gct rfl (gR (gM rfl (gM rfl (gY (yG rfl (y_nilptr rfl rfl)) (gF er_B1 rfl (gY (yl isAgg46 (hc.cell (j := 1) rfl) rfl) (gM rfl (gI er_sI hk1 (idx_lt hP2.2) rfl (gF er_I1 rfl (er_call hm hv (er_inIs hB2.2 hc (er_insT hP2.2 hcp)) hy rfl λv w hm=>gE (gz hm [0,1] rfl)))))))))))
        · refine gb fun m hq => ?_
          obtain ⟨B2,hB2,hq⟩ := bnd hq
          obtain ⟨P2,hP2,hq⟩ := bnd hq
          obtain rfl := Option.some.inj hq
          have hB2 := getI_some.1 hB2
          have hP2 := getI_some.1 hP2
          obtain ⟨p1,n1,c1,p2,n2,c2,v3,hc,hr1,hr2,⟨e1,e2⟩,_,_⟩ := er_Bs hm hB2.2
          obtain ⟨b2,o2,c2',p3,n3,c3,he,hcp,hra,e3,q3⟩ := er_I hr2 hP2.2
          simp only [Value.slice.injEq] at he
          obtain ⟨rfl,rfl,rfl⟩ := he
          subst e3
          refine gS (gR (gM rfl (gY (yG rfl (y_nilptr rfl rfl)) (gF er_B1 rfl (gY (yl isAgg46 (hc.cell (j := 1) rfl) rfl) (gM rfl (gI er_sI hk1 (idx_lt hP2.2) rfl (gF er_I2 rfl (gY (yl isAgg47 (hcp.cell (j := 2) rfl) rfl) (gY (yV er_sN rfl) (gM rfl (gE ?_))))))))))))
          refine gBk (gNf hm (λj _=>[(1,vf),(2,.pointer (some ⟨b0,0,none⟩)),(12,.int .i64 (c_.blocks.length : Int)),(13,.int .i64 i),(5,.pointer (some ⟨bb,off + i.toNat * 5,none⟩)),(67,.int .i64 (B.ins.length : Int)),(68,.int .i64 k),(8,.int .i64 k),(97,.int .i64 (P2.args.length : Int)),(98,.int .i64 j)]) (λ_ bl=>[ow (α := Shp (hp w0) (List Block_)) [.slice (some ⟨bb,off,none⟩) c_.blocks.length c0] bl,blk b0 [.int .i64 c_.params,.int .i64 c_.regs,.slice (some ⟨bb,off,none⟩) c_.blocks.length c0] 44]) [0,1] rfl ?_ ?_)
          · clear hm hc hr1 hr2 hcp hra
            intro _ _ j bl3 w hm hj1 hj2 q _
            refine gS (gR (gB rfl (gE (gS (go _ 99 rfl (decide_eq_true (by omega)) (gct rfl (gSk (gS ?_))))))))
            refine gBk (gS (gR (gM rfl (gA rfl (gE ?_)))))
            refine gb λbl4 hq=>?_
            obtain ⟨B3,P3,nn,y,hB3,hP3,hn3,hy,rfl⟩ := er_IA_some hq
            obtain ⟨p1,n1,c1,p2,n2,c2,v3,hc,hr1,hr2,⟨e1,e2⟩,_,_⟩ := er_Bs hm hB3.2
            obtain ⟨b2,o2,c2',p3,n3,c3,he,hcp,hra,e3,_⟩ := er_I hr2 hP3.2
            simp only [Value.slice.injEq] at he
            obtain ⟨rfl,rfl,rfl⟩ := he
            obtain ⟨b3,o3,c3',he,hcn⟩ := er_N hra hn3.2
            simp only [Value.slice.injEq] at he
            obtain ⟨rfl,rfl,rfl⟩ := he
            refine gR (gM rfl (gM rfl (gY (yG rfl (y_nilptr rfl rfl)) (gF er_B1 rfl (gY (yl isAgg46 (hc.cell (j := 1) rfl) rfl) (gM rfl (gI er_sI hk1 (idx_lt hP3.2) rfl (gF er_I2 rfl (gY (yl isAgg47 (hcp.cell (j := 2) rfl) rfl) (gM rfl (gI er_sN hj1 (idx_lt hn3.2) rfl (er_call hm hv (er_inIs hB3.2 hc (er_insA hP3.2 hcp hn3.2 hcn)) hy rfl λv w hm=>?_))))))))))))
            exact gE (gR (gP (by omega) (by omega) rfl (gM rfl (gE (gze hm [0,1] rfl)))))
          · clear hm hc hr1 hr2 hcp hra
            intro j bl3 w hm hj1 hj2
            refine gS (gR (gB rfl (gE (gS (go _ 99 rfl (decide_eq_false (by omega)) (gcf rfl (gXt (gHh ?_))))))))
            exact gR (gP (by omega) (by omega) rfl (gM rfl (gE (gze hm [0,1] rfl))))
      · clear hm hc hr1 hr2
        intro k bl1 w hm hk1 hk2
        refine gS (gR (gB rfl (gE (gS (go _ 69 rfl (decide_eq_false (by omega)) (gcf rfl (gXt (gHh ?_))))))))
        refine gJ hm (λ_=>[(1,vf),(2,.pointer (some ⟨b0,0,none⟩)),(12,.int .i64 (c_.blocks.length : Int)),(13,.int .i64 i)]) (λbl=>[ow (α := Shp (hp w0) (List Block_)) [.slice (some ⟨bb,off,none⟩) c_.blocks.length c0] bl,blk b0 [.int .i64 c_.params,.int .i64 c_.regs,.slice (some ⟨bb,off,none⟩) c_.blocks.length c0] 44]) (λz=>?_) λbl2 w hm=>?_
        · refine gb fun u hu => ?_
          obtain ⟨B1,hB1,hu⟩ := bnd hu
          have hB1 := getI_some.1 hB1
          obtain ⟨p1,n1,c1,p2,n2,c2,v3,hc,hr1,hr2,⟨e1,e2⟩,_,_⟩ := er_Bs hm hB1.2
          refine gS (gR (gM rfl (gY (yG rfl (y_nilptr rfl rfl)) (gF er_B2 rfl (gY (yl isAgg3 (hc.cell (j := 2) rfl) rfl) (gf rfl (λa hf=>e_call hf rfl call93 rfl (impl_usesOn_ok _ _ u hu)) ?_))))))
          rintro v w ⟨rfl,hBe⟩
          replace hm := hm.below' hBe
          clear hBe hc hr1 hr2
          refine gE (gs 119 rfl (λ_=>?_) λ_=>gcf rfl (gSk (gz hm [0,1] rfl)))
          refine gin λhq=>?_
          obtain ⟨B2,hB2,hq⟩ := bnd hq
          obtain ⟨y,hy,hq⟩ := bnd hq
          obtain rfl := Option.some.inj hq
          have hB2 := getI_some.1 hB2
          obtain ⟨p1,n1,c1,p2,n2,c2,v3,hc,hr1,hr2,⟨e1,e2⟩,_,_⟩ := er_Bs hm hB2.2
          exact gct rfl (gR (gM rfl (gM rfl (gY (yG rfl (y_nilptr rfl rfl)) (gF er_B3 rfl (er_call hm hv (er_ons hB2.2 hc) hy rfl λv w hm=>gE (gz hm [0,1] rfl)))))))
        · exact gR (gP (by omega) (by omega) rfl (gM rfl (gE (gze hm [0,1] rfl))))
  · clear hm hm0
    intro i bl w hm hi1 hi2
    exact gS (gR (gB rfl (gE (gS (go _ 14 rfl (decide_eq_false (by omega)) (gcf rfl (gXt (gHh (gre rfl ⟨rfl,hm.pk [0] rfl rfl⟩)))))))))
theorem impl_inlined_2_ok (w0 : World) (p_ : Int) (c0_ : MapS Int) (v1 : Value) (h1 : GT.rep (hp w0) [v1] c0_) (bf0 : Nat) (hbf0 : w0.heap[bf0]? = some (.cells ([v1] : List Value).toArray 100 (0, 0))) :
    ConM Tryz.prog 62 [nV p_,(pV bf0)] w0 (impl_inlined_2 p_ c0_) λr v w'=>v = (nV r) ∧ Below w0.heap.size w0 w' := by
  unfold impl_inlined_2
  refine gcon func62 rfl λr=>?_
  have hm := Mem.start w0
  exact gS (gR (gA rfl (gE (gS (gR (gY (yl isAgg100 (hm.old_cell hbf0 rfl) rfl) (gM rfl (gY (yG rfl (y_lookI (key := p_) (m := (c0_ : MapS Int)) underlying3 underlying100 zeroValue3 (hm.now h1) rfl rfl rfl)) (gA rfl (gE (gRt (gr1 results62 rfl ⟨rfl,hm.below⟩))))))))))))
theorem impl_mapped_int_int_ok (w0 : World) (list : List Int) (v1 : Value) (h1 : GT.rep (hp w0) [v1] list) (f : Int → Option Int) (fv1 : Value) (hfn1 : ∀ (w : World) (y0 : Int) (r : Int), Below w0.heap.size w0 w → f y0 = some r → FnOk Tryz.prog fv1 [nV y0] w (fun v w' => v = (nV r) ∧ Below w.heap.size w w')) :
    ConM Tryz.prog 61 [v1,fv1] w0 (impl_mapped_int_int list f) λr v w'=>∃ (x1 : Value),v = x1 ∧ Mem w0 (hp w0) w' [ow [x1] r] := by
  unfold impl_mapped_int_int
  refine gcon func61 rfl λr=>?_
  have hm := Mem.start w0
  refine gS (gR (gA rfl (gE (gS (gR (gA rfl (gE (gS (gS (gR (gM rfl ?_)))))))))))
  obtain ⟨aH,aJ,rfl,aS⟩ := ro_slice h1
  refine gY (yV st_47 rfl) (gM rfl (gE (gBk ?_)))
  replace hm := hm.nilow (α := Int)
  refine gNg (λaE aF a w=>∃ (aA : Value),St 22 [(1,fv1),(5,aA),(8,(.slice aH list.length aJ)),(9,(nV ((list.length : Int)))),(10,(nV aE))] w0 (hp w0) [ow [aA] aF] a w) (λa hf=>⟨.slice none 0 0,hf.sb rfl,hm.pk [0] rfl rfl⟩) ?_ ?_
  ·repeat clear hm
   rintro _ _ aE aF a w ⟨aA,hf,hm⟩ aT aV aW _
   refine gv hf (gS (gR (gB rfl (gE (gS (go _ 11 rfl (decide_eq_true (by omega)) (gct rfl (gSk (gS (gBk (gS (gR (gg λaG aL aC=>?_)))))))))))))
   obtain ⟨aX,aY,aZ,he⟩ := idx_form h1 aC
   obtain ⟨rfl,_,rfl⟩ := sl3 he
   refine gI st_47 aL (idx_lt aC) rfl (gY (yl isAgg3 ((flat_cells (cs := [nV aG]) (hm.now h1) aC rfl).cell (j := 0) rfl) rfl) (gA rfl (gE (gR (gM rfl (gM rfl (gM rfl (gb λaD aM=>gf rfl (λa hf=>e_callv hf rfl rfl rfl (hfn1 _ aG _ hm.below aM)) ?_))))))))
   rintro aa w ⟨rfl,hB⟩
   replace hm := hm.below' hB; clear hB
   refine gf rfl (λa hf=>e_build (vs := #[(0,(nV aD))]) (cs := [nV aD]) et_47 hf hm rfl rfl (by kernel_rfl) rfl rfl) ?_
   rintro _ w ⟨ab,rfl,hm⟩
   replace hm := hm.lit (xs := ([aD] : List Int)) 0 rfl rfl rfl rfl
   refine gb λac aN=>?_
   obtain ⟨aO,aP⟩ := appM_some.1 aN
   refine gf rfl (λa hf=>e_append 1 et_47 hf hm rfl (hm.ow_rep 0 rfl) rfl rfl rfl aO) ?_
   rintro aQ w hm
   rw [aP] at hm
   exact gA rfl (gE (gR (gP (by omega) (by omega) rfl (gM rfl (gE (gZe λa hf=>⟨aQ,hf.sb rfl,hm.pk [1] rfl rfl⟩))))))
  repeat clear hm
  rintro ae af a w ⟨aR,hf,hm⟩ ah ai
  exact gv hf (gS (gR (gB rfl (gE (gS (go _ 11 rfl (decide_eq_false (by omega)) (gcf rfl (gXt (gHh (gS (gR (gM rfl (gA rfl (gE (gRt (gr1 results61 rfl ⟨aR,rfl,hm.pk [0] rfl rfl⟩))))))))))))))))
theorem impl_inlined_ok (w0 : World) (c_ : Code_) (v1 : Value) (h1 : GT.rep (hp w0) [v1] c_.blocks) (f : Code_) (v2 : Value) (h2 : GT.rep (hp w0) [v2] f.blocks) (b_ : Int) (i_ : Int) :
    ConM Tryz.prog 27 [(.agg #[nV c_.params,nV c_.regs,v1]),(.agg #[nV f.params,nV f.regs,v2]),nV b_,nV i_] w0 (impl_inlined c_ f b_ i_) λr v w'=>∃ (x1 : Value),v = (.agg #[nV r.params,nV r.regs,x1]) ∧ Mem w0 (hp w0) w' [ow [x1] r.blocks] := by
  unfold impl_inlined
  refine gcon func27 rfl λr=>?_
  have hm := Mem.start w0
  refine gS (gR (gBx hm rfl λbz w hm=>gBx hm rfl λaa w hm=>gAl hm zeroValue44 rfl λaN w hm=>gE (gS (gR (gY (yn (hm.blk_at 2 rfl) isAgg44 sizeOf44 rfl) (gCg rfl call51 (impl_cloneCode_ok _ c_ v1 (hm.now h1)) ?_))))))
  rintro aD iK iL w ⟨iM,rfl,hB⟩
  replace hm := hm.give hB; clear hB
  refine gAl hm zeroValue44 rfl λaO w hm=>gSN hm 0 sizeOf44 (one_cons rfl (one_cons rfl (one_cons (rep_one (hm.ow_rep 1 rfl)) one_nil))) rfl λw hm=>gE (gS (gR (gF fo_44_2 rfl (gL hm 0 isAgg42 rfl (gM rfl (gg λaA eU cb=>?_))))))
  obtain ⟨aT,aV,aW,he⟩ := idx_form' (hm.ow_rep 1 rfl) cb
  subst he
  obtain ⟨iN,iO,iP,iQ,iR,iS,iT⟩ := rk_Block_ (hm.ow_rep 1 rfl) cb
  refine gI st_42 eU (idx_lt cb) rfl (gF fo_49_1 rfl ?_)
  obtain ⟨aY,iU,bL,hm⟩ := pin_Block_ hm 1 rfl cb
  have iV : (b_).toNat < aD.blocks.length := (idx_lt cb)
  refine gY (yl isAgg46 ((hm.holeE_at 4 rfl).cell (j := 1) rfl) rfl) (gM rfl (gg λaC dr cq=>?_))
  obtain ⟨bO,bP,bQ,he⟩ := idx_form' (hm.ow_rep 1 rfl) cq
  subst he
  obtain ⟨iW,iX,iY⟩ := rk_Ins_ (hm.ow_rep 1 rfl) cq
  refine gI st_46 dr (idx_lt cq) rfl ?_
  obtain ⟨bM,hm⟩ := pin_Ins_ hm 1 rfl cq
  have iZ : (i_).toNat < aA.ins.length := (idx_lt cq)
  refine gY (yn (hm.holeE_at 2 rfl) isAgg51 sizeOf51 rfl) (gAl hm zeroValue51 rfl λab w hm=>gSN hm 0 sizeOf51 (one_cons rfl (one_cons rfl (one_cons (rep_one (hm.ow_rep 1 rfl)) (one_cons rfl one_nil)))) rfl λw hm=>gE (gS ?_))
  replace hm : Mem w0 (hp w0) _ [blk ab [nV aC.op,nV aC.to,bM,nV aC.n_] 51,ow [bM] aC.args,ow [bL] aA.next_,holeE bO bP aA.ins.length bQ (aA.ins : List Ins_) (i_).toNat [nV aC.op,nV aC.to,bM,nV aC.n_],ow [aY] aA.phis,blk aO [nV aD.params,nV aD.regs,sV aT aV aD.blocks.length aW] 44,holeE aT aV aD.blocks.length aW (aD.blocks : List Block_) (b_).toNat [aY,sV bO bP aA.ins.length bQ,nV aA.jump,nV aA.on,bL],blk aN [nV 0,nV 0,.slice none 0 0] 44,blk aa [nV f.params,nV f.regs,v2] 44,blk bz [nV c_.params,nV c_.regs,v1] 44] := hm
  refine gW (.p 0 (.p 2 (.q 1 (.q 3 (.p 4 (.e 5 (.e 6 (.p 7 .fin) .nil) .nil)))))) [1,3,5,6] [0,2,4,7] hm [0,1,2,3,4,5,6,7,8,9] [blk ab [nV aC.op,nV aC.to,bM,nV aC.n_] 51,ow [bM] aC.args,ow [bL] aA.next_,holeE bO bP aA.ins.length bQ (aA.ins : List Ins_) (i_).toNat [nV aC.op,nV aC.to,bM,nV aC.n_],ow [aY] aA.phis,blk aO [nV aD.params,nV aD.regs,sV aT aV aD.blocks.length aW] 44,holeE aT aV aD.blocks.length aW (aD.blocks : List Block_) (b_).toNat [aY,sV bO bP aA.ins.length bQ,nV aA.jump,nV aA.on,bL],blk aN [nV 0,nV 0,.slice none 0 0] 44,blk aa [nV f.params,nV f.regs,v2] 44,blk bz [nV c_.params,nV c_.regs,v1] 44] rfl mxo (by kernel_rfl) (λ_ _ _ h=>h.2) λw hm hS=>tP rfl (λw=>yF fo_44_1 rfl) (tP rfl (λw=>yF fo_44_2 rfl) (tQ rfl hS (λw hm=>yL hm 9 isAgg3 rfl) (tQ rfl hS (λw hm=>yL hm 9 isAgg42 rfl) ?_)))
  obtain ⟨cK,cL,rfl,i4⟩ := ro_slice h1
  refine tP rfl (λw=>yV st_42 rfl) (tO (tf rfl rfl (λa hf=>e_alloc hm zeroValue3 rfl rfl) ?_))
  rintro _ w ⟨aZ,rfl,hm⟩
  refine tAk hm [1,2,3,4,5,6,7,8,9,10] rfl λhS=>tO (tf0 rfl rfl (λa hf=>e_store1 0 hf hm rfl sizeOf3 rfl rfl rfl rfl rfl) ?_)
  rintro _ w hm
  refine tAk hm [1,2,3,4,5,6,7,8,9,10] rfl λhS=>tP rfl (λw=>yA rfl) (tE (gS (gR (gM rfl (gF fo_44_2 rfl (gL hm 9 isAgg42 rfl ?_))))))
  obtain ⟨am,ae,rfl,i5⟩ := ro_slice h2
  refine gY (yV st_42 rfl) (gP (by omega) (by omega) rfl (gA rfl (gE (gS (gR (gY (yn (hm.blk_at 10 rfl) isAgg44 sizeOf44 rfl) (gCg rfl call52 (impl_phisOf_ok _ c_ (.slice cK c_.blocks.length cL) (hm.now h1)) ?_)))))))
  rintro aG i6 bs w ⟨_,rfl,hB⟩
  replace hm := hm.give hB; clear hB
  refine gA rfl (gE (gS (gR (gF fo_44_1 rfl (gL hm 7 isAgg3 rfl (gF fo_44_1 rfl (gL hm 10 isAgg3 rfl (gB rfl (gF fo_44_1 rfl (gS1 hm 7 sizeOf3 rfl rfl λw hm=>gE (gS (gR (gF fo_44_2 rfl (gL hm 7 isAgg42 rfl (gM rfl ?_)))))))))))))))
  have hL0_1 := hm.holeE_len 8 rfl
  refine gI st_42 eU (idx_lt2 cb hL0_1) rfl (gA rfl (gE (gS ?_)))
  have fI := (List.getElem?_eq_some_iff.1 cq).1
  replace hm : Mem w0 (hp w0) _ [ow [bs] aG,blk aZ [nV c_.regs] 3,blk ab [nV aC.op,nV aC.to,bM,nV aC.n_] 51,ow [bM] aC.args,ow [bL] aA.next_,gap bO bP aA.ins.length bQ (List.take (i_).toNat aA.ins : List Ins_) (List.drop (i_ + 1).toNat aA.ins : List Ins_),ow [aY] aA.phis,blk aO [nV aD.params,nV (w64 (aD.regs + f.regs)),sV aT aV aD.blocks.length aW] 44,holeE aT aV aD.blocks.length aW (aD.blocks : List Block_) (b_).toNat [aY,sV bO bP aA.ins.length bQ,nV aA.jump,nV aA.on,bL],blk aN [nV 0,nV 0,.slice none 0 0] 44,blk aa [nV f.params,nV f.regs,.slice am f.blocks.length ae] 44,blk bz [nV c_.params,nV c_.regs,.slice cK c_.blocks.length cL] 44] := hm.hole_gap (j := (i_ + 1).toNat) 5 rfl (by have := dr; omega)
  obtain ⟨eV,hgl0_1m⟩ := hm.gap_max 5 rfl
  refine gJg (λaF a w=>∃ (ac : Nat) (cA : Value),St 306 [(2,(nV b_)),(3,(nV i_)),(5,(pV aa)),(8,(pV aN)),(9,(pV aO)),(10,(pV ab)),(11,(pV aZ)),(12,(nV ((c_.blocks.length : Int)))),(13,(nV (((c_.blocks.length : Int)) + ((f.blocks.length : Int))))),(14,bs),(15,(.pointer (some ⟨aT,aV + (b_).toNat * 5,none⟩))),(16,(pV ac))] w0 (hp w0) [blk aa [nV f.params,nV f.regs,.slice am f.blocks.length ae] 44,blk aN [nV 0,nV 0,.slice none 0 0] 44,blk aO [nV aD.params,nV (w64 (aD.regs + f.regs)),sV aT aV aD.blocks.length aW] 44,holeE aT aV aD.blocks.length aW (aD.blocks : List Block_) (b_).toNat [aY,sV bO bP aA.ins.length bQ,nV aA.jump,nV aA.on,bL],ow [aY] aA.phis,gap bO bP aA.ins.length bQ (List.take (i_).toNat aA.ins : List Ins_) ([] : List Ins_),ow [bL] aA.next_,blk ab [nV aC.op,nV aC.to,bM,nV aC.n_] 51,ow [bM] aC.args,blk aZ [nV c_.regs] 3,ow [bs] aG,blk ac [.slice none 0 0,cA,nV aA.jump,nV aA.on,bL] 49,ow [cA] aF] a w) (λaF=>?_) ?_
  ·replace hm : Mem w0 (hp w0) _ [ow [bs] aG, blk aZ [nV c_.regs] 3, blk ab [nV aC.op, nV aC.to, bM, nV aC.n_] 51, ow [bM] aC.args, ow [bL] aA.next_, gap bO bP aA.ins.length bQ (List.take (i_).toNat aA.ins : List Ins_) (List.drop (i_ + 1).toNat aA.ins : List Ins_), ow [aY] aA.phis, blk aO [nV aD.params, nV (w64 (aD.regs + f.regs)), sV aT aV aD.blocks.length aW] 44, holeE aT aV aD.blocks.length aW (aD.blocks : List Block_) (b_).toNat [aY, sV bO bP aA.ins.length bQ, nV aA.jump, nV aA.on, bL], blk aN [nV 0, nV 0, .slice none 0 0] 44, blk aa [nV f.params, nV f.regs, .slice am f.blocks.length ae] 44, blk bz [nV c_.params, nV c_.regs, .slice cK c_.blocks.length cL] 44] := hm
   refine gW (.p 0 (.p 1 (.p 2 (.p 4 (.p 5 (.p 8 (.p 9 (.p 10 (.p 12 (.p 13 (.p 14 (.p 16 (.p 17 (.p 18 (.q 3 (.p 6 (.q 11 (.q 15 (.q 19 (.e 7 (.p 20 (.e 21 (.e 22 .fin .nil) .nil)) (.e 21 (.e 7 (.p 20 (.e 22 .fin .nil)) .nil) .nil))))))))))))))))))))) [3,7,11,15,19,21] [0,1,2,4,5,6,8,9,10,12,13,14,16,17,18,20] hm [0,1,2,3,4,6,7,8,9,10,11] [ow [bs] aG,blk aZ [nV c_.regs] 3,blk ab [nV aC.op,nV aC.to,bM,nV aC.n_] 51,ow [bM] aC.args,ow [bL] aA.next_,ow [aY] aA.phis,blk aO [nV aD.params,nV (w64 (aD.regs + f.regs)),sV aT aV aD.blocks.length aW] 44,holeE aT aV aD.blocks.length aW (aD.blocks : List Block_) (b_).toNat [aY,sV bO bP aA.ins.length bQ,nV aA.jump,nV aA.on,bL],blk aN [nV 0,nV 0,.slice none 0 0] 44,blk aa [nV f.params,nV f.regs,.slice am f.blocks.length ae] 44,blk bz [nV c_.params,nV c_.regs,.slice cK c_.blocks.length cL] 44] rfl mxo (by kernel_rfl) (λ_ _ _ h=>h.2) λw hm hS=>tP rfl (λw=>yM rfl) (tP rfl (λw=>yG rfl (y_nilptr rfl rfl)) (tP rfl (λw=>yF fo_49_1 rfl) (tP rfl (λw=>yM rfl) (tP rfl (λw=>yB rfl) (tP rfl (λw=>yM rfl) (tP rfl (λw=>yG rfl (y_nilptr rfl rfl)) (tP rfl (λw=>yF fo_49_2 rfl) (tP rfl (λw=>yM rfl) (tP rfl (λw=>yG rfl (y_nilptr rfl rfl)) (tP rfl (λw=>yF fo_49_3 rfl) (tP rfl (λw=>yM rfl) (tP rfl (λw=>yG rfl (y_nilptr rfl rfl)) (tP rfl (λw=>yF fo_49_4 rfl) (tQ rfl hS (λw hm=>yl isAgg46 ((hm.holeE_at 7 rfl).cell (j := 1) rfl) rfl) (gb λdG fJ=>?_)))))))))))))))
   obtain ⟨i7,dt⟩ := subM_some.1 fJ
   have dH : w64 (i_ + 1) = i_ + 1 := w64_id (by omega) (by omega)
   obtain ⟨i8,du⟩ : ∃ nv,nv = subV (GT.sz (Ins_)) (sV bO bP aA.ins.length bQ) (aA.ins.length - dG.length) aA.ins.length := ⟨_,rfl⟩
   refine tP rfl (λw=>yG rfl (yl_eq du (y_subLI (α := Ins_) st_46 rfl rfl rfl (by rw [dH]; omega) (by rw [dH]; omega) eV.2 (by rw [← dt,dH]; simp only [List.length_drop,List.length_take]; omega)))) (tQ rfl hS (λw hm=>yl isAgg3 ((hm.holeE_at 7 rfl).cell (j := 2) rfl) rfl) (tQ rfl hS (λw hm=>yl isAgg3 ((hm.holeE_at 7 rfl).cell (j := 3) rfl) rfl) (tQ rfl hS (λw hm=>yl isAgg47 ((hm.holeE_at 7 rfl).cell (j := 4) rfl) rfl) (gb λcM eW=>tMo ?_ ?_))))
   ·replace hm := hm.imp (c' := gap bO bP aA.ins.length bQ (List.take (i_).toNat aA.ins : List Ins_) (dG : List Ins_)) 5 rfl (fun F h0 => by rw [← dt, dH, show (List.take (aA.ins.length : Int).toNat aA.ins) = aA.ins from List.take_length]; exact h0)
    obtain ⟨fK,hle,hm1,hsub,fL⟩ := hm.take2 (L1 := [gap bO bP aA.ins.length bQ (List.take (i_).toNat aA.ins : List Ins_) (dG : List Ins_)]) (L2 := [ow [bs] aG,blk aZ [nV c_.regs] 3,blk ab [nV aC.op,nV aC.to,bM,nV aC.n_] 51,ow [bM] aC.args,ow [bL] aA.next_,ow [aY] aA.phis,blk aO [nV aD.params,nV (w64 (aD.regs + f.regs)),sV aT aV aD.blocks.length aW] 44,holeE aT aV aD.blocks.length aW (aD.blocks : List Block_) (b_).toNat [aY,sV bO bP aA.ins.length bQ,nV aA.jump,nV aA.on,bL],blk aN [nV 0,nV 0,.slice none 0 0] 44,blk aa [nV f.params,nV f.regs,.slice am f.blocks.length ae] 44,blk bz [nV c_.params,nV c_.regs,.slice cK c_.blocks.length cL] 44]) [5] [0,1,2,3,4,6,7,8,9,10,11] (by decide) rfl rfl
    refine tf rfl rfl (λa hf=>e_call hf rfl call53 rfl (slices_Clone_S_impl_Ins_impl_Ins_ok _ fK hm1 du _ eW)) ?_
    rintro fM w eX
    replace hm : Mem w0 (hp w0) _ [ow [fM] cM,gap bO bP aA.ins.length bQ (List.take (i_).toNat aA.ins : List Ins_) ([] : List Ins_),ow [bs] aG,blk aZ [nV c_.regs] 3,blk ab [nV aC.op,nV aC.to,bM,nV aC.n_] 51,ow [bM] aC.args,ow [bL] aA.next_,ow [aY] aA.phis,blk aO [nV aD.params,nV (w64 (aD.regs + f.regs)),sV aT aV aD.blocks.length aW] 44,holeE aT aV aD.blocks.length aW (aD.blocks : List Block_) (b_).toNat [aY,sV bO bP aA.ins.length bQ,nV aA.jump,nV aA.on,bL],blk aN [nV 0,nV 0,.slice none 0 0] 44,blk aa [nV f.params,nV f.regs,.slice am f.blocks.length ae] 44,blk bz [nV c_.params,nV c_.regs,.slice cK c_.blocks.length cL] 44] := fL _ _ eX
    clear eX
    refine tAk hm [2,3,4,5,6,7,8,9,10,11,12] rfl λhS=>?_
    obtain ⟨dv,dw,rfl,i9⟩ := ro_slice (hm.ow_rep 0 rfl)
    obtain ⟨eY,eZ,rfl,ib⟩ := ro_slice (hm.ow_rep 6 rfl)
    refine tP rfl (λw=>yG rfl (y_build (vs := [(1,(.slice dv cM.length dw)),(2,(nV aA.jump)),(3,(nV aA.on)),(4,(.slice eY aA.next_.length eZ))]) (cs := #[.slice none 0 0,.slice dv cM.length dw,nV aA.jump,nV aA.on,.slice eY aA.next_.length eZ]) rfl rfl (by kernel_rfl))) (tO (tf rfl rfl (λa hf=>e_alloc hm zeroValue49 rfl rfl) ?_))
    rintro _ w ⟨fN,rfl,hm⟩
    refine tAk hm [3,4,5,6,7,8,9,10,11,12,13] rfl λhS=>tO (tf0 rfl rfl (λa hf=>e_storeN 0 hf hm rfl sizeOf49 rfl rfl rfl (one_cons rfl (one_cons rfl (one_cons rfl (one_cons rfl (one_cons rfl one_nil))))) rfl rfl) ?_)
    rintro _ w hm
    exact tAn rfl (tE (gZ λa hf=>⟨fN,.slice dv cM.length dw,hf.sb rfl,hm.pk [12,11,9,10,8,2,7,5,6,4,3,0,1] rfl rfl⟩))
   refine tO (tf rfl rfl (λa hf=>e_alloc hm zeroValue49 rfl rfl) ?_)
   rintro _ w ⟨dx,rfl,hm⟩
   refine tAk hm [1,2,3,4,5,7,8,9,10,11,12] rfl λhS=>tO ?_
   replace hm := hm.imp (c' := gap bO bP aA.ins.length bQ (List.take (i_).toNat aA.ins : List Ins_) (dG : List Ins_)) 6 rfl (λF h0=>by rw [← dt,dH,show (List.take (aA.ins.length : Int).toNat aA.ins) = aA.ins from List.take_length]; exact h0)
   obtain ⟨fO,hle,hm1,hsub,fP⟩ := hm.take2 (L1 := [gap bO bP aA.ins.length bQ (List.take (i_).toNat aA.ins : List Ins_) (dG : List Ins_)]) (L2 := [blk dx [.slice none 0 0,.slice none 0 0,nV 0,nV 0,.slice none 0 0] 49,ow [bs] aG,blk aZ [nV c_.regs] 3,blk ab [nV aC.op,nV aC.to,bM,nV aC.n_] 51,ow [bM] aC.args,ow [bL] aA.next_,ow [aY] aA.phis,blk aO [nV aD.params,nV (w64 (aD.regs + f.regs)),sV aT aV aD.blocks.length aW] 44,holeE aT aV aD.blocks.length aW (aD.blocks : List Block_) (b_).toNat [aY,sV bO bP aA.ins.length bQ,nV aA.jump,nV aA.on,bL],blk aN [nV 0,nV 0,.slice none 0 0] 44,blk aa [nV f.params,nV f.regs,.slice am f.blocks.length ae] 44,blk bz [nV c_.params,nV c_.regs,.slice cK c_.blocks.length cL] 44]) [6] [0,1,2,3,4,5,7,8,9,10,11,12] (by decide) rfl rfl
   refine tf rfl rfl (λa hf=>e_call hf rfl call53 rfl (slices_Clone_S_impl_Ins_impl_Ins_ok _ fO hm1 du _ eW)) ?_
   rintro fQ w ea
   replace hm : Mem w0 (hp w0) _ [ow [fQ] cM,gap bO bP aA.ins.length bQ (List.take (i_).toNat aA.ins : List Ins_) ([] : List Ins_),blk dx [.slice none 0 0,.slice none 0 0,nV 0,nV 0,.slice none 0 0] 49,ow [bs] aG,blk aZ [nV c_.regs] 3,blk ab [nV aC.op,nV aC.to,bM,nV aC.n_] 51,ow [bM] aC.args,ow [bL] aA.next_,ow [aY] aA.phis,blk aO [nV aD.params,nV (w64 (aD.regs + f.regs)),sV aT aV aD.blocks.length aW] 44,holeE aT aV aD.blocks.length aW (aD.blocks : List Block_) (b_).toNat [aY,sV bO bP aA.ins.length bQ,nV aA.jump,nV aA.on,bL],blk aN [nV 0,nV 0,.slice none 0 0] 44,blk aa [nV f.params,nV f.regs,.slice am f.blocks.length ae] 44,blk bz [nV c_.params,nV c_.regs,.slice cK c_.blocks.length cL] 44] := fP _ _ ea
   clear ea
   refine tAk hm [3,4,5,6,7,8,9,10,11,12,13] rfl λhS=>?_
   obtain ⟨dy,dz,rfl,ic⟩ := ro_slice (hm.ow_rep 0 rfl)
   obtain ⟨eb,ec,rfl,ie⟩ := ro_slice (hm.ow_rep 7 rfl)
   refine tP rfl (λw=>yG rfl (y_build (vs := [(1,(.slice dy cM.length dz)),(2,(nV aA.jump)),(3,(nV aA.on)),(4,(.slice eb aA.next_.length ec))]) (cs := #[.slice none 0 0,.slice dy cM.length dz,nV aA.jump,nV aA.on,.slice eb aA.next_.length ec]) rfl rfl (by kernel_rfl))) (tO (tf0 rfl rfl (λa hf=>e_storeN 2 hf hm rfl sizeOf49 rfl rfl rfl (one_cons rfl (one_cons rfl (one_cons rfl (one_cons rfl (one_cons rfl one_nil))))) rfl rfl) ?_))
   rintro _ w hm
   exact tAn rfl (tE (gZ λa hf=>⟨dx,.slice dy cM.length dz,hf.sb rfl,hm.pk [12,11,9,10,8,1,7,5,6,4,3,2,0] rfl rfl⟩))
  repeat clear hm
  rintro aF a w ⟨ac,cA,hf,hm⟩
  refine gv hf (gS (gR (gM rfl (gM rfl (gY (yG rfl (y_nilptr rfl rfl)) (gF fo_49_1 rfl (gY (yl isAgg46 ((hm.holeE_at 3 rfl).cell (j := 1) rfl) rfl) (gM rfl (gb λeA fR=>?_)))))))))
  obtain ⟨ig,eB⟩ := subM_some.1 fR
  refine gY (yG rfl (y_subHI (α := Ins_) (n := eA.length) st_46 rfl rfl rfl dr fI eV.2 (by rw [← eB]; simp only [List.length_drop,List.length_take]; omega))) ?_
  replace hm := hm.imp (c' := gap bO bP aA.ins.length bQ (eA : List Ins_) ([] : List Ins_)) 5 rfl (λF h0=>by rw [← eB]; exact h0)
  obtain ⟨fS,hle,hm1,hsub,fT⟩ := hm.take2 (L1 := [gap bO bP aA.ins.length bQ (eA : List Ins_) ([] : List Ins_)]) (L2 := [blk aa [nV f.params,nV f.regs,.slice am f.blocks.length ae] 44,blk aN [nV 0,nV 0,.slice none 0 0] 44,blk aO [nV aD.params,nV (w64 (aD.regs + f.regs)),sV aT aV aD.blocks.length aW] 44,holeE aT aV aD.blocks.length aW (aD.blocks : List Block_) (b_).toNat [aY,sV bO bP aA.ins.length bQ,nV aA.jump,nV aA.on,bL],ow [aY] aA.phis,ow [bL] aA.next_,blk ab [nV aC.op,nV aC.to,bM,nV aC.n_] 51,ow [bM] aC.args,blk aZ [nV c_.regs] 3,ow [bs] aG,blk ac [.slice none 0 0,cA,nV aA.jump,nV aA.on,bL] 49,ow [cA] aF]) [5] [0,1,2,3,4,6,7,8,9,10,11,12] (by decide) rfl rfl
  refine gCg rfl call54 (slices_Clip_S_impl_Ins_impl_Ins_ok _ fS hm1 rfl (by rw [← eB]; simp only [List.length_drop,List.length_take]; omega)) ?_
  rintro ed ii cr w ee
  replace hm : Mem w0 (hp w0) _ [ow [cr] ed,blk aa [nV f.params,nV f.regs,.slice am f.blocks.length ae] 44,blk aN [nV 0,nV 0,.slice none 0 0] 44,blk aO [nV aD.params,nV (w64 (aD.regs + f.regs)),sV aT aV aD.blocks.length aW] 44,holeE aT aV aD.blocks.length aW (aD.blocks : List Block_) (b_).toNat [aY,sV bO bP aA.ins.length bQ,nV aA.jump,nV aA.on,bL],ow [aY] aA.phis,ow [bL] aA.next_,blk ab [nV aC.op,nV aC.to,bM,nV aC.n_] 51,ow [bM] aC.args,blk aZ [nV c_.regs] 3,ow [bs] aG,blk ac [.slice none 0 0,cA,nV aA.jump,nV aA.on,bL] 49,ow [cA] aF] := fT _ _ ee
  clear ee
  refine gY (yG rfl (y_nilptr rfl rfl)) (gF fo_49_1 rfl ?_)
  have ef : ∀ u ∈ ([cr] : List Value),u.oneCell' = true := (one_cons (rep_one (hm.ow_rep 0 rfl)) one_nil)
  refine gf0 rfl (λa hf=>e_storeH (j := 1) (vs := [cr]) 4 hf hm rfl rfl rfl sizeOf46 rfl rfl (cells_one (ef _ (List.mem_singleton.2 rfl))) ef rfl) ?_
  rintro _ w hm
  replace hm : Mem w0 (hp w0) _ [ow [cr] ed,blk aa [nV f.params,nV f.regs,.slice am f.blocks.length ae] 44,blk aN [nV 0,nV 0,.slice none 0 0] 44,blk aO [nV aD.params,nV (w64 (aD.regs + f.regs)),sV aT aV aD.blocks.length aW] 44,holeE aT aV aD.blocks.length aW (aD.blocks : List Block_) (b_).toNat [aY,cr,nV aA.jump,nV aA.on,bL],ow [aY] aA.phis,ow [bL] aA.next_,blk ab [nV aC.op,nV aC.to,bM,nV aC.n_] 51,ow [bM] aC.args,blk aZ [nV c_.regs] 3,ow [bs] aG,blk ac [.slice none 0 0,cA,nV aA.jump,nV aA.on,bL] 49,ow [cA] aF] := hm
  refine gE (gS (gS (gR (gF fo_51_2 rfl (gL hm 7 isAgg47 rfl ?_)))))
  obtain ⟨aS,aQ,rfl,ij⟩ := ro_slice (hm.ow_rep 8 rfl)
  refine gY (yV st_47 rfl) (gM rfl (gE ?_))
  obtain ⟨ak,aR,rfl,ik⟩ := ro_slice (hm.ow_rep 10 rfl)
  obtain ⟨aL,aM,rfl,il⟩ := ro_slice (hm.ow_rep 12 rfl)
  obtain ⟨aH,aJ,rfl,im⟩ := ro_slice (hm.ow_rep 6 rfl)
  refine gBk (gNg (λbe cB a w=>∃ (bh : Value),St 306 [(2,(nV b_)),(5,(pV aa)),(8,(pV aN)),(9,(pV aO)),(10,(pV ab)),(11,(pV aZ)),(12,(nV ((c_.blocks.length : Int)))),(13,(nV (((c_.blocks.length : Int)) + ((f.blocks.length : Int))))),(14,(.slice ak aG.length aR)),(15,(.pointer (some ⟨aT,aV + (b_).toNat * 5,none⟩))),(16,(pV ac)),(97,(.slice aS aC.args.length aQ)),(98,(nV ((aC.args.length : Int)))),(99,(nV be))] w0 (hp w0) [blk aa [nV f.params,nV f.regs,.slice am f.blocks.length ae] 44,blk aN [nV 0,nV 0,.slice none 0 0] 44,blk aO [nV aD.params,nV (w64 (aD.regs + f.regs)),sV aT aV aD.blocks.length aW] 44,holeE aT aV aD.blocks.length aW (aD.blocks : List Block_) (b_).toNat [aY,bh,nV aA.jump,nV aA.on,.slice aH aA.next_.length aJ],ow [aY] aA.phis,ow [bh] cB,ow [.slice aH aA.next_.length aJ] aA.next_,blk ab [nV aC.op,nV aC.to,.slice aS aC.args.length aQ,nV aC.n_] 51,ow [.slice aS aC.args.length aQ] aC.args,blk aZ [nV c_.regs] 3,ow [.slice ak aG.length aR] aG,blk ac [.slice none 0 0,.slice aL aF.length aM,nV aA.jump,nV aA.on,.slice aH aA.next_.length aJ] 49,ow [.slice aL aF.length aM] aF] a w) (λa hf=>⟨cr,hf.sb rfl,hm.pk [1,2,3,4,5,0,6,7,8,9,10,11,12] rfl rfl⟩) ?_ ?_)
  ·repeat clear hm
   rintro _ _ be cB a w ⟨bh,hf,hm⟩ io ip iq _
   refine gv hf (gS (gR (gB rfl (gE (gS (go _ 100 rfl (decide_eq_true (by omega)) (gct rfl (gSk (gS (gBk (gS (gR (gM rfl (gg λcC fU eC=>?_))))))))))))))
   obtain ⟨bk,bm,ir,he⟩ := idx_form (hm.ow_rep 8 rfl) eC
   obtain ⟨rfl,_,rfl⟩ := sl3 he
   refine gI st_47 fU (idx_lt eC) rfl (gY (yl isAgg3 ((flat_cells (cs := [nV cC]) (hm.ow_rep 8 rfl) eC rfl).cell (j := 0) rfl) rfl) (gA rfl (gA rfl (gE ?_))))
   replace hm : Mem w0 (hp w0) _ [blk aa [nV f.params,nV f.regs,.slice am f.blocks.length ae] 44,blk aN [nV 0,nV 0,.slice none 0 0] 44,blk aO [nV aD.params,nV (w64 (aD.regs + f.regs)),sV aT aV aD.blocks.length aW] 44,holeE aT aV aD.blocks.length aW (aD.blocks : List Block_) (b_).toNat [aY,bh,nV aA.jump,nV aA.on,.slice aH aA.next_.length aJ],ow [aY] aA.phis,ow [bh] cB,ow [.slice aH aA.next_.length aJ] aA.next_,blk ab [nV aC.op,nV aC.to,sV bk bm aC.args.length aQ,nV aC.n_] 51,ow [sV bk bm aC.args.length aQ] aC.args,blk aZ [nV c_.regs] 3,ow [.slice ak aG.length aR] aG,blk ac [.slice none 0 0,.slice aL aF.length aM,nV aA.jump,nV aA.on,.slice aH aA.next_.length aJ] 49,ow [.slice aL aF.length aM] aF] := hm
   refine gW (.p 0 (.p 1 (.p 2 (.p 3 (.p 6 (.p 8 (.q 4 (.q 5 (.p 7 (.e 9 (.p 10 (.e 11 (.e 12 (.p 13 (.p 14 (.e 15 .fin .nil))) .nil) .nil)) .nil)))))))))) [4,5,9,11] [0,1,2,3,6,7,8,10,13,14] hm [0,1,2,3,4,5,6,7,8,9,10,11,12] [blk aa [nV f.params,nV f.regs,.slice am f.blocks.length ae] 44,blk aN [nV 0,nV 0,.slice none 0 0] 44,blk aO [nV aD.params,nV (w64 (aD.regs + f.regs)),sV aT aV aD.blocks.length aW] 44,holeE aT aV aD.blocks.length aW (aD.blocks : List Block_) (b_).toNat [aY,bh,nV aA.jump,nV aA.on,.slice aH aA.next_.length aJ],ow [aY] aA.phis,ow [bh] cB,ow [.slice aH aA.next_.length aJ] aA.next_,blk ab [nV aC.op,nV aC.to,sV bk bm aC.args.length aQ,nV aC.n_] 51,ow [sV bk bm aC.args.length aQ] aC.args,blk aZ [nV c_.regs] 3,ow [.slice ak aG.length aR] aG,blk ac [.slice none 0 0,.slice aL aF.length aM,nV aA.jump,nV aA.on,.slice aH aA.next_.length aJ] 49,ow [.slice aL aF.length aM] aF] rfl mxo (by kernel_rfl) (λ_ _ _ h=>h.2) λw hm hS=>tP rfl (λw=>yM rfl) (tP rfl (λw=>yM rfl) (tP rfl (λw=>yG rfl (y_nilptr rfl rfl)) (tP rfl (λw=>yF fo_49_1 rfl) (tP rfl (λw=>yM rfl) (tP rfl (λw=>yM rfl) (tQ rfl hS (λw hm=>yl isAgg46 ((hm.holeE_at 3 rfl).cell (j := 1) rfl) rfl) (tQ rfl hS (λw hm=>yL hm 9 isAgg3 rfl) (tP rfl (λw=>yB rfl) (tO (tf rfl rfl (λa hf=>e_build (vs := #[(0,(nV cC))]) (cs := [nV cC]) et_47 hf hm rfl rfl (by kernel_rfl) rfl rfl) ?_))))))))))
   rintro _ w ⟨cN,rfl,hm⟩
   replace hm := hm.lit (xs := ([cC] : List Int)) 0 rfl rfl rfl rfl
   refine tAk hm [1,2,3,4,5,6,7,8,9,10,11,12,13] rfl λhS=>tP rfl (λw=>yG rfl (y_build (vs := [(0,(nV 2)),(1,(nV (w64 (c_.regs + be)))),(2,(sV cN 0 1 1))]) (cs := #[nV 2,nV (w64 (c_.regs + be)),sV cN 0 1 1,nV 0]) rfl rfl (by kernel_rfl))) (tO (tf rfl rfl (λa hf=>e_build (vs := #[(0,(.agg #[nV 2,nV (w64 (c_.regs + be)),sV cN 0 1 1,nV 0]))]) (cs := [nV 2,nV (w64 (c_.regs + be)),sV cN 0 1 1,nV 0]) et_46 hf hm rfl rfl (by kernel_rfl) rfl rfl) ?_))
   rintro _ w ⟨dU,rfl,hm⟩
   replace hm := hm.els_nil (α := Ins_)
   replace hm : Mem w0 (hp w0) _ [els [] ([] : List Ins_),blk dU [nV 2,nV (w64 (c_.regs + be)),sV cN 0 1 1,nV 0] 51,ow [nV 2,nV (w64 (c_.regs + be)),sV cN 0 1 1,nV 0] ((⟨2,w64 (c_.regs + be),([cC] : List Int),0⟩ : Ins_) : Ins_),blk aa [nV f.params,nV f.regs,.slice am f.blocks.length ae] 44,blk aN [nV 0,nV 0,.slice none 0 0] 44,blk aO [nV aD.params,nV (w64 (aD.regs + f.regs)),sV aT aV aD.blocks.length aW] 44,holeE aT aV aD.blocks.length aW (aD.blocks : List Block_) (b_).toNat [aY,bh,nV aA.jump,nV aA.on,.slice aH aA.next_.length aJ],ow [aY] aA.phis,ow [bh] cB,ow [.slice aH aA.next_.length aJ] aA.next_,blk ab [nV aC.op,nV aC.to,sV bk bm aC.args.length aQ,nV aC.n_] 51,ow [sV bk bm aC.args.length aQ] aC.args,blk aZ [nV c_.regs] 3,ow [.slice ak aG.length aR] aG,blk ac [.slice none 0 0,.slice aL aF.length aM,nV aA.jump,nV aA.on,.slice aH aA.next_.length aJ] 49,ow [.slice aL aF.length aM] aF] := mk_Ins_ 2 (w64 (c_.regs + be)) 0 hm 2 rfl
   replace hm := (hm.els_cons 0 2 (by decide) rfl rfl).pk (L' := [els [nV 2,nV (w64 (c_.regs + be)),sV cN 0 1 1,nV 0] ([(⟨2,w64 (c_.regs + be),([cC] : List Int),0⟩ : Ins_)] : List Ins_),blk dU [nV 2,nV (w64 (c_.regs + be)),sV cN 0 1 1,nV 0] 51,blk aa [nV f.params,nV f.regs,.slice am f.blocks.length ae] 44,blk aN [nV 0,nV 0,.slice none 0 0] 44,blk aO [nV aD.params,nV (w64 (aD.regs + f.regs)),sV aT aV aD.blocks.length aW] 44,holeE aT aV aD.blocks.length aW (aD.blocks : List Block_) (b_).toNat [aY,bh,nV aA.jump,nV aA.on,.slice aH aA.next_.length aJ],ow [aY] aA.phis,ow [bh] cB,ow [.slice aH aA.next_.length aJ] aA.next_,blk ab [nV aC.op,nV aC.to,sV bk bm aC.args.length aQ,nV aC.n_] 51,ow [sV bk bm aC.args.length aQ] aC.args,blk aZ [nV c_.regs] 3,ow [.slice ak aG.length aR] aG,blk ac [.slice none 0 0,.slice aL aF.length aM,nV aA.jump,nV aA.on,.slice aH aA.next_.length aJ] 49,ow [.slice aL aF.length aM] aF]) [0,1,3,4,5,6,7,8,9,10,11,12,13,14,15] rfl rfl
   replace hm := (hm.lit_els 1 0 (by decide) rfl rfl rfl rfl).pk (L' := [ow [sV dU 0 1 1] ([(⟨2,w64 (c_.regs + be),([cC] : List Int),0⟩ : Ins_)] : List Ins_),blk aa [nV f.params,nV f.regs,.slice am f.blocks.length ae] 44,blk aN [nV 0,nV 0,.slice none 0 0] 44,blk aO [nV aD.params,nV (w64 (aD.regs + f.regs)),sV aT aV aD.blocks.length aW] 44,holeE aT aV aD.blocks.length aW (aD.blocks : List Block_) (b_).toNat [aY,bh,nV aA.jump,nV aA.on,.slice aH aA.next_.length aJ],ow [aY] aA.phis,ow [bh] cB,ow [.slice aH aA.next_.length aJ] aA.next_,blk ab [nV aC.op,nV aC.to,sV bk bm aC.args.length aQ,nV aC.n_] 51,ow [sV bk bm aC.args.length aQ] aC.args,blk aZ [nV c_.regs] 3,ow [.slice ak aG.length aR] aG,blk ac [.slice none 0 0,.slice aL aF.length aM,nV aA.jump,nV aA.on,.slice aH aA.next_.length aJ] 49,ow [.slice aL aF.length aM] aF]) [1,2,3,4,5,6,7,8,9,10,11,12,13,14] rfl rfl
   refine tAk hm [1,2,3,4,5,6,7,8,9,10,11,12,13] rfl λhS=>tO (gb λfV fW=>?_)
   obtain ⟨fX,fY⟩ := appM_some.1 fW
   replace hm := (hm.both 6 0 (by decide) rfl rfl).pk (L' := [blk aa [nV f.params,nV f.regs,.slice am f.blocks.length ae] 44,blk aN [nV 0,nV 0,.slice none 0 0] 44,blk aO [nV aD.params,nV (w64 (aD.regs + f.regs)),sV aT aV aD.blocks.length aW] 44,holeE aT aV aD.blocks.length aW (aD.blocks : List Block_) (b_).toNat [aY,bh,nV aA.jump,nV aA.on,.slice aH aA.next_.length aJ],ow [aY] aA.phis,both (ow [bh] cB) (ow [sV dU 0 1 1] ([(⟨2,w64 (c_.regs + be),([cC] : List Int),0⟩ : Ins_)] : List Ins_)),ow [.slice aH aA.next_.length aJ] aA.next_,blk ab [nV aC.op,nV aC.to,sV bk bm aC.args.length aQ,nV aC.n_] 51,ow [sV bk bm aC.args.length aQ] aC.args,blk aZ [nV c_.regs] 3,ow [.slice ak aG.length aR] aG,blk ac [.slice none 0 0,.slice aL aF.length aM,nV aA.jump,nV aA.on,.slice aH aA.next_.length aJ] 49,ow [.slice aL aF.length aM] aF]) [1,2,3,4,5,6,7,8,9,10,11,12,13] rfl rfl
   refine tf rfl rfl (λa hf=>e_appendD (xs := cB) (ys := ([(⟨2,w64 (c_.regs + be),([cC] : List Int),0⟩ : Ins_)] : List Ins_)) 5 et_46 hf hm rfl rfl rfl rfl fX) ?_
   rintro dI w hm
   rw [fY] at hm
   refine tAn rfl (tP rfl (λw=>yG rfl (y_nilptr rfl rfl)) (tP rfl (λw=>yF fo_49_1 rfl) (tO ?_)))
   have eg : ∀ u ∈ ([dI] : List Value),u.oneCell' = true := (one_cons (rep_one (hm.ow_rep 5 rfl)) one_nil)
   refine tf0 rfl rfl (λa hf=>e_storeH (j := 1) (vs := [dI]) 3 hf hm rfl rfl rfl sizeOf46 rfl rfl (cells_one (eg _ (List.mem_singleton.2 rfl))) eg rfl) ?_
   rintro _ w hm
   replace hm : Mem w0 (hp w0) _ [blk aa [nV f.params,nV f.regs,.slice am f.blocks.length ae] 44,blk aN [nV 0,nV 0,.slice none 0 0] 44,blk aO [nV aD.params,nV (w64 (aD.regs + f.regs)),sV aT aV aD.blocks.length aW] 44,holeE aT aV aD.blocks.length aW (aD.blocks : List Block_) (b_).toNat [aY,dI,nV aA.jump,nV aA.on,.slice aH aA.next_.length aJ],ow [aY] aA.phis,ow [dI] fV,ow [.slice aH aA.next_.length aJ] aA.next_,blk ab [nV aC.op,nV aC.to,sV bk bm aC.args.length aQ,nV aC.n_] 51,ow [sV bk bm aC.args.length aQ] aC.args,blk aZ [nV c_.regs] 3,ow [.slice ak aG.length aR] aG,blk ac [.slice none 0 0,.slice aL aF.length aM,nV aA.jump,nV aA.on,.slice aH aA.next_.length aJ] 49,ow [.slice aL aF.length aM] aF] := hm
   exact tAn rfl (tE (gR (gP (by omega) (by omega) rfl (gM rfl (gE (gZe λa hf=>⟨dI,hf.sb rfl,hm.pk [0,1,2,3,4,5,6,7,8,9,10,11,12] rfl rfl⟩))))))
  repeat clear hm
  rintro iu eD a w ⟨cd,hf,hm⟩ iv iw
  refine gv hf (gS (gR (gB rfl (gE (gS (go _ 100 rfl (decide_eq_false (by omega)) (gcf rfl (gXt (gHh (gS (gS (gR (gY (yn (hm.blk_at 0 rfl) isAgg44 sizeOf44 rfl) (gCg rfl call56 (impl_liveOf_ok _ _ hm.lez f (.slice am f.blocks.length ae) h2 ) ?_))))))))))))))
  rintro bc iy iz w ⟨eE,eF,jA,ct,bR,rfl,dJ,jB,hB⟩
  replace hm := Mem.giveA hm dJ hB; clear hB
  refine gY (yG rfl (y_nilptr rfl rfl)) (gF fo_91_1 rfl (gL hm 0 isAgg89 rfl (gg λcO fZ dK=>?_)))
  obtain ⟨ce,cf,cu,he⟩ := idx_form' (hm.ow_rep 1 rfl) dK
  subst he
  obtain ⟨_,_,eh,f8⟩ := ro_get' (hm.ow_rep 1 rfl) dK
  have eG := f8
  obtain ⟨ei,rfl,-⟩ := id eG
  replace eG : GT.rep (hp _) [ei] cO := eG
  replace eh : CellsAt (hp _) ce (cf + (0 : Int).toNat * 1) [ei] := eh
  refine gI st_89 fZ (idx_lt dK) rfl ?_
  obtain ⟨_,f9,hm⟩ := hm.openE 1 rfl dK
  have fa := hm.ow_rep 0 rfl
  have dV := fa
  obtain ⟨cg,rfl,-⟩ := id dV
  replace dV : GT.rep (hp _) [cg] cO := dV
  clear f9 dV
  replace hm : Mem w0 bR _ [ow [cg] (cO : MapS Bool),blk eE [nV bc.c.params,nV bc.c.regs,eF,sV ce cf bc.ins.length cu,ct] 91,holeE ce cf bc.ins.length cu (bc.ins : List (MapS Bool)) (0 : Int).toNat [cg],ow [ct] bc.preds,blk aa [nV f.params,nV f.regs,.slice am f.blocks.length ae] 44,blk aN [nV 0,nV 0,.slice none 0 0] 44,blk aO [nV aD.params,nV (w64 (aD.regs + f.regs)),sV aT aV aD.blocks.length aW] 44,holeE aT aV aD.blocks.length aW (aD.blocks : List Block_) (b_).toNat [aY,cd,nV aA.jump,nV aA.on,.slice aH aA.next_.length aJ],ow [aY] aA.phis,ow [cd] eD,ow [.slice aH aA.next_.length aJ] aA.next_,blk ab [nV aC.op,nV aC.to,.slice aS aC.args.length aQ,nV aC.n_] 51,ow [.slice aS aC.args.length aQ] aC.args,blk aZ [nV c_.regs] 3,ow [.slice ak aG.length aR] aG,blk ac [.slice none 0 0,.slice aL aF.length aM,nV aA.jump,nV aA.on,.slice aH aA.next_.length aJ] 49,ow [.slice aL aF.length aM] aF] := hm
  replace hm := hm.pk (L' := [ow [cg] cO,blk eE [nV bc.c.params,nV bc.c.regs,eF,sV ce cf bc.ins.length cu,ct] 91,holeE ce cf bc.ins.length cu (bc.ins : List (MapS Bool)) (0 : Int).toNat [cg],ow [ct] bc.preds,blk aa [nV f.params,nV f.regs,.slice am f.blocks.length ae] 44,blk aN [nV 0,nV 0,.slice none 0 0] 44,blk aO [nV aD.params,nV (w64 (aD.regs + f.regs)),sV aT aV aD.blocks.length aW] 44,holeE aT aV aD.blocks.length aW (aD.blocks : List Block_) (b_).toNat [aY,cd,nV aA.jump,nV aA.on,.slice aH aA.next_.length aJ],ow [aY] aA.phis,ow [cd] eD,ow [.slice aH aA.next_.length aJ] aA.next_,blk ab [nV aC.op,nV aC.to,.slice aS aC.args.length aQ,nV aC.n_] 51,ow [.slice aS aC.args.length aQ] aC.args,blk aZ [nV c_.regs] 3,ow [.slice ak aG.length aR] aG,blk ac [.slice none 0 0,.slice aL aF.length aM,nV aA.jump,nV aA.on,.slice aH aA.next_.length aJ] 49,ow [.slice aL aF.length aM] aF]) [0,1,2,3,4,5,6,7,8,9,10,11,12,13,14,15,16] rfl rfl
  refine gY (yl isAgg88 ((hm.holeE_at 2 rfl).cell (j := 0) rfl) rfl) (gCg rfl call55 (impl_sortedKeys_bool_ok _ cO cg (hm.ow_rep 0 rfl)) ?_)
  rintro bA jC jD w ⟨_,rfl,hB⟩
  replace hm := hm.give hB; clear hB
  obtain ⟨bu,ba,rfl,jE⟩ := ro_slice (hm.ow_rep 0 rfl)
  refine gY (yV st_47 rfl) (gM rfl (gE (gBk ?_)))
  replace hm := hm.imp (c' := ow [cg] (cO : MapS Bool)) 1 rfl (λF h0=>h0)
  replace hm := (hm.shutE (y := (cO : MapS Bool)) 3 1 (by decide) rfl rfl).pk (L' := [ow [.slice bu bA.length ba] bA,blk eE [nV bc.c.params,nV bc.c.regs,eF,sV ce cf bc.ins.length cu,ct] 91,ow [sV ce cf bc.ins.length cu] (bc.ins.set (0 : Int).toNat cO),ow [ct] bc.preds,blk aa [nV f.params,nV f.regs,.slice am f.blocks.length ae] 44,blk aN [nV 0,nV 0,.slice none 0 0] 44,blk aO [nV aD.params,nV (w64 (aD.regs + f.regs)),sV aT aV aD.blocks.length aW] 44,holeE aT aV aD.blocks.length aW (aD.blocks : List Block_) (b_).toNat [aY,cd,nV aA.jump,nV aA.on,.slice aH aA.next_.length aJ],ow [aY] aA.phis,ow [cd] eD,ow [.slice aH aA.next_.length aJ] aA.next_,blk ab [nV aC.op,nV aC.to,.slice aS aC.args.length aQ,nV aC.n_] 51,ow [.slice aS aC.args.length aQ] aC.args,blk aZ [nV c_.regs] 3,ow [.slice ak aG.length aR] aG,blk ac [.slice none 0 0,.slice aL aF.length aM,nV aA.jump,nV aA.on,.slice aH aA.next_.length aJ] 49,ow [.slice aL aF.length aM] aF]) [0,2,3,4,5,6,7,8,9,10,11,12,13,14,15,16,17] rfl rfl
  rw [set_same dK] at hm
  refine gNg (λdW cD a w=>∃ (bf : Value),St 306 [(2,(nV b_)),(5,(pV aa)),(8,(pV aN)),(9,(pV aO)),(10,(pV ab)),(11,(pV aZ)),(12,(nV ((c_.blocks.length : Int)))),(13,(nV (((c_.blocks.length : Int)) + ((f.blocks.length : Int))))),(14,(.slice ak aG.length aR)),(15,(.pointer (some ⟨aT,aV + (b_).toNat * 5,none⟩))),(16,(pV ac)),(127,(.slice bu bA.length ba)),(128,(nV ((bA.length : Int)))),(129,(nV dW))] w0 bR [blk aa [nV f.params,nV f.regs,.slice am f.blocks.length ae] 44,blk aN [nV 0,nV 0,.slice none 0 0] 44,blk aO [nV aD.params,nV (w64 (aD.regs + f.regs)),sV aT aV aD.blocks.length aW] 44,holeE aT aV aD.blocks.length aW (aD.blocks : List Block_) (b_).toNat [aY,bf,nV aA.jump,nV aA.on,.slice aH aA.next_.length aJ],ow [aY] aA.phis,ow [bf] cD,ow [.slice aH aA.next_.length aJ] aA.next_,blk ab [nV aC.op,nV aC.to,.slice aS aC.args.length aQ,nV aC.n_] 51,ow [.slice aS aC.args.length aQ] aC.args,blk aZ [nV c_.regs] 3,ow [.slice ak aG.length aR] aG,blk ac [.slice none 0 0,.slice aL aF.length aM,nV aA.jump,nV aA.on,.slice aH aA.next_.length aJ] 49,ow [.slice aL aF.length aM] aF,ow [.slice bu bA.length ba] bA] a w) (λa hf=>⟨cd,hf.sb rfl,hm.pk [4,5,6,7,8,9,10,11,12,13,14,15,16,0] rfl rfl⟩) ?_ ?_
  ·repeat clear hm
   rintro _ _ dW cD a w ⟨bf,hf,hm⟩ jF jG jH _
   refine gv hf (gS (gR (gB rfl (gE (gS (go _ 130 rfl (decide_eq_true (by omega)) (gct rfl (gSk (gS (gJg (λeH a w=>∃ (dX : Value),St 306 [(2,(nV b_)),(5,(pV aa)),(8,(pV aN)),(9,(pV aO)),(10,(pV ab)),(11,(pV aZ)),(12,(nV ((c_.blocks.length : Int)))),(13,(nV (((c_.blocks.length : Int)) + ((f.blocks.length : Int))))),(14,(.slice ak aG.length aR)),(15,(.pointer (some ⟨aT,aV + (b_).toNat * 5,none⟩))),(16,(pV ac)),(127,(.slice bu bA.length ba)),(128,(nV ((bA.length : Int)))),(129,(nV dW))] w0 bR [blk aa [nV f.params,nV f.regs,.slice am f.blocks.length ae] 44,blk aN [nV 0,nV 0,.slice none 0 0] 44,blk aO [nV aD.params,nV (w64 (aD.regs + f.regs)),sV aT aV aD.blocks.length aW] 44,holeE aT aV aD.blocks.length aW (aD.blocks : List Block_) (b_).toNat [aY,dX,nV aA.jump,nV aA.on,.slice aH aA.next_.length aJ],ow [aY] aA.phis,ow [dX] eH,ow [.slice aH aA.next_.length aJ] aA.next_,blk ab [nV aC.op,nV aC.to,.slice aS aC.args.length aQ,nV aC.n_] 51,ow [.slice aS aC.args.length aQ] aC.args,blk aZ [nV c_.regs] 3,ow [.slice ak aG.length aR] aG,blk ac [.slice none 0 0,.slice aL aF.length aM,nV aA.jump,nV aA.on,.slice aH aA.next_.length aJ] 49,ow [.slice aL aF.length aM] aF,ow [.slice bu bA.length ba] bA] a w) (λeH=>?_) ?_))))))))))
   ·refine gBk (gS (gR (gg fun bi fb eI => ?_)))
    obtain ⟨cE,cF,jI,he⟩ := idx_form (hm.ow_rep 13 rfl) eI
    obtain ⟨rfl,_,rfl⟩ := sl3 he
    refine gI st_47 fb (idx_lt eI) rfl (gY (yl isAgg3 ((flat_cells (cs := [nV bi]) (hm.ow_rep 13 rfl) eI rfl).cell (j := 0) rfl) rfl) (gA rfl (gE (gS (gR (gM rfl (gF fo_44_0 rfl (gL hm 0 isAgg3 rfl (gB rfl (gE (gJg (λeJ a w=>∃ (dY : Value),St 306 [(2,(nV b_)),(5,(pV aa)),(8,(pV aN)),(9,(pV aO)),(10,(pV ab)),(11,(pV aZ)),(12,(nV ((c_.blocks.length : Int)))),(13,(nV (((c_.blocks.length : Int)) + ((f.blocks.length : Int))))),(14,(.slice ak aG.length aR)),(15,(.pointer (some ⟨aT,aV + (b_).toNat * 5,none⟩))),(16,(pV ac)),(127,(sV cE cF bA.length ba)),(128,(nV ((bA.length : Int)))),(129,(nV dW))] w0 bR [blk aa [nV f.params,nV f.regs,.slice am f.blocks.length ae] 44,blk aN [nV 0,nV 0,.slice none 0 0] 44,blk aO [nV aD.params,nV (w64 (aD.regs + f.regs)),sV aT aV aD.blocks.length aW] 44,holeE aT aV aD.blocks.length aW (aD.blocks : List Block_) (b_).toNat [aY,dY,nV aA.jump,nV aA.on,.slice aH aA.next_.length aJ],ow [aY] aA.phis,ow [dY] eJ,ow [.slice aH aA.next_.length aJ] aA.next_,blk ab [nV aC.op,nV aC.to,.slice aS aC.args.length aQ,nV aC.n_] 51,ow [.slice aS aC.args.length aQ] aC.args,blk aZ [nV c_.regs] 3,ow [.slice ak aG.length aR] aG,blk ac [.slice none 0 0,.slice aL aF.length aM,nV aA.jump,nV aA.on,.slice aH aA.next_.length aJ] 49,ow [.slice aL aF.length aM] aF,ow [sV cE cF bA.length ba] bA] a w) (λeJ=>?_) ?_)))))))))))
    ·refine gsd 136 rfl (fun fc => ?_) fun fc => ?_
     ·refine gct rfl ?_
      replace hm : Mem w0 bR _ [blk aa [nV f.params,nV f.regs,.slice am f.blocks.length ae] 44,blk aN [nV 0,nV 0,.slice none 0 0] 44,blk aO [nV aD.params,nV (w64 (aD.regs + f.regs)),sV aT aV aD.blocks.length aW] 44,holeE aT aV aD.blocks.length aW (aD.blocks : List Block_) (b_).toNat [aY,bf,nV aA.jump,nV aA.on,.slice aH aA.next_.length aJ],ow [aY] aA.phis,ow [bf] cD,ow [.slice aH aA.next_.length aJ] aA.next_,blk ab [nV aC.op,nV aC.to,.slice aS aC.args.length aQ,nV aC.n_] 51,ow [.slice aS aC.args.length aQ] aC.args,blk aZ [nV c_.regs] 3,ow [.slice ak aG.length aR] aG,blk ac [.slice none 0 0,.slice aL aF.length aM,nV aA.jump,nV aA.on,.slice aH aA.next_.length aJ] 49,ow [.slice aL aF.length aM] aF,ow [sV cE cF bA.length ba] bA] := hm
      refine gW (.p 0 (.p 1 (.p 2 (.p 3 (.p 6 (.q 4 (.e 5 (.p 7 (.p 8 (.e 9 (.e 10 (.p 11 (.p 12 (.e 13 .fin .nil))) .nil) .nil))) .nil))))))) [5,9] [0,1,2,3,6,7,8,11,12] hm [0,1,2,3,4,5,6,7,8,9,10,11,12,13] [blk aa [nV f.params,nV f.regs,.slice am f.blocks.length ae] 44,blk aN [nV 0,nV 0,.slice none 0 0] 44,blk aO [nV aD.params,nV (w64 (aD.regs + f.regs)),sV aT aV aD.blocks.length aW] 44,holeE aT aV aD.blocks.length aW (aD.blocks : List Block_) (b_).toNat [aY,bf,nV aA.jump,nV aA.on,.slice aH aA.next_.length aJ],ow [aY] aA.phis,ow [bf] cD,ow [.slice aH aA.next_.length aJ] aA.next_,blk ab [nV aC.op,nV aC.to,.slice aS aC.args.length aQ,nV aC.n_] 51,ow [.slice aS aC.args.length aQ] aC.args,blk aZ [nV c_.regs] 3,ow [.slice ak aG.length aR] aG,blk ac [.slice none 0 0,.slice aL aF.length aM,nV aA.jump,nV aA.on,.slice aH aA.next_.length aJ] 49,ow [.slice aL aF.length aM] aF,ow [sV cE cF bA.length ba] bA] rfl mxo (by kernel_rfl) (λ_ _ _ h=>h.2) λw hm hS=>tP rfl (λw=>yM rfl) (tP rfl (λw=>yM rfl) (tP rfl (λw=>yG rfl (y_nilptr rfl rfl)) (tP rfl (λw=>yF fo_49_1 rfl) (tP rfl (λw=>yM rfl) (tQ rfl hS (λw hm=>yl isAgg46 ((hm.holeE_at 3 rfl).cell (j := 1) rfl) rfl) (tO (tY rfl (yL hm 9 isAgg3 rfl) (tAs hS (tP rfl (λw=>yB rfl) (tP rfl (λw=>yG rfl (y_build (vs := [(0,(nV 1)),(1,(nV (w64 (c_.regs + bi))))]) (cs := #[nV 1,nV (w64 (c_.regs + bi)),.slice none 0 0,nV 0]) rfl rfl (by kernel_rfl))) (tO (tf rfl rfl (λa hf=>e_build (vs := #[(0,(.agg #[nV 1,nV (w64 (c_.regs + bi)),.slice none 0 0,nV 0]))]) (cs := [nV 1,nV (w64 (c_.regs + bi)),.slice none 0 0,nV 0]) et_46 hf hm rfl rfl (by kernel_rfl) rfl rfl) ?_))))))))))))
      rintro _ w ⟨dZ,rfl,hm⟩
      replace hm := hm.els_nil (α := Ins_)
      replace hm := hm.nilow (α := Int)
      replace hm : Mem w0 bR _ [ow [nV 1,nV (w64 (c_.regs + bi)),.slice none 0 0,nV 0] ((⟨1,w64 (c_.regs + bi),[],0⟩ : Ins_) : Ins_),els [] ([] : List Ins_),blk dZ [nV 1,nV (w64 (c_.regs + bi)),.slice none 0 0,nV 0] 51,blk aa [nV f.params,nV f.regs,.slice am f.blocks.length ae] 44,blk aN [nV 0,nV 0,.slice none 0 0] 44,blk aO [nV aD.params,nV (w64 (aD.regs + f.regs)),sV aT aV aD.blocks.length aW] 44,holeE aT aV aD.blocks.length aW (aD.blocks : List Block_) (b_).toNat [aY,bf,nV aA.jump,nV aA.on,.slice aH aA.next_.length aJ],ow [aY] aA.phis,ow [bf] cD,ow [.slice aH aA.next_.length aJ] aA.next_,blk ab [nV aC.op,nV aC.to,.slice aS aC.args.length aQ,nV aC.n_] 51,ow [.slice aS aC.args.length aQ] aC.args,blk aZ [nV c_.regs] 3,ow [.slice ak aG.length aR] aG,blk ac [.slice none 0 0,.slice aL aF.length aM,nV aA.jump,nV aA.on,.slice aH aA.next_.length aJ] 49,ow [.slice aL aF.length aM] aF,ow [sV cE cF bA.length ba] bA] := mk_Ins_ 1 (w64 (c_.regs + bi)) 0 hm 0 rfl
      replace hm := (hm.els_cons 1 0 (by decide) rfl rfl).pk (L' := [els [nV 1,nV (w64 (c_.regs + bi)),.slice none 0 0,nV 0] ([(⟨1,w64 (c_.regs + bi),[],0⟩ : Ins_)] : List Ins_),blk dZ [nV 1,nV (w64 (c_.regs + bi)),.slice none 0 0,nV 0] 51,blk aa [nV f.params,nV f.regs,.slice am f.blocks.length ae] 44,blk aN [nV 0,nV 0,.slice none 0 0] 44,blk aO [nV aD.params,nV (w64 (aD.regs + f.regs)),sV aT aV aD.blocks.length aW] 44,holeE aT aV aD.blocks.length aW (aD.blocks : List Block_) (b_).toNat [aY,bf,nV aA.jump,nV aA.on,.slice aH aA.next_.length aJ],ow [aY] aA.phis,ow [bf] cD,ow [.slice aH aA.next_.length aJ] aA.next_,blk ab [nV aC.op,nV aC.to,.slice aS aC.args.length aQ,nV aC.n_] 51,ow [.slice aS aC.args.length aQ] aC.args,blk aZ [nV c_.regs] 3,ow [.slice ak aG.length aR] aG,blk ac [.slice none 0 0,.slice aL aF.length aM,nV aA.jump,nV aA.on,.slice aH aA.next_.length aJ] 49,ow [.slice aL aF.length aM] aF,ow [sV cE cF bA.length ba] bA]) [1,2,3,4,5,6,7,8,9,10,11,12,13,14,15,16] rfl rfl
      replace hm := (hm.lit_els 1 0 (by decide) rfl rfl rfl rfl).pk (L' := [ow [sV dZ 0 1 1] ([(⟨1,w64 (c_.regs + bi),[],0⟩ : Ins_)] : List Ins_),blk aa [nV f.params,nV f.regs,.slice am f.blocks.length ae] 44,blk aN [nV 0,nV 0,.slice none 0 0] 44,blk aO [nV aD.params,nV (w64 (aD.regs + f.regs)),sV aT aV aD.blocks.length aW] 44,holeE aT aV aD.blocks.length aW (aD.blocks : List Block_) (b_).toNat [aY,bf,nV aA.jump,nV aA.on,.slice aH aA.next_.length aJ],ow [aY] aA.phis,ow [bf] cD,ow [.slice aH aA.next_.length aJ] aA.next_,blk ab [nV aC.op,nV aC.to,.slice aS aC.args.length aQ,nV aC.n_] 51,ow [.slice aS aC.args.length aQ] aC.args,blk aZ [nV c_.regs] 3,ow [.slice ak aG.length aR] aG,blk ac [.slice none 0 0,.slice aL aF.length aM,nV aA.jump,nV aA.on,.slice aH aA.next_.length aJ] 49,ow [.slice aL aF.length aM] aF,ow [sV cE cF bA.length ba] bA]) [1,2,3,4,5,6,7,8,9,10,11,12,13,14,15] rfl rfl
      refine tAk hm [1,2,3,4,5,6,7,8,9,10,11,12,13,14] rfl λhS=>tO (gb λfd fe=>?_)
      obtain ⟨ff,fg⟩ := appM_some.1 fe
      replace hm := (hm.both 6 0 (by decide) rfl rfl).pk (L' := [blk aa [nV f.params,nV f.regs,.slice am f.blocks.length ae] 44,blk aN [nV 0,nV 0,.slice none 0 0] 44,blk aO [nV aD.params,nV (w64 (aD.regs + f.regs)),sV aT aV aD.blocks.length aW] 44,holeE aT aV aD.blocks.length aW (aD.blocks : List Block_) (b_).toNat [aY,bf,nV aA.jump,nV aA.on,.slice aH aA.next_.length aJ],ow [aY] aA.phis,both (ow [bf] cD) (ow [sV dZ 0 1 1] ([(⟨1,w64 (c_.regs + bi),[],0⟩ : Ins_)] : List Ins_)),ow [.slice aH aA.next_.length aJ] aA.next_,blk ab [nV aC.op,nV aC.to,.slice aS aC.args.length aQ,nV aC.n_] 51,ow [.slice aS aC.args.length aQ] aC.args,blk aZ [nV c_.regs] 3,ow [.slice ak aG.length aR] aG,blk ac [.slice none 0 0,.slice aL aF.length aM,nV aA.jump,nV aA.on,.slice aH aA.next_.length aJ] 49,ow [.slice aL aF.length aM] aF,ow [sV cE cF bA.length ba] bA]) [1,2,3,4,5,6,7,8,9,10,11,12,13,14] rfl rfl
      refine tf rfl rfl (λa hf=>e_appendD (xs := cD) (ys := ([(⟨1,w64 (c_.regs + bi),[],0⟩ : Ins_)] : List Ins_)) 5 et_46 hf hm rfl rfl rfl rfl ff) ?_
      rintro dL w hm
      rw [fg] at hm
      refine tAn rfl (tP rfl (λw=>yG rfl (y_nilptr rfl rfl)) (tP rfl (λw=>yF fo_49_1 rfl) (tO ?_)))
      have ej : ∀ u ∈ ([dL] : List Value),u.oneCell' = true := (one_cons (rep_one (hm.ow_rep 5 rfl)) one_nil)
      refine tf0 rfl rfl (λa hf=>e_storeH (j := 1) (vs := [dL]) 3 hf hm rfl rfl rfl sizeOf46 rfl rfl (cells_one (ej _ (List.mem_singleton.2 rfl))) ej rfl) ?_
      rintro _ w hm
      replace hm : Mem w0 bR _ [blk aa [nV f.params,nV f.regs,.slice am f.blocks.length ae] 44,blk aN [nV 0,nV 0,.slice none 0 0] 44,blk aO [nV aD.params,nV (w64 (aD.regs + f.regs)),sV aT aV aD.blocks.length aW] 44,holeE aT aV aD.blocks.length aW (aD.blocks : List Block_) (b_).toNat [aY,dL,nV aA.jump,nV aA.on,.slice aH aA.next_.length aJ],ow [aY] aA.phis,ow [dL] fd,ow [.slice aH aA.next_.length aJ] aA.next_,blk ab [nV aC.op,nV aC.to,.slice aS aC.args.length aQ,nV aC.n_] 51,ow [.slice aS aC.args.length aQ] aC.args,blk aZ [nV c_.regs] 3,ow [.slice ak aG.length aR] aG,blk ac [.slice none 0 0,.slice aL aF.length aM,nV aA.jump,nV aA.on,.slice aH aA.next_.length aJ] 49,ow [.slice aL aF.length aM] aF,ow [sV cE cF bA.length ba] bA] := hm
      exact tAn rfl (tE (gZ λa hf=>⟨dL,hf.sb rfl,hm.pk [0,1,2,3,4,5,6,7,8,9,10,11,12,13] rfl rfl⟩))
     exact gcf rfl (gSk (gZ λa hf=>⟨bf,hf.sb rfl,hm.pk [0,1,2,3,4,5,6,7,8,9,10,11,12,13] rfl rfl⟩))
    repeat clear hm
    rintro eJ a w ⟨dY,hf,hm⟩
    exact gv hf (gZ λa hf=>⟨dY,hf.sb rfl,hm.pk [0,1,2,3,4,5,6,7,8,9,10,11,12,13] rfl rfl⟩)
   repeat clear hm
   rintro eH a w ⟨dX,hf,hm⟩
   exact gv hf (gR (gP (by omega) (by omega) rfl (gM rfl (gE (gZe λa hf=>⟨dX,hf.sb rfl,hm.pk [0,1,2,3,4,5,6,7,8,9,10,11,12,13] rfl rfl⟩)))))
  repeat clear hm
  rintro jJ ci a w ⟨cP,hf,hm⟩ jK jL
  refine gv hf (gS (gR (gB rfl (gE (gS (go _ 130 rfl (decide_eq_false (by omega)) (gcf rfl (gXt (gHh (gS (gR (gM rfl (gM rfl (gM rfl (gM rfl (gf rfl (λa hf=>e_build (vs := #[(0,(nV ((c_.blocks.length : Int))))]) (cs := [nV ((c_.blocks.length : Int))]) et_47 hf hm rfl rfl (by kernel_rfl) rfl rfl) ?_))))))))))))))))
  rintro _ w ⟨cQ,rfl,hm⟩
  replace hm := hm.lit (xs := ([(c_.blocks.length : Int)] : List Int)) 0 rfl rfl rfl rfl
  refine gY (yG rfl (y_nilptr rfl rfl)) (gF fo_49_2 rfl ?_)
  have fh : ∀ u ∈ ([nV 1] : List Value),u.oneCell' = true := (one_cons rfl one_nil)
  refine gf0 rfl (λa hf=>e_storeH (j := 2) (vs := [nV 1]) 4 hf hm rfl rfl rfl sizeOf3 rfl rfl rfl fh rfl) ?_
  rintro _ w hm
  replace hm : Mem w0 bR _ [ow [sV cQ 0 1 1] ([(c_.blocks.length : Int)] : List Int),blk aa [nV f.params,nV f.regs,.slice am f.blocks.length ae] 44,blk aN [nV 0,nV 0,.slice none 0 0] 44,blk aO [nV aD.params,nV (w64 (aD.regs + f.regs)),sV aT aV aD.blocks.length aW] 44,holeE aT aV aD.blocks.length aW (aD.blocks : List Block_) (b_).toNat [aY,cP,nV 1,nV aA.on,.slice aH aA.next_.length aJ],ow [aY] aA.phis,ow [cP] ci,ow [.slice aH aA.next_.length aJ] aA.next_,blk ab [nV aC.op,nV aC.to,.slice aS aC.args.length aQ,nV aC.n_] 51,ow [.slice aS aC.args.length aQ] aC.args,blk aZ [nV c_.regs] 3,ow [.slice ak aG.length aR] aG,blk ac [.slice none 0 0,.slice aL aF.length aM,nV aA.jump,nV aA.on,.slice aH aA.next_.length aJ] 49,ow [.slice aL aF.length aM] aF,ow [.slice bu bA.length ba] bA] := hm
  refine gY (yG rfl (y_nilptr rfl rfl)) (gF fo_49_3 rfl ?_)
  have fj : ∀ u ∈ ([nV 0] : List Value),u.oneCell' = true := (one_cons rfl one_nil)
  refine gf0 rfl (λa hf=>e_storeH (j := 3) (vs := [nV 0]) 4 hf hm rfl rfl rfl sizeOf3 rfl rfl rfl fj rfl) ?_
  rintro _ w hm
  replace hm : Mem w0 bR _ [ow [sV cQ 0 1 1] ([(c_.blocks.length : Int)] : List Int),blk aa [nV f.params,nV f.regs,.slice am f.blocks.length ae] 44,blk aN [nV 0,nV 0,.slice none 0 0] 44,blk aO [nV aD.params,nV (w64 (aD.regs + f.regs)),sV aT aV aD.blocks.length aW] 44,holeE aT aV aD.blocks.length aW (aD.blocks : List Block_) (b_).toNat [aY,cP,nV 1,nV 0,.slice aH aA.next_.length aJ],ow [aY] aA.phis,ow [cP] ci,ow [.slice aH aA.next_.length aJ] aA.next_,blk ab [nV aC.op,nV aC.to,.slice aS aC.args.length aQ,nV aC.n_] 51,ow [.slice aS aC.args.length aQ] aC.args,blk aZ [nV c_.regs] 3,ow [.slice ak aG.length aR] aG,blk ac [.slice none 0 0,.slice aL aF.length aM,nV aA.jump,nV aA.on,.slice aH aA.next_.length aJ] 49,ow [.slice aL aF.length aM] aF,ow [.slice bu bA.length ba] bA] := hm
  refine gY (yG rfl (y_nilptr rfl rfl)) (gF fo_49_4 rfl ?_)
  have ek : ∀ u ∈ ([sV cQ 0 1 1] : List Value),u.oneCell' = true := (one_cons rfl one_nil)
  refine gf0 rfl (λa hf=>e_storeH (j := 4) (vs := [sV cQ 0 1 1]) 4 hf hm rfl rfl rfl sizeOf47 rfl rfl (cells_one (ek _ (List.mem_singleton.2 rfl))) ek rfl) ?_
  rintro _ w hm
  replace hm : Mem w0 bR _ [ow [sV cQ 0 1 1] ([(c_.blocks.length : Int)] : List Int),blk aa [nV f.params,nV f.regs,.slice am f.blocks.length ae] 44,blk aN [nV 0,nV 0,.slice none 0 0] 44,blk aO [nV aD.params,nV (w64 (aD.regs + f.regs)),sV aT aV aD.blocks.length aW] 44,holeE aT aV aD.blocks.length aW (aD.blocks : List Block_) (b_).toNat [aY,cP,nV 1,nV 0,sV cQ 0 1 1],ow [aY] aA.phis,ow [cP] ci,ow [.slice aH aA.next_.length aJ] aA.next_,blk ab [nV aC.op,nV aC.to,.slice aS aC.args.length aQ,nV aC.n_] 51,ow [.slice aS aC.args.length aQ] aC.args,blk aZ [nV c_.regs] 3,ow [.slice ak aG.length aR] aG,blk ac [.slice none 0 0,.slice aL aF.length aM,nV aA.jump,nV aA.on,.slice aH aA.next_.length aJ] 49,ow [.slice aL aF.length aM] aF,ow [.slice bu bA.length ba] bA] := hm
  refine gE (gS (gS ?_))
  replace hm := (mk_Block_ 1 0 hm 5 6 0 rfl).pk (L' := [blk aa [nV f.params,nV f.regs,.slice am f.blocks.length ae] 44,blk aN [nV 0,nV 0,.slice none 0 0] 44,blk aO [nV aD.params,nV (w64 (aD.regs + f.regs)),sV aT aV aD.blocks.length aW] 44,holeE aT aV aD.blocks.length aW (aD.blocks : List Block_) (b_).toNat [aY,cP,nV 1,nV 0,sV cQ 0 1 1],ow [aY,cP,nV 1,nV 0,sV cQ 0 1 1] ((⟨aA.phis,ci,1,0,([(c_.blocks.length : Int)] : List Int)⟩ : Block_) : Block_),ow [.slice aH aA.next_.length aJ] aA.next_,blk ab [nV aC.op,nV aC.to,.slice aS aC.args.length aQ,nV aC.n_] 51,ow [.slice aS aC.args.length aQ] aC.args,blk aZ [nV c_.regs] 3,ow [.slice ak aG.length aR] aG,blk ac [.slice none 0 0,.slice aL aF.length aM,nV aA.jump,nV aA.on,.slice aH aA.next_.length aJ] 49,ow [.slice aL aF.length aM] aF,ow [.slice bu bA.length ba] bA]) [1,2,3,4,5,7,8,9,10,11,12,13,14] rfl rfl
  replace hm := (hm.shutE (y := ((⟨aA.phis,ci,1,0,([(c_.blocks.length : Int)] : List Int)⟩ : Block_) : Block_)) 3 4 (by decide) rfl rfl).pk (L' := [blk aa [nV f.params,nV f.regs,.slice am f.blocks.length ae] 44,blk aN [nV 0,nV 0,.slice none 0 0] 44,blk aO [nV aD.params,nV (w64 (aD.regs + f.regs)),sV aT aV aD.blocks.length aW] 44,ow [sV aT aV aD.blocks.length aW] (aD.blocks.set (b_).toNat (⟨aA.phis,ci,1,0,([(c_.blocks.length : Int)] : List Int)⟩ : Block_)),ow [.slice aH aA.next_.length aJ] aA.next_,blk ab [nV aC.op,nV aC.to,.slice aS aC.args.length aQ,nV aC.n_] 51,ow [.slice aS aC.args.length aQ] aC.args,blk aZ [nV c_.regs] 3,ow [.slice ak aG.length aR] aG,blk ac [.slice none 0 0,.slice aL aF.length aM,nV aA.jump,nV aA.on,.slice aH aA.next_.length aJ] 49,ow [.slice aL aF.length aM] aF,ow [.slice bu bA.length ba] bA]) [0,1,2,3,5,6,7,8,9,10,11,12] rfl rfl
  have jM := List.getElem?_set_self (a := ((⟨aA.phis,ci,1,0,([(c_.blocks.length : Int)] : List Int)⟩ : Block_) : Block_)) (idx_lt cb)
  refine gR (gY (yn (hm.blk_at 0 rfl) isAgg44 sizeOf44 rfl) (gCg rfl call51 (impl_cloneCode_ok _ f (.slice am f.blocks.length ae) (hm.now (GT.mono dJ h2))) ?_))
  rintro an jN jO w ⟨jP,rfl,hB⟩
  replace hm := hm.give hB; clear hB
  refine gY (yG rfl (y_field1 underlying44 rfl rfl isAgg42 rfl rfl rfl)) ?_
  obtain ⟨cv,bK,rfl,jQ⟩ := ro_slice (hm.ow_rep 0 rfl)
  refine gY (yV st_42 rfl) (gM rfl (gE ?_))
  replace hm := hm.drnV0 0 rfl
  refine gBk (gNg (λbN al a w=>∃ (cj : Value),St 306 [(2,(nV b_)),(5,(pV aa)),(8,(pV aN)),(9,(pV aO)),(10,(pV ab)),(11,(pV aZ)),(12,(nV ((c_.blocks.length : Int)))),(13,(nV (((c_.blocks.length : Int)) + ((f.blocks.length : Int))))),(14,(.slice ak aG.length aR)),(16,(pV ac)),(164,(.slice cv an.blocks.length bK)),(165,(nV ((an.blocks.length : Int)))),(166,(nV bN))] w0 bR [blk aa [nV f.params,nV f.regs,.slice am f.blocks.length ae] 44,blk aN [nV 0,nV 0,.slice none 0 0] 44,blk aO [nV aD.params,nV (w64 (aD.regs + f.regs)),cj] 44,ow [cj] al,blk ab [nV aC.op,nV aC.to,.slice aS aC.args.length aQ,nV aC.n_] 51,ow [.slice aS aC.args.length aQ] aC.args,blk aZ [nV c_.regs] 3,ow [.slice ak aG.length aR] aG,blk ac [.slice none 0 0,.slice aL aF.length aM,nV aA.jump,nV aA.on,.slice aH aA.next_.length aJ] 49,ow [.slice aL aF.length aM] aF,ow [.slice aH aA.next_.length aJ] aA.next_,drnV (.slice cv an.blocks.length bK) (an.blocks : List Block_) (bN)] a w) (λa hf=>⟨sV aT aV aD.blocks.length aW,hf.sb rfl,hm.pk [1,2,3,4,6,7,8,9,10,11,5,0] rfl rfl⟩) ?_ ?_)
  ·repeat clear hm
   rintro _ _ bN al a w ⟨cj,hf,hm⟩ jR jS jT _
   refine gv hf (gS (gR (gB rfl (gE (gS (go _ 167 rfl (decide_eq_true (by omega)) (gct rfl (gSk (gS (gBk (gS (gR (gg λaE em d4=>?_)))))))))))))
   obtain ⟨bT,bU,jU,he⟩ := hm.drn_form 11 rfl d4
   obtain ⟨rfl,_,rfl⟩ := sl3 he
   obtain ⟨_,fk,hm⟩ := hm.drn_pin 11 rfl d4
   have fm := hm.ow_rep 0 rfl
   obtain ⟨_,_,rfl,d5,_,_,rfl,d6,_,_,rfl,rfl,_,_,rfl,rfl,d7⟩ := fm
   obtain ⟨ck,rfl,-⟩ := id d5
   replace d5 : GT.rep (hp _) [ck] aE.phis := d5
   obtain ⟨cG,rfl,-⟩ := id d6
   replace d6 : GT.rep (hp _) [cG] aE.ins := d6
   obtain ⟨br,rfl,-⟩ := id d7
   replace d7 : GT.rep (hp _) [br] aE.next_ := d7
   clear fk d5 d6 d7
   replace hm : Mem w0 bR _ [ow [ck,cG,nV aE.jump,nV aE.on,br] (aE : Block_),blk aa [nV f.params,nV f.regs,.slice am f.blocks.length ae] 44,blk aN [nV 0,nV 0,.slice none 0 0] 44,blk aO [nV aD.params,nV (w64 (aD.regs + f.regs)),cj] 44,ow [cj] al,blk ab [nV aC.op,nV aC.to,.slice aS aC.args.length aQ,nV aC.n_] 51,ow [.slice aS aC.args.length aQ] aC.args,blk aZ [nV c_.regs] 3,ow [.slice ak aG.length aR] aG,blk ac [.slice none 0 0,.slice aL aF.length aM,nV aA.jump,nV aA.on,.slice aH aA.next_.length aJ] 49,ow [.slice aL aF.length aM] aF,ow [.slice aH aA.next_.length aJ] aA.next_,drnH bT bU an.blocks.length bK (an.blocks : List Block_) (bN).toNat [ck,cG,nV aE.jump,nV aE.on,br]] := hm
   replace hm := hm.imp (c' := ow ([ck] ++ [cG,nV aE.jump,nV aE.on,br]) ((aE.phis,(aE.ins,aE.jump,aE.on,aE.next_)) : (List Phi_) × (List Ins_) × Int × Int × (List Int))) 0 rfl (λF h0=>h0)
   replace hm := Mem.unpair (α := List Phi_) (β := (List Ins_) × Int × Int × (List Int)) (c := [ck]) (d := [cG,nV aE.jump,nV aE.on,br]) (x := aE.phis) (y := (aE.ins,aE.jump,aE.on,aE.next_)) hm 0 rfl rfl
   replace hm := hm.imp (c' := ow ([cG] ++ [nV aE.jump,nV aE.on,br]) ((aE.ins,(aE.jump,aE.on,aE.next_)) : (List Ins_) × Int × Int × (List Int))) 0 rfl (λF h0=>h0)
   replace hm := Mem.unpair (α := List Ins_) (β := Int × Int × (List Int)) (c := [cG]) (d := [nV aE.jump,nV aE.on,br]) (x := aE.ins) (y := (aE.jump,aE.on,aE.next_)) hm 0 rfl rfl
   replace hm := hm.imp (c' := ow ([nV aE.jump] ++ [nV aE.on,br]) ((aE.jump,(aE.on,aE.next_)) : Int × Int × (List Int))) 0 rfl (λF h0=>h0)
   replace hm := Mem.unpair (α := Int) (β := Int × (List Int)) (c := [nV aE.jump]) (d := [nV aE.on,br]) (x := aE.jump) (y := (aE.on,aE.next_)) hm 0 rfl rfl
   replace hm := hm.imp (c' := ow ([nV aE.on] ++ [br]) ((aE.on,aE.next_) : Int × (List Int))) 0 rfl (λF h0=>h0)
   replace hm := Mem.unpair (α := Int) (β := (List Int)) (c := [nV aE.on]) (d := [br]) (x := aE.on) (y := aE.next_) hm 0 rfl rfl
   replace hm := hm.pk (L' := [ow [br] aE.next_,ow [cG] aE.ins,ow [ck] aE.phis,blk aa [nV f.params,nV f.regs,.slice am f.blocks.length ae] 44,blk aN [nV 0,nV 0,.slice none 0 0] 44,blk aO [nV aD.params,nV (w64 (aD.regs + f.regs)),cj] 44,ow [cj] al,blk ab [nV aC.op,nV aC.to,.slice aS aC.args.length aQ,nV aC.n_] 51,ow [.slice aS aC.args.length aQ] aC.args,blk aZ [nV c_.regs] 3,ow [.slice ak aG.length aR] aG,blk ac [.slice none 0 0,.slice aL aF.length aM,nV aA.jump,nV aA.on,.slice aH aA.next_.length aJ] 49,ow [.slice aL aF.length aM] aF,ow [.slice aH aA.next_.length aJ] aA.next_,drnH bT bU an.blocks.length bK (an.blocks : List Block_) (bN).toNat [ck,cG,nV aE.jump,nV aE.on,br]]) [0,3,4,5,6,7,8,9,10,11,12,13,14,15,16] rfl rfl
   have hL1_1 := hm.drnH_len 14 rfl
   refine gI st_42 em (idx_lt2 d4 hL1_1) rfl (gY (yn (hm.drnH_at 14 rfl) isAgg49 sizeOf49 rfl) (gAl hm zeroValue49 rfl λbY w hm=>gSN hm 0 sizeOf49 (one_cons (rep_one (hm.ow_rep 3 rfl)) (one_cons (rep_one (hm.ow_rep 2 rfl)) (one_cons rfl (one_cons rfl (one_cons (rep_one (hm.ow_rep 1 rfl)) one_nil))))) rfl λw hm=>gE (gS (gS ?_))))
   replace hm := hm.drnH_gone 15 rfl em d4
   refine gR (gF fo_49_4 rfl (gL hm 0 isAgg47 rfl ?_))
   obtain ⟨bF,bG,rfl,jV⟩ := ro_slice (hm.ow_rep 1 rfl)
   refine gY (yV st_47 rfl) (gM rfl (gE ?_))
   obtain ⟨aw,ax,rfl,jW⟩ := ro_slice (hm.ow_rep 7 rfl)
   obtain ⟨aq,ar,rfl,jX⟩ := ro_slice (hm.ow_rep 3 rfl)
   obtain ⟨bH,bJ,rfl,jY⟩ := ro_slice (hm.ow_rep 2 rfl)
   refine gBk (gNf hm (λeK eL=>[(2,(nV b_)),(5,(pV aa)),(8,(pV aN)),(9,(pV aO)),(10,(pV ab)),(11,(pV aZ)),(12,(nV ((c_.blocks.length : Int)))),(13,(nV (((c_.blocks.length : Int)) + ((f.blocks.length : Int))))),(14,(.slice ak aG.length aR)),(16,(pV ac)),(22,(pV bY)),(164,(sV bT bU an.blocks.length bK)),(165,(nV ((an.blocks.length : Int)))),(166,(nV bN)),(172,(nV ((aE.next_.length : Int)))),(173,(nV eK))]) (λeK eL=>[blk aa [nV f.params,nV f.regs,.slice am f.blocks.length ae] 44,blk aN [nV 0,nV 0,.slice none 0 0] 44,blk aO [nV aD.params,nV (w64 (aD.regs + f.regs)),.slice aw al.length ax] 44,ow [.slice aw al.length ax] al,blk ab [nV aC.op,nV aC.to,.slice aS aC.args.length aQ,nV aC.n_] 51,ow [.slice aS aC.args.length aQ] aC.args,blk aZ [nV c_.regs] 3,ow [.slice ak aG.length aR] aG,blk ac [.slice none 0 0,.slice aL aF.length aM,nV aA.jump,nV aA.on,.slice aH aA.next_.length aJ] 49,ow [.slice aL aF.length aM] aF,ow [.slice aH aA.next_.length aJ] aA.next_,blk bY [.slice aq aE.phis.length ar,.slice bH aE.ins.length bJ,nV aE.jump,nV aE.on,.slice bF aE.next_.length bG] 49,ow [.slice aq aE.phis.length ar] aE.phis,ow [.slice bH aE.ins.length bJ] aE.ins,ow [.slice bF aE.next_.length bG] eL,drnS (sV bT bU an.blocks.length bK) (an.blocks : List Block_) (bN)]) [4,5,6,7,8,9,10,11,12,13,14,0,3,2,1,15] rfl ?_ ?_)
   ·repeat clear hm
    intro _ _ eK eL w hm jZ j4 j5 _
    refine gS (gR (gB rfl (gE (gS (go _ 174 rfl (decide_eq_true (by omega)) (gct rfl (gSk (gS (gBk (gS (gR (gM rfl (gA rfl (gE (gR (gF fo_49_4 rfl (gL hm 11 isAgg47 rfl (gM rfl (gg λd8 en cw=>?_)))))))))))))))))))
    obtain ⟨j6,j7,j8,he⟩ := idx_form (hm.ow_rep 14 rfl) cw
    obtain ⟨rfl,_,rfl⟩ := sl3 he
    have hL2_1 := rep_slice_len (hm.ow_rep 14 rfl)
    refine gI st_47 en (idx_lt2 cw hL2_1) rfl (gY (yl isAgg3 ((flat_cells (cs := [nV d8]) (hm.ow_rep 14 rfl) cw rfl).cell (j := 0) rfl) rfl) (gM rfl (gB rfl ?_)))
    have hL2_2 := rep_slice_len (hm.ow_rep 14 rfl)
    refine gI st_47 en (idx_lt2 cw hL2_2) rfl (gf0 rfl (λa hf=>e_setElem (x1 := w64 (d8 + ((c_.blocks.length : Int)))) (j := 0) (vs := [nV (w64 (d8 + ((c_.blocks.length : Int))))]) 14 hf hm rfl cw rfl sizeOf3 rfl rfl rfl (one_cons rfl one_nil) rfl rfl) ?_)
    rintro _ w hm
    have j9 := List.getElem?_set_self (a := w64 (d8 + ((c_.blocks.length : Int)))) (idx_lt cw)
    exact gE (gR (gP (by omega) (by omega) rfl (gM rfl (gE (gze hm [0,1,2,3,4,5,6,7,8,9,10,11,12,13,14,15] rfl)))))
   repeat clear hm
   intro ja dM w hm jc jd
   refine gS (gR (gB rfl (gE (gS (go _ 174 rfl (decide_eq_false (by omega)) (gcf rfl (gXt (gHh (gS (gR (gY (yn (hm.blk_at 11 rfl) isAgg49 sizeOf49 rfl) (gf rfl (λa hf=>e_build (vs := #[(0,(.agg #[.slice aq aE.phis.length ar,.slice bH aE.ins.length bJ,nV aE.jump,nV aE.on,.slice bF aE.next_.length bG]))]) (cs := [.slice aq aE.phis.length ar,.slice bH aE.ins.length bJ,nV aE.jump,nV aE.on,.slice bF aE.next_.length bG]) et_42 hf hm rfl rfl (by kernel_rfl) rfl rfl) ?_))))))))))))
   rintro _ w ⟨cR,rfl,hm⟩
   have fo : CellsAt (hp _) cR 0 [.slice aq aE.phis.length ar,.slice bH aE.ins.length bJ,nV aE.jump,nV aE.on,.slice bF aE.next_.length bG] := hm.blk_part (i := 0) 0 rfl rfl
   have fp := isSl (hm.ow_rep 13 rfl)
   have fq := isSl (hm.ow_rep 14 rfl)
   have fr := isSl (hm.ow_rep 15 rfl)
   replace hm := hm.els_nil (α := Block_)
   replace hm := (mk_Block_ aE.jump aE.on hm 14 15 16 rfl).pk (L' := [els [] ([] : List Block_),blk cR [.slice aq aE.phis.length ar,.slice bH aE.ins.length bJ,nV aE.jump,nV aE.on,.slice bF aE.next_.length bG] 49,blk aa [nV f.params,nV f.regs,.slice am f.blocks.length ae] 44,blk aN [nV 0,nV 0,.slice none 0 0] 44,blk aO [nV aD.params,nV (w64 (aD.regs + f.regs)),.slice aw al.length ax] 44,ow [.slice aw al.length ax] al,blk ab [nV aC.op,nV aC.to,.slice aS aC.args.length aQ,nV aC.n_] 51,ow [.slice aS aC.args.length aQ] aC.args,blk aZ [nV c_.regs] 3,ow [.slice ak aG.length aR] aG,blk ac [.slice none 0 0,.slice aL aF.length aM,nV aA.jump,nV aA.on,.slice aH aA.next_.length aJ] 49,ow [.slice aL aF.length aM] aF,ow [.slice aH aA.next_.length aJ] aA.next_,blk bY [.slice aq aE.phis.length ar,.slice bH aE.ins.length bJ,nV aE.jump,nV aE.on,.slice bF aE.next_.length bG] 49,ow [.slice aq aE.phis.length ar,.slice bH aE.ins.length bJ,nV aE.jump,nV aE.on,.slice bF aE.next_.length bG] ((⟨aE.phis,aE.ins,aE.jump,aE.on,dM⟩ : Block_) : Block_),drnS (sV bT bU an.blocks.length bK) (an.blocks : List Block_) (bN)]) [0,1,2,3,4,5,6,7,8,9,10,11,12,13,14,17] rfl rfl
   replace hm := (hm.els_cons 0 14 (by decide) rfl rfl).pk (L' := [els [.slice aq aE.phis.length ar,.slice bH aE.ins.length bJ,nV aE.jump,nV aE.on,.slice bF aE.next_.length bG] ([(⟨aE.phis,aE.ins,aE.jump,aE.on,dM⟩ : Block_)] : List Block_),blk cR [.slice aq aE.phis.length ar,.slice bH aE.ins.length bJ,nV aE.jump,nV aE.on,.slice bF aE.next_.length bG] 49,blk aa [nV f.params,nV f.regs,.slice am f.blocks.length ae] 44,blk aN [nV 0,nV 0,.slice none 0 0] 44,blk aO [nV aD.params,nV (w64 (aD.regs + f.regs)),.slice aw al.length ax] 44,ow [.slice aw al.length ax] al,blk ab [nV aC.op,nV aC.to,.slice aS aC.args.length aQ,nV aC.n_] 51,ow [.slice aS aC.args.length aQ] aC.args,blk aZ [nV c_.regs] 3,ow [.slice ak aG.length aR] aG,blk ac [.slice none 0 0,.slice aL aF.length aM,nV aA.jump,nV aA.on,.slice aH aA.next_.length aJ] 49,ow [.slice aL aF.length aM] aF,ow [.slice aH aA.next_.length aJ] aA.next_,blk bY [.slice aq aE.phis.length ar,.slice bH aE.ins.length bJ,nV aE.jump,nV aE.on,.slice bF aE.next_.length bG] 49,drnS (sV bT bU an.blocks.length bK) (an.blocks : List Block_) (bN)]) [0,1,2,3,4,5,6,7,8,9,10,11,12,13,15] rfl rfl
   replace hm := (hm.lit_els 1 0 (by decide) rfl rfl rfl rfl).pk (L' := [ow [sV cR 0 1 1] ([(⟨aE.phis,aE.ins,aE.jump,aE.on,dM⟩ : Block_)] : List Block_),blk aa [nV f.params,nV f.regs,.slice am f.blocks.length ae] 44,blk aN [nV 0,nV 0,.slice none 0 0] 44,blk aO [nV aD.params,nV (w64 (aD.regs + f.regs)),.slice aw al.length ax] 44,ow [.slice aw al.length ax] al,blk ab [nV aC.op,nV aC.to,.slice aS aC.args.length aQ,nV aC.n_] 51,ow [.slice aS aC.args.length aQ] aC.args,blk aZ [nV c_.regs] 3,ow [.slice ak aG.length aR] aG,blk ac [.slice none 0 0,.slice aL aF.length aM,nV aA.jump,nV aA.on,.slice aH aA.next_.length aJ] 49,ow [.slice aL aF.length aM] aF,ow [.slice aH aA.next_.length aJ] aA.next_,blk bY [.slice aq aE.phis.length ar,.slice bH aE.ins.length bJ,nV aE.jump,nV aE.on,.slice bF aE.next_.length bG] 49,drnS (sV bT bU an.blocks.length bK) (an.blocks : List Block_) (bN)]) [1,2,3,4,5,6,7,8,9,10,11,12,13,14] rfl rfl
   refine gY (yG rfl (y_build (vs := [(2,(sV cR 0 1 1))]) (cs := #[nV 0,nV 0,sV cR 0 1 1]) rfl rfl (by kernel_rfl))) (gY (yU rfl) ?_)
   obtain ⟨ft,hle,hm1,hsub,fu⟩ := hm.take2 (L1 := [ow [sV cR 0 1 1] ([(⟨aE.phis,aE.ins,aE.jump,aE.on,dM⟩ : Block_)] : List Block_)]) (L2 := [blk aa [nV f.params,nV f.regs,.slice am f.blocks.length ae] 44,blk aN [nV 0,nV 0,.slice none 0 0] 44,blk aO [nV aD.params,nV (w64 (aD.regs + f.regs)),.slice aw al.length ax] 44,ow [.slice aw al.length ax] al,blk ab [nV aC.op,nV aC.to,.slice aS aC.args.length aQ,nV aC.n_] 51,ow [.slice aS aC.args.length aQ] aC.args,blk aZ [nV c_.regs] 3,ow [.slice ak aG.length aR] aG,blk ac [.slice none 0 0,.slice aL aF.length aM,nV aA.jump,nV aA.on,.slice aH aA.next_.length aJ] 49,ow [.slice aL aF.length aM] aF,ow [.slice aH aA.next_.length aJ] aA.next_,blk bY [.slice aq aE.phis.length ar,.slice bH aE.ins.length bJ,nV aE.jump,nV aE.on,.slice bF aE.next_.length bG] 49,drnS (sV bT bU an.blocks.length bK) (an.blocks : List Block_) (bN)]) [0] [1,2,3,4,5,6,7,8,9,10,11,12,13] (by decide) rfl rfl
   refine gCg rfl call57 (impl_eachReg_ok _ ft (⟨0,0,([(⟨aE.phis,aE.ins,aE.jump,aE.on,dM⟩ : Block_)] : List Block_)⟩ : Code_) (.func (.func 58) #[] #[(pV aZ)]) (sV cR 0 1 1) (λy0=>impl_inlined_1 y0 c_.regs) hm1 (visit_of λw hz3 h0 b i x y hle3 hm3 hf3=>(FnOk.mono (⟨58,[(pV aZ)],rfl,call58,impl_inlined_1_ok w hz3 x h0 b i c_.regs aZ (hle3 _ _ (fz_blk (hsub 6 _ rfl))) hm3 _ hf3⟩) λ_ _ h=>h.2))) ?_
   rintro je jf _ w ⟨rfl,eo⟩
   replace hm := fu _ _ eo
   clear eo
   refine gb λbC fw=>?_
   replace hm := er_pieces hm (getI_some.1 fw).2 fo fp fq fr
   replace hm := hm.pk (L' := [ow [.slice bF aE.next_.length bG] bC.next_,ow [.slice bH aE.ins.length bJ] bC.ins,ow [.slice aq aE.phis.length ar] bC.phis,blk aa [nV f.params,nV f.regs,.slice am f.blocks.length ae] 44,blk aN [nV 0,nV 0,.slice none 0 0] 44,blk aO [nV aD.params,nV (w64 (aD.regs + f.regs)),.slice aw al.length ax] 44,ow [.slice aw al.length ax] al,blk ab [nV aC.op,nV aC.to,.slice aS aC.args.length aQ,nV aC.n_] 51,ow [.slice aS aC.args.length aQ] aC.args,blk aZ [nV c_.regs] 3,ow [.slice ak aG.length aR] aG,blk ac [.slice none 0 0,.slice aL aF.length aM,nV aA.jump,nV aA.on,.slice aH aA.next_.length aJ] 49,ow [.slice aL aF.length aM] aF,ow [.slice aH aA.next_.length aJ] aA.next_,blk bY [.slice aq aE.phis.length ar,.slice bH aE.ins.length bJ,nV aE.jump,nV aE.on,.slice bF aE.next_.length bG] 49,drnS (sV bT bU an.blocks.length bK) (an.blocks : List Block_) (bN)]) [0,3,4,5,6,7,8,9,10,11,12,13,14,15,16,17] rfl rfl
   refine gE (gS (gS (gR (gF fo_49_2 rfl (gL hm 14 isAgg3 rfl (gB rfl (gE (gJg (λao a w=>∃ (bp bq : Value),St 306 [(2,(nV b_)),(5,(pV aa)),(8,(pV aN)),(9,(pV aO)),(10,(pV ab)),(11,(pV aZ)),(12,(nV ((c_.blocks.length : Int)))),(13,(nV (((c_.blocks.length : Int)) + ((f.blocks.length : Int))))),(14,(.slice ak aG.length aR)),(16,(pV ac)),(22,(pV bY)),(164,(sV bT bU an.blocks.length bK)),(165,(nV ((an.blocks.length : Int)))),(166,(nV bN))] w0 bR [blk aa [nV f.params,nV f.regs,.slice am f.blocks.length ae] 44,blk aN [nV 0,nV 0,.slice none 0 0] 44,blk aO [nV aD.params,nV (w64 (aD.regs + f.regs)),.slice aw al.length ax] 44,ow [.slice aw al.length ax] al,blk ab [nV aC.op,nV aC.to,.slice aS aC.args.length aQ,nV aC.n_] 51,ow [.slice aS aC.args.length aQ] aC.args,blk aZ [nV c_.regs] 3,ow [.slice ak aG.length aR] aG,blk ac [.slice none 0 0,.slice aL aF.length aM,nV aA.jump,nV aA.on,.slice aH aA.next_.length aJ] 49,ow [.slice aL aF.length aM] aF,ow [.slice aH aA.next_.length aJ] aA.next_,blk bY [.slice aq aE.phis.length ar,bp,nV ao.2.1,nV ao.2.2.1,bq] 49,ow [.slice aq aE.phis.length ar] bC.phis,ow [bp] ao.1,ow [bq] ao.2.2.2,drnS (sV bT bU an.blocks.length bK) (an.blocks : List Block_) (bN)] a w) (λao=>?_) ?_))))))))
   ·refine gsd 192 rfl (fun fx => ?_) fun fx => ?_
    ·refine gct rfl (gS ?_)
     replace hm : Mem w0 bR _ [ow [.slice bF aE.next_.length bG] bC.next_,ow [.slice bH aE.ins.length bJ] bC.ins,ow [.slice aq aE.phis.length ar] bC.phis,blk aa [nV f.params,nV f.regs,.slice am f.blocks.length ae] 44,blk aN [nV 0,nV 0,.slice none 0 0] 44,blk aO [nV aD.params,nV (w64 (aD.regs + f.regs)),.slice aw al.length ax] 44,ow [.slice aw al.length ax] al,blk ab [nV aC.op,nV aC.to,.slice aS aC.args.length aQ,nV aC.n_] 51,ow [.slice aS aC.args.length aQ] aC.args,blk aZ [nV c_.regs] 3,ow [.slice ak aG.length aR] aG,blk ac [.slice none 0 0,.slice aL aF.length aM,nV aA.jump,nV aA.on,.slice aH aA.next_.length aJ] 49,ow [.slice aL aF.length aM] aF,ow [.slice aH aA.next_.length aJ] aA.next_,blk bY [.slice aq aE.phis.length ar,.slice bH aE.ins.length bJ,nV aE.jump,nV aE.on,.slice bF aE.next_.length bG] 49,drnS (sV bT bU an.blocks.length bK) (an.blocks : List Block_) (bN)] := hm
     refine gW (.p 0 (.p 2 (.p 4 (.p 6 (.p 9 (.q 1 (.q 3 (.q 5 (.q 7 (.p 8 (.p 10 (.p 11 (.p 12 (.q 14 (.e 13 (.p 15 (.e 16 (.p 17 (.e 18 (.e 19 (.p 20 (.e 21 .fin .nil)) .nil) .nil)) .nil)) .nil))))))))))))))) [1,3,5,7,13,14,16,18] [0,2,4,6,8,9,10,11,12,15,17,20] hm [0,1,2,3,4,5,6,7,8,9,10,11,12,13,14,15] [ow [.slice bF aE.next_.length bG] bC.next_,ow [.slice bH aE.ins.length bJ] bC.ins,ow [.slice aq aE.phis.length ar] bC.phis,blk aa [nV f.params,nV f.regs,.slice am f.blocks.length ae] 44,blk aN [nV 0,nV 0,.slice none 0 0] 44,blk aO [nV aD.params,nV (w64 (aD.regs + f.regs)),.slice aw al.length ax] 44,ow [.slice aw al.length ax] al,blk ab [nV aC.op,nV aC.to,.slice aS aC.args.length aQ,nV aC.n_] 51,ow [.slice aS aC.args.length aQ] aC.args,blk aZ [nV c_.regs] 3,ow [.slice ak aG.length aR] aG,blk ac [.slice none 0 0,.slice aL aF.length aM,nV aA.jump,nV aA.on,.slice aH aA.next_.length aJ] 49,ow [.slice aL aF.length aM] aF,ow [.slice aH aA.next_.length aJ] aA.next_,blk bY [.slice aq aE.phis.length ar,.slice bH aE.ins.length bJ,nV aE.jump,nV aE.on,.slice bF aE.next_.length bG] 49,drnS (sV bT bU an.blocks.length bK) (an.blocks : List Block_) (bN)] rfl mxo (by kernel_rfl) (λ_ _ _ h=>h.2) λw hm hS=>tP rfl (λw=>yF fo_49_1 rfl) (tP rfl (λw=>yF fo_51_1 rfl) (tP rfl (λw=>yF fo_44_2 rfl) (tP rfl (λw=>yF fo_44_2 rfl) (tP rfl (λw=>yM rfl) (tQ rfl hS (λw hm=>yL hm 14 isAgg46 rfl) (tQ rfl hS (λw hm=>yL hm 7 isAgg3 rfl) (tQ rfl hS (λw hm=>yL hm 3 isAgg42 rfl) (tQ rfl hS (λw hm=>yL hm 5 isAgg42 rfl) (tP rfl (λw=>yV st_42 rfl) (tP rfl (λw=>yS (by omega) (by omega) rfl) (gg λcS fy eM=>?_)))))))))))
     obtain ⟨d9,da,jg,he⟩ := idx_form' h2 eM
     obtain ⟨rfl,_,rfl⟩ := sl3 he
     obtain ⟨jh,ji,jj,gD,jk,jl,jm⟩ := rk_Block_ h2 eM
     refine tP rfl (λw=>yI st_42 fy (idx_lt eM) rfl) (tP rfl (λw=>yF fo_49_3 rfl) (tQ rfl hS (λw hm=>yL hm 9 isAgg3 rfl) (tO (tY rfl (yl isAgg3 ((gD.mono (Heap.le_trans dJ hm.lez)).cell (j := 3) rfl) rfl) (tAs hS (tP rfl (λw=>yB rfl) (tO (tf rfl rfl (λa hf=>e_build (vs := #[(0,(nV (w64 (cS.on + c_.regs))))]) (cs := [nV (w64 (cS.on + c_.regs))]) et_47 hf hm rfl rfl (by kernel_rfl) rfl rfl) ?_))))))))
     rintro _ w ⟨cT,rfl,hm⟩
     replace hm := hm.lit (xs := ([w64 (cS.on + c_.regs)] : List Int)) 0 rfl rfl rfl rfl
     refine tAk hm [1,2,3,4,5,6,7,8,9,10,11,12,13,14,15,16] rfl λhS=>tP rfl (λw=>yG rfl (y_build (vs := [(0,(nV 2)),(1,(nV aC.to)),(2,(sV cT 0 1 1))]) (cs := #[nV 2,nV aC.to,sV cT 0 1 1,nV 0]) rfl rfl (by kernel_rfl))) (tO (tf rfl rfl (λa hf=>e_build (vs := #[(0,(.agg #[nV 2,nV aC.to,sV cT 0 1 1,nV 0]))]) (cs := [nV 2,nV aC.to,sV cT 0 1 1,nV 0]) et_46 hf hm rfl rfl (by kernel_rfl) rfl rfl) ?_))
     rintro _ w ⟨db,rfl,hm⟩
     replace hm := hm.els_nil (α := Ins_)
     replace hm : Mem w0 bR _ [els [] ([] : List Ins_),blk db [nV 2,nV aC.to,sV cT 0 1 1,nV 0] 51,ow [nV 2,nV aC.to,sV cT 0 1 1,nV 0] ((⟨2,aC.to,([w64 (cS.on + c_.regs)] : List Int),0⟩ : Ins_) : Ins_),ow [.slice bF aE.next_.length bG] bC.next_,ow [.slice bH aE.ins.length bJ] bC.ins,ow [.slice aq aE.phis.length ar] bC.phis,blk aa [nV f.params,nV f.regs,sV d9 da f.blocks.length ae] 44,blk aN [nV 0,nV 0,.slice none 0 0] 44,blk aO [nV aD.params,nV (w64 (aD.regs + f.regs)),.slice aw al.length ax] 44,ow [.slice aw al.length ax] al,blk ab [nV aC.op,nV aC.to,.slice aS aC.args.length aQ,nV aC.n_] 51,ow [.slice aS aC.args.length aQ] aC.args,blk aZ [nV c_.regs] 3,ow [.slice ak aG.length aR] aG,blk ac [.slice none 0 0,.slice aL aF.length aM,nV aA.jump,nV aA.on,.slice aH aA.next_.length aJ] 49,ow [.slice aL aF.length aM] aF,ow [.slice aH aA.next_.length aJ] aA.next_,blk bY [.slice aq aE.phis.length ar,.slice bH aE.ins.length bJ,nV aE.jump,nV aE.on,.slice bF aE.next_.length bG] 49,drnS (sV bT bU an.blocks.length bK) (an.blocks : List Block_) (bN)] := mk_Ins_ 2 aC.to 0 hm 2 rfl
     replace hm := (hm.els_cons 0 2 (by decide) rfl rfl).pk (L' := [els [nV 2,nV aC.to,sV cT 0 1 1,nV 0] ([(⟨2,aC.to,([w64 (cS.on + c_.regs)] : List Int),0⟩ : Ins_)] : List Ins_),blk db [nV 2,nV aC.to,sV cT 0 1 1,nV 0] 51,ow [.slice bF aE.next_.length bG] bC.next_,ow [.slice bH aE.ins.length bJ] bC.ins,ow [.slice aq aE.phis.length ar] bC.phis,blk aa [nV f.params,nV f.regs,sV d9 da f.blocks.length ae] 44,blk aN [nV 0,nV 0,.slice none 0 0] 44,blk aO [nV aD.params,nV (w64 (aD.regs + f.regs)),.slice aw al.length ax] 44,ow [.slice aw al.length ax] al,blk ab [nV aC.op,nV aC.to,.slice aS aC.args.length aQ,nV aC.n_] 51,ow [.slice aS aC.args.length aQ] aC.args,blk aZ [nV c_.regs] 3,ow [.slice ak aG.length aR] aG,blk ac [.slice none 0 0,.slice aL aF.length aM,nV aA.jump,nV aA.on,.slice aH aA.next_.length aJ] 49,ow [.slice aL aF.length aM] aF,ow [.slice aH aA.next_.length aJ] aA.next_,blk bY [.slice aq aE.phis.length ar,.slice bH aE.ins.length bJ,nV aE.jump,nV aE.on,.slice bF aE.next_.length bG] 49,drnS (sV bT bU an.blocks.length bK) (an.blocks : List Block_) (bN)]) [0,1,3,4,5,6,7,8,9,10,11,12,13,14,15,16,17,18] rfl rfl
     replace hm := (hm.lit_els 1 0 (by decide) rfl rfl rfl rfl).pk (L' := [ow [sV db 0 1 1] ([(⟨2,aC.to,([w64 (cS.on + c_.regs)] : List Int),0⟩ : Ins_)] : List Ins_),ow [.slice bF aE.next_.length bG] bC.next_,ow [.slice bH aE.ins.length bJ] bC.ins,ow [.slice aq aE.phis.length ar] bC.phis,blk aa [nV f.params,nV f.regs,sV d9 da f.blocks.length ae] 44,blk aN [nV 0,nV 0,.slice none 0 0] 44,blk aO [nV aD.params,nV (w64 (aD.regs + f.regs)),.slice aw al.length ax] 44,ow [.slice aw al.length ax] al,blk ab [nV aC.op,nV aC.to,.slice aS aC.args.length aQ,nV aC.n_] 51,ow [.slice aS aC.args.length aQ] aC.args,blk aZ [nV c_.regs] 3,ow [.slice ak aG.length aR] aG,blk ac [.slice none 0 0,.slice aL aF.length aM,nV aA.jump,nV aA.on,.slice aH aA.next_.length aJ] 49,ow [.slice aL aF.length aM] aF,ow [.slice aH aA.next_.length aJ] aA.next_,blk bY [.slice aq aE.phis.length ar,.slice bH aE.ins.length bJ,nV aE.jump,nV aE.on,.slice bF aE.next_.length bG] 49,drnS (sV bT bU an.blocks.length bK) (an.blocks : List Block_) (bN)]) [1,2,3,4,5,6,7,8,9,10,11,12,13,14,15,16,17] rfl rfl
     refine tAk hm [1,2,3,4,5,6,7,8,9,10,11,12,13,14,15,16] rfl λhS=>tO (gb λjn gG=>?_)
     obtain ⟨gH,gK⟩ := appM_some.1 gG
     replace hm := (hm.both 2 0 (by decide) rfl rfl).pk (L' := [ow [.slice bF aE.next_.length bG] bC.next_,both (ow [.slice bH aE.ins.length bJ] bC.ins) (ow [sV db 0 1 1] ([(⟨2,aC.to,([w64 (cS.on + c_.regs)] : List Int),0⟩ : Ins_)] : List Ins_)),ow [.slice aq aE.phis.length ar] bC.phis,blk aa [nV f.params,nV f.regs,sV d9 da f.blocks.length ae] 44,blk aN [nV 0,nV 0,.slice none 0 0] 44,blk aO [nV aD.params,nV (w64 (aD.regs + f.regs)),.slice aw al.length ax] 44,ow [.slice aw al.length ax] al,blk ab [nV aC.op,nV aC.to,.slice aS aC.args.length aQ,nV aC.n_] 51,ow [.slice aS aC.args.length aQ] aC.args,blk aZ [nV c_.regs] 3,ow [.slice ak aG.length aR] aG,blk ac [.slice none 0 0,.slice aL aF.length aM,nV aA.jump,nV aA.on,.slice aH aA.next_.length aJ] 49,ow [.slice aL aF.length aM] aF,ow [.slice aH aA.next_.length aJ] aA.next_,blk bY [.slice aq aE.phis.length ar,.slice bH aE.ins.length bJ,nV aE.jump,nV aE.on,.slice bF aE.next_.length bG] 49,drnS (sV bT bU an.blocks.length bK) (an.blocks : List Block_) (bN)]) [1,2,3,4,5,6,7,8,9,10,11,12,13,14,15,16] rfl rfl
     refine tf rfl rfl (λa hf=>e_appendD (xs := bC.ins) (ys := ([(⟨2,aC.to,([w64 (cS.on + c_.regs)] : List Int),0⟩ : Ins_)] : List Ins_)) 1 et_46 hf hm rfl rfl rfl rfl gH) ?_
     rintro gQ w hm
     rw [gK] at hm
     refine tAn rfl (tP rfl (λw=>yF fo_49_1 rfl) (tO (tf0 rfl rfl (λa hf=>e_store1 14 hf hm rfl sizeOf46 rfl rfl rfl (rep_one (hm.ow_rep 1 rfl)) rfl) ?_)))
     rintro _ w hm
     refine tAn rfl (tE (gR (gM rfl (gf rfl (λa hf=>e_build (vs := #[(0,(nV (((c_.blocks.length : Int)) + ((f.blocks.length : Int)))))]) (cs := [nV (((c_.blocks.length : Int)) + ((f.blocks.length : Int)))]) et_47 hf hm rfl rfl (by kernel_rfl) rfl rfl) ?_))))
     rintro _ w ⟨gT,rfl,hm⟩
     replace hm := hm.lit (xs := ([((c_.blocks.length : Int)) + ((f.blocks.length : Int))] : List Int)) 0 rfl rfl rfl rfl
     exact gF fo_49_2 rfl (gS1 hm 15 sizeOf3 rfl rfl λw hm=>gF fo_49_3 rfl (gS1 hm 15 sizeOf3 rfl rfl λw hm=>gF fo_49_4 rfl (gS1 hm 15 sizeOf47 rfl rfl λw hm=>gE (gZ λa hf=>⟨gQ,sV gT 0 1 1,hf.sb rfl,hm.pk [4,5,6,7,8,9,10,11,12,13,14,15,3,2,0,16] rfl rfl⟩))))
    refine gcf rfl (gS (gR (gF fo_49_2 rfl (gL hm 14 isAgg3 rfl (gB rfl (gE (gJ hm (λdc=>[(2,(nV b_)),(5,(pV aa)),(8,(pV aN)),(9,(pV aO)),(10,(pV ab)),(11,(pV aZ)),(12,(nV ((c_.blocks.length : Int)))),(13,(nV (((c_.blocks.length : Int)) + ((f.blocks.length : Int))))),(14,(.slice ak aG.length aR)),(16,(pV ac)),(22,(pV bY)),(164,(sV bT bU an.blocks.length bK)),(165,(nV ((an.blocks.length : Int)))),(166,(nV bN))]) (λdc=>[blk aa [nV f.params,nV f.regs,.slice am f.blocks.length ae] 44,blk aN [nV 0,nV 0,.slice none 0 0] 44,blk aO [nV aD.params,nV (w64 (aD.regs + f.regs)),.slice aw al.length ax] 44,ow [.slice aw al.length ax] al,blk ab [nV aC.op,nV aC.to,.slice aS aC.args.length aQ,nV aC.n_] 51,ow [.slice aS aC.args.length aQ] aC.args,blk aZ [nV c_.regs] 3,ow [.slice ak aG.length aR] aG,blk ac [.slice none 0 0,.slice aL aF.length aM,nV aA.jump,nV aA.on,.slice aH aA.next_.length aJ] 49,ow [.slice aL aF.length aM] aF,ow [.slice aH aA.next_.length aJ] aA.next_,blk bY [.slice aq aE.phis.length ar,.slice bH aE.ins.length bJ,nV aE.jump,nV dc,.slice bF aE.next_.length bG] 49,ow [.slice aq aE.phis.length ar] bC.phis,ow [.slice bH aE.ins.length bJ] bC.ins,ow [.slice bF aE.next_.length bG] bC.next_,drnS (sV bT bU an.blocks.length bK) (an.blocks : List Block_) (bN)]) (λdc=>?_) ?_)))))))
    ·refine gsd 221 rfl (fun gU => ?_) fun gU => ?_
     ·refine gct rfl ?_
      replace hm : Mem w0 bR _ [ow [.slice bF aE.next_.length bG] bC.next_,ow [.slice bH aE.ins.length bJ] bC.ins,ow [.slice aq aE.phis.length ar] bC.phis,blk aa [nV f.params,nV f.regs,.slice am f.blocks.length ae] 44,blk aN [nV 0,nV 0,.slice none 0 0] 44,blk aO [nV aD.params,nV (w64 (aD.regs + f.regs)),.slice aw al.length ax] 44,ow [.slice aw al.length ax] al,blk ab [nV aC.op,nV aC.to,.slice aS aC.args.length aQ,nV aC.n_] 51,ow [.slice aS aC.args.length aQ] aC.args,blk aZ [nV c_.regs] 3,ow [.slice ak aG.length aR] aG,blk ac [.slice none 0 0,.slice aL aF.length aM,nV aA.jump,nV aA.on,.slice aH aA.next_.length aJ] 49,ow [.slice aL aF.length aM] aF,ow [.slice aH aA.next_.length aJ] aA.next_,blk bY [.slice aq aE.phis.length ar,.slice bH aE.ins.length bJ,nV aE.jump,nV aE.on,.slice bF aE.next_.length bG] 49,drnS (sV bT bU an.blocks.length bK) (an.blocks : List Block_) (bN)] := hm
      refine gW (.p 0 (.p 2 (.p 5 (.q 1 (.q 3 (.p 4 (.p 6 (.p 7 (.p 8 (.q 10 (.e 9 (.p 11 (.p 12 (.e 13 .fin .nil))) .nil))))))))))) [1,3,9,10] [0,2,4,5,6,7,8,11,12] hm [0,1,2,3,4,5,6,7,8,9,10,11,12,13,14,15] [ow [.slice bF aE.next_.length bG] bC.next_,ow [.slice bH aE.ins.length bJ] bC.ins,ow [.slice aq aE.phis.length ar] bC.phis,blk aa [nV f.params,nV f.regs,.slice am f.blocks.length ae] 44,blk aN [nV 0,nV 0,.slice none 0 0] 44,blk aO [nV aD.params,nV (w64 (aD.regs + f.regs)),.slice aw al.length ax] 44,ow [.slice aw al.length ax] al,blk ab [nV aC.op,nV aC.to,.slice aS aC.args.length aQ,nV aC.n_] 51,ow [.slice aS aC.args.length aQ] aC.args,blk aZ [nV c_.regs] 3,ow [.slice ak aG.length aR] aG,blk ac [.slice none 0 0,.slice aL aF.length aM,nV aA.jump,nV aA.on,.slice aH aA.next_.length aJ] 49,ow [.slice aL aF.length aM] aF,ow [.slice aH aA.next_.length aJ] aA.next_,blk bY [.slice aq aE.phis.length ar,.slice bH aE.ins.length bJ,nV aE.jump,nV aE.on,.slice bF aE.next_.length bG] 49,drnS (sV bT bU an.blocks.length bK) (an.blocks : List Block_) (bN)] rfl mxo (by kernel_rfl) (λ_ _ _ h=>h.2) λw hm hS=>tP rfl (λw=>yF fo_44_2 rfl) (tP rfl (λw=>yF fo_44_2 rfl) (tP rfl (λw=>yM rfl) (tQ rfl hS (λw hm=>yL hm 3 isAgg42 rfl) (tQ rfl hS (λw hm=>yL hm 5 isAgg42 rfl) (tP rfl (λw=>yV st_42 rfl) (tP rfl (λw=>yS (by omega) (by omega) rfl) (gg λjo gV eN=>?_)))))))
      obtain ⟨jp,jq,jr,he⟩ := idx_form' h2 eN
      obtain ⟨rfl,_,rfl⟩ := sl3 he
      obtain ⟨jt,ju,jv,g9,jw,jx,jy⟩ := rk_Block_ h2 eN
      refine tP rfl (λw=>yI st_42 gV (idx_lt eN) rfl) (tP rfl (λw=>yF fo_49_3 rfl) (tQ rfl hS (λw hm=>yL hm 9 isAgg3 rfl) (tO (tY rfl (yl isAgg3 ((g9.mono (Heap.le_trans dJ hm.lez)).cell (j := 3) rfl) rfl) (tAs hS (tP rfl (λw=>yB rfl) (tP rfl (λw=>yF fo_49_3 rfl) (tO (tf0 rfl rfl (λa hf=>e_store1 14 hf hm rfl sizeOf3 rfl rfl rfl rfl rfl) ?_)))))))))
      rintro _ w hm
      exact tAn rfl (tE (gz hm [3,4,5,6,7,8,9,10,11,12,13,14,2,1,0,15] rfl))
     exact gcf rfl (gSk (gz hm [3,4,5,6,7,8,9,10,11,12,13,14,2,1,0,15] rfl))
    repeat clear hm
    intro dc w hm
    exact gZ λa hf=>⟨.slice bH aE.ins.length bJ,.slice bF aE.next_.length bG,hf.sb rfl,hm.pk [0,1,2,3,4,5,6,7,8,9,10,11,12,13,14,15] rfl rfl⟩
   repeat clear hm
   rintro ao a w ⟨bp,bq,hf,hm⟩
   refine gv hf (gR (gF fo_44_2 rfl (gL hm 2 isAgg42 rfl (gY (yn (hm.blk_at 11 rfl) isAgg49 sizeOf49 rfl) (gf rfl (λa hf=>e_build (vs := #[(0,(.agg #[.slice aq aE.phis.length ar,bp,nV ao.2.1,nV ao.2.2.1,bq]))]) (cs := [.slice aq aE.phis.length ar,bp,nV ao.2.1,nV ao.2.2.1,bq]) et_42 hf hm rfl rfl (by kernel_rfl) rfl rfl) ?_)))))
   rintro _ w ⟨dN,rfl,hm⟩
   have jz : CellsAt (hp _) dN 0 [.slice aq aE.phis.length ar,bp,nV ao.2.1,nV ao.2.2.1,bq] := hm.blk_part (i := 0) 0 rfl rfl
   have kA := isSl (hm.ow_rep 13 rfl)
   have kB := isSl (hm.ow_rep 14 rfl)
   have kC := isSl (hm.ow_rep 15 rfl)
   replace hm := hm.els_nil (α := Block_)
   replace hm := (mk_Block_ ao.2.1 ao.2.2.1 hm 14 15 16 rfl).pk (L' := [els [] ([] : List Block_),blk dN [.slice aq aE.phis.length ar,bp,nV ao.2.1,nV ao.2.2.1,bq] 49,blk aa [nV f.params,nV f.regs,.slice am f.blocks.length ae] 44,blk aN [nV 0,nV 0,.slice none 0 0] 44,blk aO [nV aD.params,nV (w64 (aD.regs + f.regs)),.slice aw al.length ax] 44,ow [.slice aw al.length ax] al,blk ab [nV aC.op,nV aC.to,.slice aS aC.args.length aQ,nV aC.n_] 51,ow [.slice aS aC.args.length aQ] aC.args,blk aZ [nV c_.regs] 3,ow [.slice ak aG.length aR] aG,blk ac [.slice none 0 0,.slice aL aF.length aM,nV aA.jump,nV aA.on,.slice aH aA.next_.length aJ] 49,ow [.slice aL aF.length aM] aF,ow [.slice aH aA.next_.length aJ] aA.next_,blk bY [.slice aq aE.phis.length ar,bp,nV ao.2.1,nV ao.2.2.1,bq] 49,ow [.slice aq aE.phis.length ar,bp,nV ao.2.1,nV ao.2.2.1,bq] ((⟨bC.phis,ao.1,ao.2.1,ao.2.2.1,ao.2.2.2⟩ : Block_) : Block_),drnS (sV bT bU an.blocks.length bK) (an.blocks : List Block_) (bN)]) [0,1,2,3,4,5,6,7,8,9,10,11,12,13,14,17] rfl rfl
   replace hm := (hm.els_cons 0 14 (by decide) rfl rfl).pk (L' := [els [.slice aq aE.phis.length ar,bp,nV ao.2.1,nV ao.2.2.1,bq] ([(⟨bC.phis,ao.1,ao.2.1,ao.2.2.1,ao.2.2.2⟩ : Block_)] : List Block_),blk dN [.slice aq aE.phis.length ar,bp,nV ao.2.1,nV ao.2.2.1,bq] 49,blk aa [nV f.params,nV f.regs,.slice am f.blocks.length ae] 44,blk aN [nV 0,nV 0,.slice none 0 0] 44,blk aO [nV aD.params,nV (w64 (aD.regs + f.regs)),.slice aw al.length ax] 44,ow [.slice aw al.length ax] al,blk ab [nV aC.op,nV aC.to,.slice aS aC.args.length aQ,nV aC.n_] 51,ow [.slice aS aC.args.length aQ] aC.args,blk aZ [nV c_.regs] 3,ow [.slice ak aG.length aR] aG,blk ac [.slice none 0 0,.slice aL aF.length aM,nV aA.jump,nV aA.on,.slice aH aA.next_.length aJ] 49,ow [.slice aL aF.length aM] aF,ow [.slice aH aA.next_.length aJ] aA.next_,blk bY [.slice aq aE.phis.length ar,bp,nV ao.2.1,nV ao.2.2.1,bq] 49,drnS (sV bT bU an.blocks.length bK) (an.blocks : List Block_) (bN)]) [0,1,2,3,4,5,6,7,8,9,10,11,12,13,15] rfl rfl
   replace hm := (hm.lit_els 1 0 (by decide) rfl rfl rfl rfl).pk (L' := [ow [sV dN 0 1 1] ([(⟨bC.phis,ao.1,ao.2.1,ao.2.2.1,ao.2.2.2⟩ : Block_)] : List Block_),blk aa [nV f.params,nV f.regs,.slice am f.blocks.length ae] 44,blk aN [nV 0,nV 0,.slice none 0 0] 44,blk aO [nV aD.params,nV (w64 (aD.regs + f.regs)),.slice aw al.length ax] 44,ow [.slice aw al.length ax] al,blk ab [nV aC.op,nV aC.to,.slice aS aC.args.length aQ,nV aC.n_] 51,ow [.slice aS aC.args.length aQ] aC.args,blk aZ [nV c_.regs] 3,ow [.slice ak aG.length aR] aG,blk ac [.slice none 0 0,.slice aL aF.length aM,nV aA.jump,nV aA.on,.slice aH aA.next_.length aJ] 49,ow [.slice aL aF.length aM] aF,ow [.slice aH aA.next_.length aJ] aA.next_,blk bY [.slice aq aE.phis.length ar,bp,nV ao.2.1,nV ao.2.2.1,bq] 49,drnS (sV bT bU an.blocks.length bK) (an.blocks : List Block_) (bN)]) [1,2,3,4,5,6,7,8,9,10,11,12,13,14] rfl rfl
   refine gb λkD ga=>?_
   obtain ⟨gc,ge⟩ := appM_some.1 ga
   replace hm := (hm.both 4 0 (by decide) rfl rfl).pk (L' := [blk aa [nV f.params,nV f.regs,.slice am f.blocks.length ae] 44,blk aN [nV 0,nV 0,.slice none 0 0] 44,blk aO [nV aD.params,nV (w64 (aD.regs + f.regs)),.slice aw al.length ax] 44,both (ow [.slice aw al.length ax] al) (ow [sV dN 0 1 1] ([(⟨bC.phis,ao.1,ao.2.1,ao.2.2.1,ao.2.2.2⟩ : Block_)] : List Block_)),blk ab [nV aC.op,nV aC.to,.slice aS aC.args.length aQ,nV aC.n_] 51,ow [.slice aS aC.args.length aQ] aC.args,blk aZ [nV c_.regs] 3,ow [.slice ak aG.length aR] aG,blk ac [.slice none 0 0,.slice aL aF.length aM,nV aA.jump,nV aA.on,.slice aH aA.next_.length aJ] 49,ow [.slice aL aF.length aM] aF,ow [.slice aH aA.next_.length aJ] aA.next_,blk bY [.slice aq aE.phis.length ar,bp,nV ao.2.1,nV ao.2.2.1,bq] 49,drnS (sV bT bU an.blocks.length bK) (an.blocks : List Block_) (bN)]) [1,2,3,4,5,6,7,8,9,10,11,12,13] rfl rfl
   refine gf rfl (λa hf=>e_appendD (xs := al) (ys := ([(⟨bC.phis,ao.1,ao.2.1,ao.2.2.1,ao.2.2.2⟩ : Block_)] : List Block_)) 3 et_42 hf hm rfl rfl rfl rfl gc) ?_
   rintro gh w hm
   rw [ge] at hm
   refine gF fo_44_2 rfl (gS1 hm 2 sizeOf42 (rep_one (hm.ow_rep 3 rfl)) rfl λw hm=>gE (gR (gP (by omega) (by omega) rfl (gM rfl (gE ?_)))))
   replace hm := hm.drnS_next 12 rfl
   exact gZe λa hf=>⟨gh,hf.sb rfl,hm.pk [0,1,2,3,4,5,6,7,8,9,10,12] rfl rfl⟩
  repeat clear hm
  rintro dd dO a w ⟨eO,hf,hm⟩ kE kF
  refine gv hf (gS (gR (gB rfl (gE (gS (go _ 167 rfl (decide_eq_false (by omega)) (gcf rfl (gXt (gHh (gS (gR (gF fo_44_2 rfl (gL hm 2 isAgg42 rfl (gY (yn (hm.blk_at 8 rfl) isAgg49 sizeOf49 rfl) (gf rfl (λa hf=>e_build (vs := #[(0,(.agg #[.slice none 0 0,.slice aL aF.length aM,nV aA.jump,nV aA.on,.slice aH aA.next_.length aJ]))]) (cs := [.slice none 0 0,.slice aL aF.length aM,nV aA.jump,nV aA.on,.slice aH aA.next_.length aJ]) et_42 hf hm rfl rfl (by kernel_rfl) rfl rfl) ?_)))))))))))))))
  rintro _ w ⟨gi,rfl,hm⟩
  refine gb λaX gj=>?_
  obtain ⟨gk,ep⟩ := appM_some.1 gj
  have gm : ∀ u ∈ ([.slice none 0 0,.slice aL aF.length aM,nV aA.jump,nV aA.on,.slice aH aA.next_.length aJ] : List Value),u.oneCell' = true := (one_cons rfl (one_cons rfl (one_cons rfl (one_cons rfl (one_cons rfl one_nil)))))
  replace hm := (hm.both 4 0 (by decide) rfl rfl).pk (L' := [blk aa [nV f.params,nV f.regs,.slice am f.blocks.length ae] 44,blk aN [nV 0,nV 0,.slice none 0 0] 44,blk aO [nV aD.params,nV (w64 (aD.regs + f.regs)),eO] 44,both (ow [eO] dO) (blk gi [.slice none 0 0,.slice aL aF.length aM,nV aA.jump,nV aA.on,.slice aH aA.next_.length aJ] 49),blk ab [nV aC.op,nV aC.to,.slice aS aC.args.length aQ,nV aC.n_] 51,ow [.slice aS aC.args.length aQ] aC.args,blk aZ [nV c_.regs] 3,ow [.slice ak aG.length aR] aG,blk ac [.slice none 0 0,.slice aL aF.length aM,nV aA.jump,nV aA.on,.slice aH aA.next_.length aJ] 49,ow [.slice aL aF.length aM] aF,ow [.slice aH aA.next_.length aJ] aA.next_,drnV (.slice cv an.blocks.length bK) (an.blocks : List Block_) (dd)]) [1,2,3,4,5,6,7,8,9,10,11,12] rfl rfl
  refine gf rfl (λa hf=>e_appendP (xs := dO) ((⟨[],aF,aA.jump,aA.on,aA.next_⟩ : Block_) : Block_) 3 et_42 hf hm rfl rfl gm rfl rfl rfl gk ep) ?_
  rintro _ w ⟨af,ah,ai,rfl,hm⟩
  have gp := snoc_at ep
  replace hm : Mem w0 bR _ [blk aa [nV f.params,nV f.regs,.slice am f.blocks.length ae] 44,blk aN [nV 0,nV 0,.slice none 0 0] 44,blk aO [nV aD.params,nV (w64 (aD.regs + f.regs)),eO] 44,holeE af ah aX.length ai (aX : List Block_) ((dO.length : Int)).toNat [.slice none 0 0,.slice aL aF.length aM,nV aA.jump,nV aA.on,.slice aH aA.next_.length aJ],blk ab [nV aC.op,nV aC.to,.slice aS aC.args.length aQ,nV aC.n_] 51,ow [.slice aS aC.args.length aQ] aC.args,blk aZ [nV c_.regs] 3,ow [.slice ak aG.length aR] aG,blk ac [.slice none 0 0,.slice aL aF.length aM,nV aA.jump,nV aA.on,.slice aH aA.next_.length aJ] 49,ow [.slice aL aF.length aM] aF,ow [.slice aH aA.next_.length aJ] aA.next_,drnV (.slice cv an.blocks.length bK) (an.blocks : List Block_) (dd)] := hm
  refine gF fo_44_2 rfl (gS1 hm 2 sizeOf42 rfl rfl λw hm=>gE (gS (gS (gR (gF fo_49_4 rfl (gL hm 8 isAgg47 rfl (gCg rfl call59 (impl_once_ok _ aA.next_ (.slice aH aA.next_.length aJ) (hm.ow_rep 10 rfl)) ?_)))))))
  rintro bV kG kH w ⟨_,rfl,hB⟩
  replace hm := hm.give hB; clear hB
  obtain ⟨de,bt,rfl,kI⟩ := ro_slice (hm.ow_rep 0 rfl)
  refine gY (yV st_47 rfl) (gM rfl (gE (gBk ?_)))
  replace hm := hm.nilow (α := Phi_)
  replace hm := (mk_Block_ aA.jump aA.on hm 0 11 12 rfl).pk (L' := [ow [.slice none 0 0,.slice aL aF.length aM,nV aA.jump,nV aA.on,.slice aH aA.next_.length aJ] ((⟨[],aF,aA.jump,aA.on,aA.next_⟩ : Block_) : Block_),ow [.slice de bV.length bt] bV,blk aa [nV f.params,nV f.regs,.slice am f.blocks.length ae] 44,blk aN [nV 0,nV 0,.slice none 0 0] 44,blk aO [nV aD.params,nV (w64 (aD.regs + f.regs)),sV af ah aX.length ai] 44,holeE af ah aX.length ai (aX : List Block_) ((dO.length : Int)).toNat [.slice none 0 0,.slice aL aF.length aM,nV aA.jump,nV aA.on,.slice aH aA.next_.length aJ],blk ab [nV aC.op,nV aC.to,.slice aS aC.args.length aQ,nV aC.n_] 51,ow [.slice aS aC.args.length aQ] aC.args,blk aZ [nV c_.regs] 3,ow [.slice ak aG.length aR] aG,blk ac [.slice none 0 0,.slice aL aF.length aM,nV aA.jump,nV aA.on,.slice aH aA.next_.length aJ] 49,drnV (.slice cv an.blocks.length bK) (an.blocks : List Block_) (dd)]) [0,1,2,3,4,5,6,7,8,9,10,13] rfl rfl
  replace hm := (hm.shutE (y := ((⟨[],aF,aA.jump,aA.on,aA.next_⟩ : Block_) : Block_)) 5 0 (by decide) rfl rfl).pk (L' := [ow [.slice de bV.length bt] bV,blk aa [nV f.params,nV f.regs,.slice am f.blocks.length ae] 44,blk aN [nV 0,nV 0,.slice none 0 0] 44,blk aO [nV aD.params,nV (w64 (aD.regs + f.regs)),sV af ah aX.length ai] 44,ow [sV af ah aX.length ai] (aX.set ((dO.length : Int)).toNat (⟨[],aF,aA.jump,aA.on,aA.next_⟩ : Block_)),blk ab [nV aC.op,nV aC.to,.slice aS aC.args.length aQ,nV aC.n_] 51,ow [.slice aS aC.args.length aQ] aC.args,blk aZ [nV c_.regs] 3,ow [.slice ak aG.length aR] aG,blk ac [.slice none 0 0,.slice aL aF.length aM,nV aA.jump,nV aA.on,.slice aH aA.next_.length aJ] 49,drnV (.slice cv an.blocks.length bK) (an.blocks : List Block_) (dd)]) [1,2,3,4,5,6,7,8,9,10,11] rfl rfl
  rw [set_same gp] at hm
  refine gNf hm (λdf bv=>[(2,(nV b_)),(8,(pV aN)),(9,(pV aO)),(12,(nV ((c_.blocks.length : Int)))),(13,(nV (((c_.blocks.length : Int)) + ((f.blocks.length : Int))))),(14,(.slice ak aG.length aR)),(250,(.slice de bV.length bt)),(251,(nV ((bV.length : Int)))),(252,(nV df))]) (λdf bv=>[blk aN [nV 0,nV 0,.slice none 0 0] 44,blk aO [nV aD.params,nV (w64 (aD.regs + f.regs)),sV af ah aX.length ai] 44,ow [sV af ah aX.length ai] aX,ow [.slice ak aG.length aR] bv,ow [.slice de bV.length bt] bV]) [2,3,4,8,0] rfl ?_ ?_
  ·repeat clear hm
   intro _ _ df bv w hm kJ kK kL _
   refine gS (gR (gB rfl (gE (gS (go _ 253 rfl (decide_eq_true (by omega)) (gct rfl (gSk (gS (gBk (gS (gR (gg λcH gq eP=>?_))))))))))))
   obtain ⟨cU,cV,kM,he⟩ := idx_form (hm.ow_rep 4 rfl) eP
   obtain ⟨rfl,_,rfl⟩ := sl3 he
   refine gI st_47 gq (idx_lt eP) rfl (gY (yl isAgg3 ((flat_cells (cs := [nV cH]) (hm.ow_rep 4 rfl) eP rfl).cell (j := 0) rfl) rfl) (gA rfl (gE (gS (gR (gM rfl (gM rfl (gg λbj gr dP=>?_))))))))
   obtain ⟨cI,cJ,kN,he⟩ := idx_form' (hm.ow_rep 3 rfl) dP
   obtain ⟨rfl,_,rfl⟩ := sl3 he
   obtain ⟨_,_,et,gt⟩ := ro_get' (hm.ow_rep 3 rfl) dP
   have eQ := gt
   obtain ⟨eu,rfl,-⟩ := id eQ
   replace eQ : GT.rep (hp _) [eu] bj := eQ
   replace et : CellsAt (hp _) cI (cJ + (cH).toNat * 1) [eu] := et
   have hL1_2 := rep_slice_len (hm.ow_rep 3 rfl)
   refine gI st_82 gr (idx_lt2 dP hL1_2) rfl ?_
   obtain ⟨_,gu,hm⟩ := hm.openE 3 rfl dP
   have gw := hm.ow_rep 0 rfl
   have dg := gw
   obtain ⟨dQ,rfl,-⟩ := id dg
   replace dg : GT.rep (hp _) [dQ] bj := dg
   clear gu dg
   replace hm : Mem w0 bR _ [ow [dQ] (bj : List (MapS Int)),blk aN [nV 0,nV 0,.slice none 0 0] 44,blk aO [nV aD.params,nV (w64 (aD.regs + f.regs)),sV af ah aX.length ai] 44,ow [sV af ah aX.length ai] aX,holeE cI cJ aG.length aR (bv : List (List (MapS Int))) (cH).toNat [dQ],ow [sV cU cV bV.length bt] bV] := hm
   replace hm := hm.pk (L' := [ow [dQ] bj,blk aN [nV 0,nV 0,.slice none 0 0] 44,blk aO [nV aD.params,nV (w64 (aD.regs + f.regs)),sV af ah aX.length ai] 44,ow [sV af ah aX.length ai] aX,holeE cI cJ aG.length aR (bv : List (List (MapS Int))) (cH).toNat [dQ],ow [sV cU cV bV.length bt] bV]) [0,1,2,3,4,5] rfl rfl
   refine gY (yl isAgg99 ((hm.holeE_at 4 rfl).cell (j := 0) rfl) rfl) ?_
   obtain ⟨dh,bx,rfl,kO⟩ := ro_slice (hm.ow_rep 0 rfl)
   refine gY (yV st_99 rfl) (gM rfl (gE (gBk (gNf hm (λcl cx=>[(2,(nV b_)),(8,(pV aN)),(9,(pV aO)),(12,(nV ((c_.blocks.length : Int)))),(13,(nV (((c_.blocks.length : Int)) + ((f.blocks.length : Int))))),(14,(sV cI cJ aG.length aR)),(250,(sV cU cV bV.length bt)),(251,(nV ((bV.length : Int)))),(252,(nV df)),(259,(.slice dh bj.length bx)),(260,(nV ((bj.length : Int)))),(261,(nV cl))]) (λcl cx=>[blk aN [nV 0,nV 0,.slice none 0 0] 44,blk aO [nV aD.params,nV (w64 (aD.regs + f.regs)),sV af ah aX.length ai] 44,ow [sV af ah aX.length ai] aX,holeE cI cJ aG.length aR (bv : List (List (MapS Int))) (cH).toNat [.slice dh bj.length bx],ow [.slice dh bj.length bx] cx,ow [sV cU cV bV.length bt] bV]) [1,2,3,4,0,5] rfl ?_ ?_))))
   ·repeat clear hm
    intro _ _ cl cx w hm kP kQ kR _
    refine gS (gR (gB rfl (gE (gS (go _ 262 rfl (decide_eq_true (by omega)) (gct rfl (gSk (gS (gBk (gS (gR (gg λbg gx dR=>?_))))))))))))
    obtain ⟨cm,cn,kS,he⟩ := idx_form' (hm.ow_rep 4 rfl) dR
    obtain ⟨rfl,_,rfl⟩ := sl3 he
    obtain ⟨_,_,ew,gy⟩ := ro_get' (hm.ow_rep 4 rfl) dR
    have eR := gy
    obtain ⟨ey,rfl,-⟩ := id eR
    replace eR : GT.rep (hp _) [ey] bg := eR
    replace ew : CellsAt (hp _) cm (cn + (cl).toNat * 1) [ey] := ew
    have hL2_3 := rep_slice_len (hm.ow_rep 4 rfl)
    refine gI st_99 gx (idx_lt2 dR hL2_3) rfl ?_
    obtain ⟨_,hD,hm⟩ := hm.openE 4 rfl dR
    have hO := hm.ow_rep 0 rfl
    have di := hO
    obtain ⟨co,rfl,-⟩ := id di
    replace di : GT.rep (hp _) [co] bg := di
    clear hD di
    replace hm : Mem w0 bR _ [ow [co] (bg : MapS Int),blk aN [nV 0,nV 0,.slice none 0 0] 44,blk aO [nV aD.params,nV (w64 (aD.regs + f.regs)),sV af ah aX.length ai] 44,ow [sV af ah aX.length ai] aX,holeE cI cJ aG.length aR (bv : List (List (MapS Int))) (cH).toNat [sV cm cn bj.length bx],holeE cm cn bj.length bx (cx : List (MapS Int)) (cl).toNat [co],ow [sV cU cV bV.length bt] bV] := hm
    replace hm := hm.pk (L' := [ow [co] bg,blk aN [nV 0,nV 0,.slice none 0 0] 44,blk aO [nV aD.params,nV (w64 (aD.regs + f.regs)),sV af ah aX.length ai] 44,ow [sV af ah aX.length ai] aX,holeE cI cJ aG.length aR (bv : List (List (MapS Int))) (cH).toNat [sV cm cn bj.length bx],holeE cm cn bj.length bx (cx : List (MapS Int)) (cl).toNat [co],ow [sV cU cV bV.length bt] bV]) [0,1,2,3,4,5,6] rfl rfl
    refine gY (yl isAgg100 ((hm.holeE_at 5 rfl).cell (j := 0) rfl) rfl) (gA rfl (gE (gS (gR (gM rfl (gM rfl (gM rfl (gM rfl (gY (yG rfl (y_lookI (key := b_) (m := (bg : MapS Int)) underlying3 underlying100 zeroValue3 (hm.ow_rep 0 rfl) rfl rfl rfl)) (gb λkT hU=>?_))))))))))
    replace hm := hm.ow_owm 0 rfl hU
    refine gf0 rfl (λa hf=>e_insM (β := Int) (key := (((c_.blocks.length : Int)) + ((f.blocks.length : Int)))) (u := ((MapS.get bg b_).getD 0)) (b := false) 0 underlying3 underlying100 hf hm rfl rfl rfl rfl rfl) ?_
    rintro _ w hm
    refine gE (gR (gM rfl (gM rfl (gf0 rfl (λa hf=>e_delM (β := Int) (key := b_) 0 underlying3 underlying100 hf hm rfl rfl rfl rfl rfl) ?_))))
    rintro _ w hm
    refine gE ?_
    have kU := owm_cells hm 0 rfl
    replace hm := hm.imp (c' := ow [co] ((MapS.del (MapS.ins bg (((c_.blocks.length : Int)) + ((f.blocks.length : Int))) ((MapS.get bg b_).getD 0)) b_) : MapS Int)) 0 rfl (λF h0=>own_owm h0)
    replace hm := hm.imp (c' := ow [co] ((MapS.del (MapS.ins bg (((c_.blocks.length : Int)) + ((f.blocks.length : Int))) ((MapS.get bg b_).getD 0)) b_) : MapS Int)) 0 rfl (λF h0=>h0)
    replace hm := (hm.shutE (y := ((MapS.del (MapS.ins bg (((c_.blocks.length : Int)) + ((f.blocks.length : Int))) ((MapS.get bg b_).getD 0)) b_) : MapS Int)) 5 0 (by decide) rfl rfl).pk (L' := [blk aN [nV 0,nV 0,.slice none 0 0] 44,blk aO [nV aD.params,nV (w64 (aD.regs + f.regs)),sV af ah aX.length ai] 44,ow [sV af ah aX.length ai] aX,holeE cI cJ aG.length aR (bv : List (List (MapS Int))) (cH).toNat [sV cm cn bj.length bx],ow [sV cm cn bj.length bx] (cx.set (cl).toNat (MapS.del (MapS.ins bg (((c_.blocks.length : Int)) + ((f.blocks.length : Int))) ((MapS.get bg b_).getD 0)) b_)),ow [sV cU cV bV.length bt] bV]) [1,2,3,4,5,6] rfl rfl
    have kV := List.getElem?_set_self (a := ((MapS.del (MapS.ins bg (((c_.blocks.length : Int)) + ((f.blocks.length : Int))) ((MapS.get bg b_).getD 0)) b_) : MapS Int)) (idx_lt dR)
    exact gR (gP (by omega) (by omega) rfl (gM rfl (gE (gze hm [0,1,2,3,4,5] rfl))))
   repeat clear hm
   intro kW dk w hm kX kY
   refine gS (gR (gB rfl (gE (gS (go _ 262 rfl (decide_eq_false (by omega)) (gcf rfl (gXt (gHh ?_))))))))
   replace hm := hm.imp (c' := ow [.slice dh bj.length bx] (dk : List (MapS Int))) 4 rfl (λF h0=>h0)
   replace hm := (hm.shutE (y := (dk : List (MapS Int))) 3 4 (by decide) rfl rfl).pk (L' := [blk aN [nV 0,nV 0,.slice none 0 0] 44,blk aO [nV aD.params,nV (w64 (aD.regs + f.regs)),sV af ah aX.length ai] 44,ow [sV af ah aX.length ai] aX,ow [sV cI cJ aG.length aR] (bv.set (cH).toNat dk),ow [sV cU cV bV.length bt] bV]) [0,1,2,3,5] rfl rfl
   have kZ := List.getElem?_set_self (a := (dk : List (MapS Int))) (idx_lt dP)
   exact gR (gP (by omega) (by omega) rfl (gM rfl (gE (gze hm [0,1,2,3,4] rfl))))
  repeat clear hm
  intro k4 b7 w hm k5 k6
  refine gS (gR (gB rfl (gE (gS (go _ 253 rfl (decide_eq_false (by omega)) (gcf rfl (gXt (gHh (gS (gS (gR (gM rfl (gM rfl (gE (gBk (gNf hm (λav cy=>[(8,(pV aN)),(9,(pV aO)),(14,(.slice ak aG.length aR)),(274,(nV ((c_.blocks.length : Int)))),(275,(nV av))]) (λav cy=>[blk aN [nV 0,nV 0,.slice none 0 0] 44,blk aO [nV aD.params,nV (w64 (aD.regs + f.regs)),sV af ah aX.length ai] 44,ow [sV af ah aX.length ai] cy,ow [.slice ak aG.length aR] b7]) [0,1,2,3] rfl ?_ ?_))))))))))))))))
  ·repeat clear hm
   intro _ _ av cy w hm k7 k8 k9 _
   refine gS (gR (gB rfl (gE (gS (go _ 276 rfl (decide_eq_true (by omega)) (gct rfl (gSk (gS (gBk (gS (gR (gM rfl (gA rfl (gE (gS (gR (gY (yn (hm.blk_at 1 rfl) isAgg44 sizeOf44 rfl) (gM rfl (gCg rfl call60 (impl_PredsOf_ok _ (⟨aD.params,w64 (aD.regs + f.regs),cy⟩ : Code_) (sV af ah aX.length ai) (hm.ow_rep 2 rfl) av) ?_)))))))))))))))))))
   rintro au ka ez w ⟨_,rfl,hB⟩
   replace hm := hm.give hB; clear hB
   refine gA rfl (gE (gS (gR (gM rfl (gM rfl (gg λaj hZ dS=>?_))))))
   obtain ⟨bW,bX,kb,he⟩ := idx_form' (hm.ow_rep 4 rfl) dS
   obtain ⟨rfl,_,rfl⟩ := sl3 he
   obtain ⟨_,_,fA,h9⟩ := ro_get' (hm.ow_rep 4 rfl) dS
   have eS := h9
   obtain ⟨fB,rfl,-⟩ := id eS
   replace eS : GT.rep (hp _) [fB] aj := eS
   replace fA : CellsAt (hp _) bW (bX + (av).toNat * 1) [fB] := fA
   have hL1_3 := rep_slice_len (hm.ow_rep 4 rfl)
   refine gI st_82 hZ (idx_lt2 dS hL1_3) rfl ?_
   obtain ⟨_,iA,hm⟩ := hm.openE 4 rfl dS
   have iB := hm.ow_rep 0 rfl
   have dl := iB
   obtain ⟨dT,rfl,-⟩ := id dl
   replace dl : GT.rep (hp _) [dT] aj := dl
   clear iA dl
   replace hm : Mem w0 bR _ [ow [dT] (aj : List (MapS Int)),ow [ez] au,blk aN [nV 0,nV 0,.slice none 0 0] 44,blk aO [nV aD.params,nV (w64 (aD.regs + f.regs)),sV af ah aX.length ai] 44,ow [sV af ah aX.length ai] cy,holeE bW bX aG.length aR (b7 : List (List (MapS Int))) (av).toNat [dT]] := hm
   replace hm := hm.pk (L' := [ow [dT] aj,ow [ez] au,blk aN [nV 0,nV 0,.slice none 0 0] 44,blk aO [nV aD.params,nV (w64 (aD.regs + f.regs)),sV af ah aX.length ai] 44,ow [sV af ah aX.length ai] cy,holeE bW bX aG.length aR (b7 : List (List (MapS Int))) (av).toNat [dT]]) [0,1,2,3,4,5] rfl rfl
   refine gY (yl isAgg99 ((hm.holeE_at 5 rfl).cell (j := 0) rfl) rfl) ?_
   obtain ⟨dm,ay,rfl,kd⟩ := ro_slice (hm.ow_rep 0 rfl)
   refine gY (yV st_99 rfl) (gM rfl (gE ?_))
   obtain ⟨bZ,b6,rfl,ke⟩ := ro_slice (hm.ow_rep 1 rfl)
   refine gBk (gNf hm (λaz bd=>[(8,(pV aN)),(9,(pV aO)),(14,(sV bW bX aG.length aR)),(28,(nV av)),(29,(.slice bZ au.length b6)),(274,(nV ((c_.blocks.length : Int)))),(275,(nV av)),(284,(.slice dm aj.length ay)),(285,(nV ((aj.length : Int)))),(286,(nV az))]) (λaz bd=>[blk aN [nV 0,nV 0,.slice none 0 0] 44,blk aO [nV aD.params,nV (w64 (aD.regs + f.regs)),sV af ah aX.length ai] 44,ow [sV af ah aX.length ai] bd,holeE bW bX aG.length aR (b7 : List (List (MapS Int))) (av).toNat [.slice dm aj.length ay],ow [.slice dm aj.length ay] aj,ow [.slice bZ au.length b6] au]) [2,3,4,5,0,1] rfl ?_ ?_)
   ·repeat clear hm
    intro _ _ az bd w hm kf kg ki _
    refine gS (gR (gB rfl (gE (gS (go _ 287 rfl (decide_eq_true (by omega)) (gct rfl (gSk (gS (gBk (gS (gR (gM rfl (gg λbS iC cz=>?_)))))))))))))
    obtain ⟨bD,bE,kj,he⟩ := idx_form' (hm.ow_rep 4 rfl) cz
    obtain ⟨rfl,_,rfl⟩ := sl3 he
    obtain ⟨_,_,fC,iD⟩ := ro_get' (hm.ow_rep 4 rfl) cz
    have eT := iD
    obtain ⟨fD,rfl,-⟩ := id eT
    replace eT : GT.rep (hp _) [fD] bS := eT
    replace fC : CellsAt (hp _) bD (bE + (az).toNat * 1) [fD] := fC
    refine gI st_99 iC (idx_lt cz) rfl ?_
    obtain ⟨_,iE,hm⟩ := hm.openE 4 rfl cz
    have iF := hm.ow_rep 0 rfl
    have dp := iF
    obtain ⟨ap,rfl,-⟩ := id dp
    replace dp : GT.rep (hp _) [ap] bS := dp
    clear iE dp
    replace hm : Mem w0 bR _ [ow [ap] (bS : MapS Int),blk aN [nV 0,nV 0,.slice none 0 0] 44,blk aO [nV aD.params,nV (w64 (aD.regs + f.regs)),sV af ah aX.length ai] 44,ow [sV af ah aX.length ai] bd,holeE bW bX aG.length aR (b7 : List (List (MapS Int))) (av).toNat [sV bD bE aj.length ay],holeE bD bE aj.length ay (aj : List (MapS Int)) (az).toNat [ap],ow [.slice bZ au.length b6] au] := hm
    replace hm := hm.pk (L' := [ow [ap] bS,blk aN [nV 0,nV 0,.slice none 0 0] 44,blk aO [nV aD.params,nV (w64 (aD.regs + f.regs)),sV af ah aX.length ai] 44,ow [sV af ah aX.length ai] bd,holeE bW bX aG.length aR (b7 : List (List (MapS Int))) (av).toNat [sV bD bE aj.length ay],holeE bD bE aj.length ay (aj : List (MapS Int)) (az).toNat [ap],ow [.slice bZ au.length b6] au]) [0,1,2,3,4,5,6] rfl rfl
    refine gY (yl isAgg100 ((hm.holeE_at 5 rfl).cell (j := 0) rfl) rfl) (gAl hm zeroValue100 rfl λb8 w hm=>gA rfl (gS1 hm 0 sizeOf100 (rep_oneM (hm.ow_rep 1 rfl)) rfl λw hm=>gE (gJ hm (λdq=>[(8,(pV aN)),(9,(pV aO)),(14,(sV bW bX aG.length aR)),(28,(nV av)),(29,(.slice bZ au.length b6)),(274,(nV ((c_.blocks.length : Int)))),(275,(nV av)),(284,(sV bD bE aj.length ay)),(285,(nV ((aj.length : Int)))),(286,(nV az))]) (λdq=>[blk aN [nV 0,nV 0,.slice none 0 0] 44,blk aO [nV aD.params,nV (w64 (aD.regs + f.regs)),sV af ah aX.length ai] 44,ow [sV af ah aX.length ai] dq,holeE bW bX aG.length aR (b7 : List (List (MapS Int))) (av).toNat [sV bD bE aj.length ay],ow [sV bD bE aj.length ay] aj,ow [.slice bZ au.length b6] au]) (λdq=>?_) ?_)))
    ·replace hm : Mem w0 bR _ [blk b8 [ap] 100, ow [ap] bS, blk aN [nV 0, nV 0, .slice none 0 0] 44, blk aO [nV aD.params, nV (w64 (aD.regs + f.regs)), sV af ah aX.length ai] 44, ow [sV af ah aX.length ai] bd, holeE bW bX aG.length aR (b7 : List (List (MapS Int))) (av).toNat [sV bD bE aj.length ay], holeE bD bE aj.length ay (aj : List (MapS Int)) (az).toNat [ap], ow [.slice bZ au.length b6] au] := hm
     refine gW (.p 0 (.p 2 (.p 6 (.p 7 (.p 8 (.q 1 (.p 3 (.p 4 (.e 5 (.e 9 (.p 10 (.p 11 (.e 12 .fin .nil))) .nil) (.e 9 (.e 5 (.p 10 (.p 11 (.e 12 .fin .nil))) .nil) .nil)))))))))) [9] [0,2,3,4,6,7,8,10,11] hm [0,1,2,3,5,6,7] [blk b8 [ap] 100,ow [ap] bS,blk aN [nV 0,nV 0,.slice none 0 0] 44,blk aO [nV aD.params,nV (w64 (aD.regs + f.regs)),sV af ah aX.length ai] 44,holeE bW bX aG.length aR (b7 : List (List (MapS Int))) (av).toNat [sV bD bE aj.length ay],holeE bD bE aj.length ay (aj : List (MapS Int)) (az).toNat [ap],ow [.slice bZ au.length b6] au] rfl mxo (by kernel_rfl) (λ_ _ _ h=>h.2) λw hm hS=>tP rfl (λw=>yF fo_44_2 rfl) (tP rfl (λw=>yM rfl) (tP rfl (λw=>yM rfl) (tP rfl (λw=>yM rfl) (tP rfl (λw=>yU rfl) (tQ rfl hS (λw hm=>yL hm 3 isAgg42 rfl) (gg λaP iG cW=>?_))))))
     obtain ⟨kn,ko,kp,kq,kr,ku,kv⟩ := rk_Block_ (hm.ow_rep 4 rfl) cW
     have hL3_1 := rep_slice_len (hm.ow_rep 4 rfl)
     refine tP rfl (λw=>yI st_42 iG (idx_lt2 cW hL3_1) rfl) (tP rfl (λw=>yF fo_49_0 rfl) (gb λb9 fE=>gb λbB fF=>tMo ?_ ?_))
     ·obtain ⟨kw, cX, cY, hm⟩ := pin_Block_ hm 4 rfl cW
      have kx : (av).toNat < aX.length := (idx_lt2 cW (hm.holeE_len 7 rfl))
      refine tY rfl (yl isAgg45 ((hm.holeE_at 7 rfl).cell (j := 0) rfl) rfl) (tAn rfl (tO (tf rfl rfl (λa hf=>e_call hf rfl call61 rfl (impl_mapped_int_int_ok _ au (.slice bZ au.length b6) (hm.ow_rep 10 rfl) (λy0=>impl_inlined_2 y0 bS) (.func (.func 62) #[] #[(pV b8)]) (λw y0 r hB hq=>⟨62,[(pV b8)],rfl,call62,impl_inlined_2_ok w y0 bS ap (rep_later (hm.ow_rep 4 rfl) hB) b8 (hm.blk_later 3 rfl hB) r hq⟩) _ fE)) ?_)))
      rintro dA w ⟨_,rfl,hB⟩
      replace hm := hm.give hB; clear hB
      refine tAk hm [4,5,6,7,9,10,11] rfl λhS=>?_
      obtain ⟨iH,dB⟩ := getI_some.1 fF
      obtain ⟨cZ,c4,c5,he⟩ := idx_form' (hm.ow_rep 3 rfl) dB
      subst he
      obtain ⟨ky,kz,lA⟩ := rk_Phi_ (hm.ow_rep 3 rfl) dB
      refine tP rfl (λw=>yI st_45 iH (idx_lt dB) rfl) (tP rfl (λw=>yF fo_105_1 rfl) (tO ?_))
      obtain ⟨dC,hm⟩ := pin_Phi_ hm 3 rfl dB
      have lB : (az).toNat < aP.phis.length := (idx_lt dB)
      have fG : ∀ u ∈ ([dA] : List Value),u.oneCell' = true := (one_cons (rep_one (hm.ow_rep 1 rfl)) one_nil)
      refine tf0 rfl rfl (λa hf=>e_storeH (j := 1) (vs := [dA]) 4 hf hm rfl rfl rfl sizeOf47 rfl rfl (cells_one (fG _ (List.mem_singleton.2 rfl))) fG rfl) ?_
      rintro _ w hm
      replace hm : Mem w0 bR _ [ow [dC] bB.args,ow [dA] b9,ow [cY] aP.next_,ow [cX] aP.ins,holeE cZ c4 aP.phis.length c5 (aP.phis : List Phi_) (az).toNat [nV bB.to,dA],blk b8 [ap] 100,ow [ap] bS,blk aN [nV 0,nV 0,.slice none 0 0] 44,blk aO [nV aD.params,nV (w64 (aD.regs + f.regs)),sV af ah aX.length ai] 44,holeE af ah aX.length ai (bd : List Block_) (av).toNat [sV cZ c4 aP.phis.length c5,cX,nV aP.jump,nV aP.on,cY],holeE bW bX aG.length aR (b7 : List (List (MapS Int))) (av).toNat [sV bD bE aj.length ay],holeE bD bE aj.length ay (aj : List (MapS Int)) (az).toNat [ap],ow [.slice bZ au.length b6] au] := hm
      refine tAn rfl (tE ?_)
      replace hm : Mem w0 bR _ [ow [dC] bB.args,ow [nV bB.to,dA] ((⟨bB.to,b9⟩ : Phi_) : Phi_),ow [cY] aP.next_,ow [cX] aP.ins,holeE cZ c4 aP.phis.length c5 (aP.phis : List Phi_) (az).toNat [nV bB.to,dA],blk b8 [ap] 100,ow [ap] bS,blk aN [nV 0,nV 0,.slice none 0 0] 44,blk aO [nV aD.params,nV (w64 (aD.regs + f.regs)),sV af ah aX.length ai] 44,holeE af ah aX.length ai (bd : List Block_) (av).toNat [sV cZ c4 aP.phis.length c5,cX,nV aP.jump,nV aP.on,cY],holeE bW bX aG.length aR (b7 : List (List (MapS Int))) (av).toNat [sV bD bE aj.length ay],holeE bD bE aj.length ay (aj : List (MapS Int)) (az).toNat [ap],ow [.slice bZ au.length b6] au] := mk_Phi_ bB.to hm 1 rfl
      replace hm := (hm.shutE (y := ((⟨bB.to,b9⟩ : Phi_) : Phi_)) 4 1 (by decide) rfl rfl).pk (L' := [ow [dC] bB.args,ow [cY] aP.next_,ow [cX] aP.ins,ow [sV cZ c4 aP.phis.length c5] (aP.phis.set (az).toNat (⟨bB.to,b9⟩ : Phi_)),blk b8 [ap] 100,ow [ap] bS,blk aN [nV 0,nV 0,.slice none 0 0] 44,blk aO [nV aD.params,nV (w64 (aD.regs + f.regs)),sV af ah aX.length ai] 44,holeE af ah aX.length ai (bd : List Block_) (av).toNat [sV cZ c4 aP.phis.length c5,cX,nV aP.jump,nV aP.on,cY],holeE bW bX aG.length aR (b7 : List (List (MapS Int))) (av).toNat [sV bD bE aj.length ay],holeE bD bE aj.length ay (aj : List (MapS Int)) (az).toNat [ap],ow [.slice bZ au.length b6] au]) [0,2,3,4,5,6,7,8,9,10,11,12] rfl rfl
      have lC := List.getElem?_set_self (a := ((⟨bB.to,b9⟩ : Phi_) : Phi_)) (idx_lt dB)
      replace hm := (mk_Block_ aP.jump aP.on hm 3 2 1 rfl).pk (L' := [ow [dC] bB.args,ow [sV cZ c4 aP.phis.length c5,cX,nV aP.jump,nV aP.on,cY] ((⟨(aP.phis.set (az).toNat (⟨bB.to,b9⟩ : Phi_)),aP.ins,aP.jump,aP.on,aP.next_⟩ : Block_) : Block_),blk b8 [ap] 100,ow [ap] bS,blk aN [nV 0,nV 0,.slice none 0 0] 44,blk aO [nV aD.params,nV (w64 (aD.regs + f.regs)),sV af ah aX.length ai] 44,holeE af ah aX.length ai (bd : List Block_) (av).toNat [sV cZ c4 aP.phis.length c5,cX,nV aP.jump,nV aP.on,cY],holeE bW bX aG.length aR (b7 : List (List (MapS Int))) (av).toNat [sV bD bE aj.length ay],holeE bD bE aj.length ay (aj : List (MapS Int)) (az).toNat [ap],ow [.slice bZ au.length b6] au]) [0,3,4,5,6,7,8,9,10,11] rfl rfl
      replace hm := (hm.shutE (y := ((⟨(aP.phis.set (az).toNat (⟨bB.to,b9⟩ : Phi_)),aP.ins,aP.jump,aP.on,aP.next_⟩ : Block_) : Block_)) 6 1 (by decide) rfl rfl).pk (L' := [ow [dC] bB.args,blk b8 [ap] 100,ow [ap] bS,blk aN [nV 0,nV 0,.slice none 0 0] 44,blk aO [nV aD.params,nV (w64 (aD.regs + f.regs)),sV af ah aX.length ai] 44,ow [sV af ah aX.length ai] (bd.set (av).toNat (⟨(aP.phis.set (az).toNat (⟨bB.to,b9⟩ : Phi_)),aP.ins,aP.jump,aP.on,aP.next_⟩ : Block_)),holeE bW bX aG.length aR (b7 : List (List (MapS Int))) (av).toNat [sV bD bE aj.length ay],holeE bD bE aj.length ay (aj : List (MapS Int)) (az).toNat [ap],ow [.slice bZ au.length b6] au]) [0,2,3,4,5,6,7,8,9] rfl rfl
      have lD := List.getElem?_set_self (a := ((⟨(aP.phis.set (az).toNat (⟨bB.to,b9⟩ : Phi_)),aP.ins,aP.jump,aP.on,aP.next_⟩ : Block_) : Block_)) (idx_lt cW)
      replace hm := hm.imp (c' := ow [ap] (bS : MapS Int)) 2 rfl (λF h0=>h0)
      replace hm := (hm.shutE (y := (bS : MapS Int)) 7 2 (by decide) rfl rfl).pk (L' := [ow [dC] bB.args,blk b8 [ap] 100,blk aN [nV 0,nV 0,.slice none 0 0] 44,blk aO [nV aD.params,nV (w64 (aD.regs + f.regs)),sV af ah aX.length ai] 44,ow [sV af ah aX.length ai] (bd.set (av).toNat (⟨(aP.phis.set (az).toNat (⟨bB.to,b9⟩ : Phi_)),aP.ins,aP.jump,aP.on,aP.next_⟩ : Block_)),holeE bW bX aG.length aR (b7 : List (List (MapS Int))) (av).toNat [sV bD bE aj.length ay],ow [sV bD bE aj.length ay] (aj.set (az).toNat bS),ow [.slice bZ au.length b6] au]) [0,1,3,4,5,6,7,8] rfl rfl
      rw [set_same cz] at hm
      exact gz hm [2,3,4,5,6,7] rfl
     refine tO (tf rfl rfl (λa hf=>e_call hf rfl call61 rfl (impl_mapped_int_int_ok _ au (.slice bZ au.length b6) (hm.ow_rep 7 rfl) (λy0=>impl_inlined_2 y0 bS) (.func (.func 62) #[] #[(pV b8)]) (λw y0 r hB hq=>⟨62,[(pV b8)],rfl,call62,impl_inlined_2_ok w y0 bS ap (rep_later (hm.ow_rep 1 rfl) hB) b8 (hm.blk_later 0 rfl hB) r hq⟩) _ fE)) ?_)
     rintro dD w ⟨_,rfl,hB⟩
     replace hm := hm.give hB; clear hB
     refine tAk hm [1,2,3,4,6,7,8] rfl λhS=>tO ?_
     obtain ⟨lE,c6,c7,hm⟩ := pin_Block_ hm 5 rfl cW
     have lF : (av).toNat < aX.length := (idx_lt2 cW (hm.holeE_len 8 rfl))
     refine tY rfl (yl isAgg45 ((hm.holeE_at 8 rfl).cell (j := 0) rfl) rfl) (tAn rfl ?_)
     obtain ⟨iI,dE⟩ := getI_some.1 fF
     obtain ⟨c8,c9,ca,he⟩ := idx_form' (hm.ow_rep 2 rfl) dE
     subst he
     obtain ⟨lG,lH,lI⟩ := rk_Phi_ (hm.ow_rep 2 rfl) dE
     refine tP rfl (λw=>yI st_45 iI (idx_lt dE) rfl) (tP rfl (λw=>yF fo_105_1 rfl) (tO ?_))
     obtain ⟨dF,hm⟩ := pin_Phi_ hm 2 rfl dE
     have lJ : (az).toNat < aP.phis.length := (idx_lt dE)
     have fH : ∀ u ∈ ([dD] : List Value),u.oneCell' = true := (one_cons (rep_one (hm.ow_rep 4 rfl)) one_nil)
     refine tf0 rfl rfl (λa hf=>e_storeH (j := 1) (vs := [dD]) 3 hf hm rfl rfl rfl sizeOf47 rfl rfl (cells_one (fH _ (List.mem_singleton.2 rfl))) fH rfl) ?_
     rintro _ w hm
     replace hm : Mem w0 bR _ [ow [dF] bB.args,ow [c7] aP.next_,ow [c6] aP.ins,holeE c8 c9 aP.phis.length ca (aP.phis : List Phi_) (az).toNat [nV bB.to,dD],ow [dD] b9,blk b8 [ap] 100,ow [ap] bS,blk aN [nV 0,nV 0,.slice none 0 0] 44,blk aO [nV aD.params,nV (w64 (aD.regs + f.regs)),sV af ah aX.length ai] 44,holeE af ah aX.length ai (bd : List Block_) (av).toNat [sV c8 c9 aP.phis.length ca,c6,nV aP.jump,nV aP.on,c7],holeE bW bX aG.length aR (b7 : List (List (MapS Int))) (av).toNat [sV bD bE aj.length ay],holeE bD bE aj.length ay (aj : List (MapS Int)) (az).toNat [ap],ow [.slice bZ au.length b6] au] := hm
     refine tAn rfl (tE ?_)
     replace hm : Mem w0 bR _ [ow [dF] bB.args,ow [c7] aP.next_,ow [c6] aP.ins,holeE c8 c9 aP.phis.length ca (aP.phis : List Phi_) (az).toNat [nV bB.to,dD],ow [nV bB.to,dD] ((⟨bB.to,b9⟩ : Phi_) : Phi_),blk b8 [ap] 100,ow [ap] bS,blk aN [nV 0,nV 0,.slice none 0 0] 44,blk aO [nV aD.params,nV (w64 (aD.regs + f.regs)),sV af ah aX.length ai] 44,holeE af ah aX.length ai (bd : List Block_) (av).toNat [sV c8 c9 aP.phis.length ca,c6,nV aP.jump,nV aP.on,c7],holeE bW bX aG.length aR (b7 : List (List (MapS Int))) (av).toNat [sV bD bE aj.length ay],holeE bD bE aj.length ay (aj : List (MapS Int)) (az).toNat [ap],ow [.slice bZ au.length b6] au] := mk_Phi_ bB.to hm 4 rfl
     replace hm := (hm.shutE (y := ((⟨bB.to,b9⟩ : Phi_) : Phi_)) 3 4 (by decide) rfl rfl).pk (L' := [ow [dF] bB.args,ow [c7] aP.next_,ow [c6] aP.ins,ow [sV c8 c9 aP.phis.length ca] (aP.phis.set (az).toNat (⟨bB.to,b9⟩ : Phi_)),blk b8 [ap] 100,ow [ap] bS,blk aN [nV 0,nV 0,.slice none 0 0] 44,blk aO [nV aD.params,nV (w64 (aD.regs + f.regs)),sV af ah aX.length ai] 44,holeE af ah aX.length ai (bd : List Block_) (av).toNat [sV c8 c9 aP.phis.length ca,c6,nV aP.jump,nV aP.on,c7],holeE bW bX aG.length aR (b7 : List (List (MapS Int))) (av).toNat [sV bD bE aj.length ay],holeE bD bE aj.length ay (aj : List (MapS Int)) (az).toNat [ap],ow [.slice bZ au.length b6] au]) [0,1,2,3,5,6,7,8,9,10,11,12] rfl rfl
     have lK := List.getElem?_set_self (a := ((⟨bB.to,b9⟩ : Phi_) : Phi_)) (idx_lt dE)
     replace hm := (mk_Block_ aP.jump aP.on hm 3 2 1 rfl).pk (L' := [ow [dF] bB.args,ow [sV c8 c9 aP.phis.length ca,c6,nV aP.jump,nV aP.on,c7] ((⟨(aP.phis.set (az).toNat (⟨bB.to,b9⟩ : Phi_)),aP.ins,aP.jump,aP.on,aP.next_⟩ : Block_) : Block_),blk b8 [ap] 100,ow [ap] bS,blk aN [nV 0,nV 0,.slice none 0 0] 44,blk aO [nV aD.params,nV (w64 (aD.regs + f.regs)),sV af ah aX.length ai] 44,holeE af ah aX.length ai (bd : List Block_) (av).toNat [sV c8 c9 aP.phis.length ca,c6,nV aP.jump,nV aP.on,c7],holeE bW bX aG.length aR (b7 : List (List (MapS Int))) (av).toNat [sV bD bE aj.length ay],holeE bD bE aj.length ay (aj : List (MapS Int)) (az).toNat [ap],ow [.slice bZ au.length b6] au]) [0,3,4,5,6,7,8,9,10,11] rfl rfl
     replace hm := (hm.shutE (y := ((⟨(aP.phis.set (az).toNat (⟨bB.to,b9⟩ : Phi_)),aP.ins,aP.jump,aP.on,aP.next_⟩ : Block_) : Block_)) 6 1 (by decide) rfl rfl).pk (L' := [ow [dF] bB.args,blk b8 [ap] 100,ow [ap] bS,blk aN [nV 0,nV 0,.slice none 0 0] 44,blk aO [nV aD.params,nV (w64 (aD.regs + f.regs)),sV af ah aX.length ai] 44,ow [sV af ah aX.length ai] (bd.set (av).toNat (⟨(aP.phis.set (az).toNat (⟨bB.to,b9⟩ : Phi_)),aP.ins,aP.jump,aP.on,aP.next_⟩ : Block_)),holeE bW bX aG.length aR (b7 : List (List (MapS Int))) (av).toNat [sV bD bE aj.length ay],holeE bD bE aj.length ay (aj : List (MapS Int)) (az).toNat [ap],ow [.slice bZ au.length b6] au]) [0,2,3,4,5,6,7,8,9] rfl rfl
     have lL := List.getElem?_set_self (a := ((⟨(aP.phis.set (az).toNat (⟨bB.to,b9⟩ : Phi_)),aP.ins,aP.jump,aP.on,aP.next_⟩ : Block_) : Block_)) (idx_lt cW)
     replace hm := hm.imp (c' := ow [ap] (bS : MapS Int)) 2 rfl (λF h0=>h0)
     replace hm := (hm.shutE (y := (bS : MapS Int)) 7 2 (by decide) rfl rfl).pk (L' := [ow [dF] bB.args,blk b8 [ap] 100,blk aN [nV 0,nV 0,.slice none 0 0] 44,blk aO [nV aD.params,nV (w64 (aD.regs + f.regs)),sV af ah aX.length ai] 44,ow [sV af ah aX.length ai] (bd.set (av).toNat (⟨(aP.phis.set (az).toNat (⟨bB.to,b9⟩ : Phi_)),aP.ins,aP.jump,aP.on,aP.next_⟩ : Block_)),holeE bW bX aG.length aR (b7 : List (List (MapS Int))) (av).toNat [sV bD bE aj.length ay],ow [sV bD bE aj.length ay] (aj.set (az).toNat bS),ow [.slice bZ au.length b6] au]) [0,1,3,4,5,6,7,8] rfl rfl
     rw [set_same cz] at hm
     exact gz hm [2,3,4,5,6,7] rfl
    repeat clear hm
    intro dq w hm
    exact gR (gP (by omega) (by omega) rfl (gM rfl (gE (gze hm [0,1,2,3,4,5] rfl))))
   repeat clear hm
   intro lM iJ w hm lN lO
   refine gS (gR (gB rfl (gE (gS (go _ 287 rfl (decide_eq_false (by omega)) (gcf rfl (gXt (gHh ?_))))))))
   replace hm := hm.imp (c' := ow [.slice dm aj.length ay] (aj : List (MapS Int))) 4 rfl (λF h0=>h0)
   replace hm := (hm.shutE (y := (aj : List (MapS Int))) 3 4 (by decide) rfl rfl).pk (L' := [blk aN [nV 0,nV 0,.slice none 0 0] 44,blk aO [nV aD.params,nV (w64 (aD.regs + f.regs)),sV af ah aX.length ai] 44,ow [sV af ah aX.length ai] iJ,ow [sV bW bX aG.length aR] (b7.set (av).toNat aj),ow [.slice bZ au.length b6] au]) [0,1,2,3,5] rfl rfl
   rw [set_same dS] at hm
   exact gR (gP (by omega) (by omega) rfl (gM rfl (gE (gze hm [0,1,2,3] rfl))))
  repeat clear hm
  intro lP lQ w hm lR lS
  refine gS (gR (gB rfl (gE (gS (go _ 276 rfl (decide_eq_false (by omega)) (gcf rfl (gXt (gHh (gS (gR (gY (yn (hm.blk_at 1 rfl) isAgg44 sizeOf44 rfl) (gSN hm 0 sizeOf44 (one_cons rfl (one_cons rfl (one_cons rfl one_nil))) rfl λw hm=>gE (gRt ?_)))))))))))))
  replace hm := hm.thaw dJ
  exact grc 0 results27 hm rfl isAgg44 sizeOf44 ⟨sV af ah aX.length ai,rfl,hm.pk [2] rfl rfl⟩
theorem impl_onlyValid_ok (w0 : World) (hz : Heap) (u : Unit_) (v1 : Value) (ok : Bool) (hm0 : Mem w0 hz w0 [ow [v1] u.codes]) :
    ConM Tryz.prog 28 [(.agg #[v1]),(.bool (ok))] w0 (impl_onlyValid u ok) λr v w'=>∃ (x1 : Value),v = (.tuple #[(.agg #[x1]),(.bool (r.2))]) ∧ Mem w0 hz w' [ow [x1] r.1.codes] := by
  unfold impl_onlyValid
  refine gcon func28 rfl λr=>?_
  have hm := hm0
  refine gS (gR (gBx hm rfl λaC w hm=>gAl hm zeroValue28 rfl λaD w hm=>gA rfl (gE (gS (gS (gJ hm (λaA=>[(2,(pV aC)),(4,(pV aD)),(12,(.bool (aA)))]) (λaA=>[blk aC [v1] 28,ow [v1] u.codes,blk aD [.slice none 0 0] 28]) (λaA=>?_) ?_))))))
  ·refine gR (gM rfl (gN rfl (gM rfl (gsn 8 rfl (fun aE => ?_) fun aE => ?_))))
   ·exact gO rfl (gO rfl (gO rfl (gKt rfl (gE (gz hm [1,2,0] rfl)))))
   exact gY (yn (hm.blk_at 1 rfl) isAgg28 sizeOf28 rfl) (gC hm rfl call34 (impl_UnitValid_ok _ u v1 (hm.ow_rep 2 rfl)) λaG aH w hm=>gN rfl (gKf rfl (gE (gz hm [1,2,0] rfl))))
  repeat clear hm
  intro aA w hm
  refine gs 12 rfl (λaF=>?_) λaF=>?_
  ·refine gct rfl (gS (gR (gY (yG rfl (y_build (vs := []) (cs := #[.slice none 0 0]) rfl rfl (by kernel_rfl))) (gSN hm 2 sizeOf28 (one_cons rfl one_nil) rfl fun w hm => gA rfl (gE (gRt ?_))))))
   replace hm := hm.nilow (α := Code_)
   exact grct 3 results28 hm rfl isAgg28 sizeOf28 ⟨.slice none 0 0,rfl,hm.pk [0] rfl rfl⟩
  exact gcf rfl (gSk (gS (gR (gY (yn (hm.blk_at 0 rfl) isAgg28 sizeOf28 rfl) (gSN hm 2 sizeOf28 (one_cons (rep_one (hm.ow_rep 1 rfl)) one_nil) rfl λw hm=>gA rfl (gE (gRt (grct 2 results28 hm rfl isAgg28 sizeOf28 ⟨v1,rfl,hm.pk [1] rfl rfl⟩))))))))
theorem impl_InlineCall_ok (w0 : World) (u : Unit_) (v1 : Value) (h1 : GT.rep (hp w0) [v1] u.codes) (k_ : Int) (b_ : Int) (i_ : Int) :
    ConM Tryz.prog 9 [(.agg #[v1]),nV k_,nV b_,nV i_] w0 (impl_InlineCall u k_ b_ i_) λr v w'=>∃ (x1 : Value),v = (.tuple #[(.agg #[x1]),(.bool (r.2))]) ∧ Mem w0 (hp w0) w' [ow [x1] r.1.codes] := by
  unfold impl_InlineCall
  refine gcon func9 rfl λr=>?_
  have hm := Mem.start w0
  refine gS (gR (gBx hm rfl λaG w hm=>gAl hm zeroValue28 rfl λaH w hm=>gA rfl (gE (gS (gS (gJ hm (λaM=>[(1,(nV k_)),(2,(nV b_)),(3,(nV i_)),(4,(pV aG)),(8,(pV aH)),(61,(.bool (aM)))]) (λaM=>[blk aG [v1] 28,blk aH [.slice none 0 0] 28]) (λaM=>?_) ?_))))))
  ·refine gR (gY (yn (hm.blk_at 1 rfl) isAgg28 sizeOf28 rfl) (gM rfl (gC hm rfl call24 (impl_codeAt_ok _ u v1 (hm.now h1) k_) fun bP bQ w hm => gN rfl (gM rfl (gsn 15 rfl (fun an => ?_) fun an => ?_)))))
   ·refine gO rfl (gO rfl (gO rfl (gO rfl (gO rfl (gO rfl (gO rfl (gO rfl (gO rfl (gO rfl (gO rfl (gKt rfl (gM rfl (gO rfl (gO rfl (gO rfl (gO rfl (gO rfl (gO rfl (gO rfl (gO rfl (gO rfl (gO rfl (gO rfl (gO rfl (gO rfl (gO rfl (gO rfl (gKt rfl (gM rfl (gO rfl ?_))))))))))))))))))))))))))))))
    exact gO rfl (gO rfl (gO rfl (gO rfl (gO rfl (gO rfl (gO rfl (gO rfl (gO rfl (gO rfl (gO rfl (gO rfl (gO rfl (gO rfl (gKt rfl (gE (gz hm [1,0] rfl))))))))))))))))
   refine gM rfl (gF fo_28_0 rfl (gL hm 1 isAgg26 rfl (gM rfl (gg λao aQ aJ=>?_))))
   obtain ⟨bR,bS,bT,he⟩ := idx_form' h1 aJ
   subst he
   obtain ⟨bU,aR,aS⟩ := rk_Code_ h1 aJ
   refine gI st_26 aQ (idx_lt aJ) rfl (gF fo_44_2 rfl (gY (yl isAgg42 ((aR.mono hm.lez).cell (j := 2) rfl) rfl) ?_))
   obtain ⟨bV,bW,rfl,bX⟩ := ro_slice aS
   refine gY (yV st_42 rfl) (gY (yS (by omega) (by omega) rfl) (gC hm rfl call25 (impl_within_ok _ b_ 0 (((ao.blocks.length : Int)) - 1)) λbY bZ w hm=>gN rfl (gKf rfl (gM rfl (gsn 28 rfl (λap=>?_) λap=>?_)))))
   ·refine gO rfl (gO rfl (gO rfl (gO rfl (gO rfl (gO rfl (gO rfl (gO rfl (gO rfl (gO rfl (gO rfl (gO rfl (gO rfl (gO rfl (gO rfl (gKt rfl (gM rfl (gO rfl (gO rfl (gO rfl (gO rfl (gO rfl (gO rfl (gO rfl (gO rfl (gO rfl (gO rfl (gO rfl (gO rfl (gO rfl (gO rfl ?_))))))))))))))))))))))))))))))
    exact gO rfl (gKt rfl (gE (gz hm [1,0] rfl)))
   refine gM rfl (gF fo_28_0 rfl (gL hm 1 isAgg26 rfl (gM rfl (gI st_26 aQ (idx_lt aJ) rfl (gF fo_44_2 rfl (gY (yl isAgg42 ((aR.mono hm.lez).cell (j := 2) rfl) rfl) (gM rfl (gg λaq ae aN=>?_))))))))
   obtain ⟨b6,b7,b8,he⟩ := idx_form' aS aN
   obtain ⟨rfl,_,rfl⟩ := sl3 he
   obtain ⟨b9,ba,bc,af,bd,aT,be⟩ := rk_Block_ aS aN
   refine gI st_42 ae (idx_lt aN) rfl (gF fo_49_1 rfl (gY (yl isAgg46 ((af.mono hm.lez).cell (j := 1) rfl) rfl) ?_))
   obtain ⟨bf,bg,rfl,bh⟩ := ro_slice aT
   refine gY (yV st_46 rfl) (gY (yS (by omega) (by omega) rfl) (gC hm rfl call25 (impl_within_ok _ i_ 0 (((aq.ins.length : Int)) - 1)) λbi bj w hm=>gN rfl (gKf rfl (gM rfl (gsn 45 rfl (λar=>?_) λar=>?_)))))
   ·exact gO rfl (gO rfl (gO rfl (gO rfl (gO rfl (gO rfl (gO rfl (gO rfl (gO rfl (gO rfl (gO rfl (gO rfl (gO rfl (gO rfl (gO rfl (gKt rfl (gE (gz hm [1,0] rfl)))))))))))))))))
   refine gF fo_28_0 rfl (gL hm 1 isAgg26 rfl (gM rfl (gI st_26 aQ (idx_lt aJ) rfl (gF fo_44_2 rfl (gY (yl isAgg42 ((aR.mono hm.lez).cell (j := 2) rfl) rfl) (gM rfl (gI st_42 ae (idx_lt aN) rfl (gF fo_49_1 rfl (gY (yl isAgg46 ((af.mono hm.lez).cell (j := 1) rfl) rfl) (gM rfl (gg λbk au aV=>?_)))))))))))
   obtain ⟨bm,bp,bq,he⟩ := idx_form' aT aV
   obtain ⟨rfl,_,rfl⟩ := sl3 he
   obtain ⟨br,av,bs⟩ := rk_Ins_ aT aV
   exact gI st_46 au (idx_lt aV) rfl (gF fo_51_0 rfl (gY (yl isAgg3 ((av.mono hm.lez).cell (j := 0) rfl) rfl) (gB rfl (gKf rfl (gE (gz hm [1,0] rfl))))))
  repeat clear hm
  intro aM w hm
  refine gs 61 rfl (λaw=>?_) λaw=>?_
  ·refine gct rfl (gS (gR (gY (yG rfl (y_build (vs := []) (cs := #[.slice none 0 0]) rfl rfl (by kernel_rfl))) (gSN hm 1 sizeOf28 (one_cons rfl one_nil) rfl fun w hm => gA rfl (gE (gRt ?_))))))
   replace hm := hm.nilow (α := Code_)
   exact grct 2 results9 hm rfl isAgg28 sizeOf28 ⟨.slice none 0 0,rfl,hm.pk [0] rfl rfl⟩
  refine gcf rfl (gSk (gS (gR (gY (yn (hm.blk_at 0 rfl) isAgg28 sizeOf28 rfl) (gCg rfl call26 (impl_cloneUnit_ok _ u v1 (hm.now h1)) ?_)))))
  rintro aC bt bu w ⟨ah,rfl,hB⟩
  replace hm := hm.give hB; clear hB
  refine gAl hm zeroValue28 rfl λaO w hm=>gSN hm 0 sizeOf28 (one_cons (rep_one (hm.ow_rep 1 rfl)) one_nil) rfl λw hm=>gE (gS (gW (.p 0 (.p 2 (.p 3 (.p 5 (.p 8 (.p 10 (.p 12 (.p 16 (.p 20 (.p 26 (.p 27 (.q 1 (.q 4 (.p 6 (.q 7 (.q 9 (.e 11 (.p 13 (.p 14 (.e 15 (.p 17 (.p 18 (.e 19 (.p 21 (.p 22 (.e 23 (.p 24 (.e 25 (.e 28 (.p 29 (.e 30 .fin .nil)) .nil) .nil)) .nil))) .nil))) .nil))) .nil))))))))))))))))) [1,4,7,9,11,15,19,23,25,28] [0,2,3,5,6,8,10,12,13,14,16,17,18,20,21,22,24,26,27,29] hm [0,1,2,3] [blk aO [ah] 28,ow [ah] aC.codes,blk aG [v1] 28,blk aH [.slice none 0 0] 28] rfl mxo (by kernel_rfl) (λ_ _ _ h=>h.2) λw hm hS=>tP rfl (λw=>yF fo_28_0 rfl) (tP rfl (λw=>yM rfl) (tP rfl (λw=>yF fo_28_0 rfl) (tP rfl (λw=>yM rfl) (tP rfl (λw=>yF fo_28_0 rfl) (tP rfl (λw=>yF fo_28_0 rfl) (tP rfl (λw=>yM rfl) (tP rfl (λw=>yM rfl) (tP rfl (λw=>yM rfl) (tP rfl (λw=>yM rfl) (tP rfl (λw=>yM rfl) (tQ rfl hS (λw hm=>yL hm 0 isAgg26 rfl) (tQ rfl hS (λw hm=>yL hm 2 isAgg26 rfl) (gg λai aj aP=>?_)))))))))))))))
  obtain ⟨aW,aX,aY,he⟩ := idx_form' h1 aP
  subst he
  obtain ⟨bv,ak,aZ⟩ := rk_Code_ h1 aP
  refine tP rfl (λw=>yI st_26 aj (idx_lt aP) rfl) (tQ rfl hS (λw hm=>yn (ak.mono hm.lez) isAgg44 sizeOf44 rfl) (tQ rfl hS (λw hm=>yL hm 2 isAgg26 rfl) (tO (tY rfl (yL hm 2 isAgg26 rfl) (tAs hS (tP rfl (λw=>yI st_26 aj (idx_lt aP) rfl) (tP rfl (λw=>yF fo_44_2 rfl) (tO (tY rfl (yl isAgg42 ((ak.mono hm.lez).cell (j := 2) rfl) rfl) (tAs hS (gg λbx ax aa=>?_)))))))))))
  obtain ⟨ay,az,bA,he⟩ := idx_form' aZ aa
  subst he
  obtain ⟨bz,cA,cB,bB,cC,al,cD⟩ := rk_Block_ aZ aa
  refine tP rfl (λw=>yI st_42 ax (idx_lt aa) rfl) (tP rfl (λw=>yF fo_49_1 rfl) (tO (tY rfl (yl isAgg46 ((bB.mono hm.lez).cell (j := 1) rfl) rfl) (tAs hS (gg λcE bC ab=>?_)))))
  obtain ⟨cF,cG,cH,he⟩ := idx_form' al ab
  subst he
  obtain ⟨cI,bD,cJ⟩ := rk_Ins_ al ab
  refine tP rfl (λw=>yI st_46 bC (idx_lt ab) rfl) (tP rfl (λw=>yF fo_51_3 rfl) (tO (tY rfl (yl isAgg3 ((bD.mono hm.lez).cell (j := 3) rfl) rfl) (tAs hS (gg λbE bF am=>?_)))))
  obtain ⟨bG,bH,bJ⟩ := rk_Code_ h1 am
  refine tP rfl (λw=>yI st_26 bF (idx_lt am) rfl) (tO (tY rfl (yn (bH.mono hm.lez) isAgg44 sizeOf44 rfl) (tAs hS (tO (gb λaA bK=>tf rfl rfl (λa hf=>e_call hf rfl call27 rfl (impl_inlined_ok _ ai (sV ay az ai.blocks.length bA) (hm.now aZ) bE bG (hm.now bJ) b_ i_ _ bK)) ?_)))))
  rintro cK w ⟨ac,rfl,hB⟩
  replace hm := hm.give hB; clear hB
  refine tAk hm [1,2,3,4] rfl λhS=>gg λcL bL aL=>?_
  obtain ⟨aD,aE,aF,he⟩ := idx_form' (hm.ow_rep 2 rfl) aL
  subst he
  obtain ⟨cM,cN,cO⟩ := rk_Code_ (hm.ow_rep 2 rfl) aL
  refine tP rfl (λw=>yI st_26 bL (idx_lt aL) rfl) (tO ?_)
  replace hm : Mem w0 (hp w0) _ [ow [nV aA.params,nV aA.regs,ac] (aA : Code_),blk aO [sV aD aE aC.codes.length aF] 28,ow [sV aD aE aC.codes.length aF] aC.codes,blk aG [sV aW aX u.codes.length aY] 28,blk aH [.slice none 0 0] 28] := mk_Code_ aA.params aA.regs hm 0 rfl
  replace hm := (hm.both 2 0 (by decide) rfl rfl).pk (L' := [blk aO [sV aD aE aC.codes.length aF] 28,both (ow [sV aD aE aC.codes.length aF] aC.codes) (ow [nV aA.params,nV aA.regs,ac] (aA : Code_)),blk aG [sV aW aX u.codes.length aY] 28,blk aH [.slice none 0 0] 28]) [1,2,3,4] rfl rfl
  refine tf0 rfl rfl (λa hf=>e_putElem (x1 := (aA : Code_)) (vs := [nV aA.params,nV aA.regs,ac]) 1 hf hm rfl aL rfl sizeOf44 rfl rfl rfl rfl) ?_
  rintro _ w hm
  have cP := List.getElem?_set_self (a := (aA : Code_)) (idx_lt aL)
  refine tAn rfl (tE (gS (gR (gY (yn (hm.blk_at 0 rfl) isAgg28 sizeOf28 rfl) ?_))))
  obtain ⟨bM,hle,hm1,hsub,bN⟩ := hm.take2 (L1 := [ow [sV aD aE aC.codes.length aF] (aC.codes.set (k_).toNat aA)]) (L2 := [blk aO [sV aD aE aC.codes.length aF] 28,blk aG [sV aW aX u.codes.length aY] 28,blk aH [.slice none 0 0] 28]) [1] [0,2,3] (by decide) rfl rfl
  refine gCg rfl call28 (impl_onlyValid_ok _ bM (⟨(aC.codes.set (k_).toNat aA)⟩ : Unit_) (sV aD aE aC.codes.length aF) true hm1 ) ?_
  rintro cQ cR cS w ⟨bO,rfl,hB⟩
  replace hm := bN _ _ hB; clear hB
  exact gX rfl (gX rfl (gSN hm 3 sizeOf28 (one_cons (rep_one (hm.ow_rep 0 rfl)) one_nil) rfl λw hm=>gA rfl (gE (gRt (grct 3 results9 hm rfl isAgg28 sizeOf28 ⟨bO,rfl,hm.pk [0] rfl rfl⟩)))))
theorem laws_eqIntS_ok (w0 : World) (a_ : List Int) (v1 : Value) (h1 : GT.rep (hp w0) [v1] a_) (b_ : List Int) (v2 : Value) (h2 : GT.rep (hp w0) [v2] b_) :
    ConM Tryz.prog 215 [v1,v2] w0 (laws_eqIntS a_ b_) λr v w'=>v = (.bool (r)) ∧ Below w0.heap.size w0 w' := by
  unfold laws_eqIntS
  refine gcon func215 rfl λr=>?_
  have hm := Mem.start w0
  refine gS (gR (gA rfl (gE (gS (gS (gR (gM rfl ?_)))))))
  obtain ⟨aF,aG,rfl,aT⟩ := ro_slice h1
  refine gY (yV st_47 rfl) (gM rfl ?_)
  obtain ⟨aH,aJ,rfl,aV⟩ := ro_slice h2
  refine gY (yV st_47 rfl) (gB rfl (gE (gsd 10 rfl (λaL=>?_) λaL=>?_)))
  ·exact gct rfl (gS (gR (gA rfl (gE (gRt (gr1 results215 rfl ⟨rfl,hm.below⟩))))))
  refine gcf rfl (gSk (gS (gS (gR (gA rfl (gE (gBk (gNf hm (λaA aE=>[(0,(.slice aF a_.length aG)),(1,(.slice aH b_.length aJ)),(5,(nV aA))]) (λaA aE=>[]) [] rfl ?_ ?_))))))))
  ·repeat clear hm
   intro aW aM aA aE w hm aX aY aZ aN
   refine gS (gS (gR (gM rfl (gM rfl (gY (yV st_47 rfl) (gB rfl (gE (go _ 14 rfl (decide_eq_true (by omega)) (gct rfl (gSk (gS (gBk (gS (gW (.p 0 (.p 1 (.p 2 (.p 4 (.p 5 (.p 6 (.q 3 (.e 7 (.p 8 .fin) .nil)))))))) [7] [0,1,2,4,5,6,8] hm [] [] rfl mxo (by kernel_rfl) (λ_ _ _ h=>h.2) λw hm hS=>tP rfl (λw=>yM rfl) (tP rfl (λw=>yM rfl) (gg λaO aP aC=>?_))))))))))))))))
   obtain ⟨aa,ab,ac,he⟩ := idx_form h1 aC
   obtain ⟨rfl,_,rfl⟩ := sl3 he
   refine tP rfl (λw=>yI st_47 aP (idx_lt aC) rfl) (tP rfl (λw=>yM rfl) (tP rfl (λw=>yM rfl) (gg λaQ aR aD=>?_)))
   obtain ⟨ae,af,ah,he⟩ := idx_form h2 aD
   obtain ⟨rfl,_,rfl⟩ := sl3 he
   refine tP rfl (λw=>yI st_47 aR (idx_lt aD) rfl) (tQ rfl hS (λw hm=>yl isAgg3 ((flat_cells (cs := [nV aO]) (hm.now h1) aC rfl).cell (j := 0) rfl) rfl) (tO (tY rfl (yl isAgg3 ((flat_cells (cs := [nV aQ]) (hm.now h2) aD rfl).cell (j := 0) rfl) rfl) (tAs hS (tP rfl (λw=>yB rfl) (tE (gsd 25 rfl (λaS=>?_) λaS=>?_)))))))
   ·exact gct rfl (gS (gR (gA rfl (gE (gRt (gLr aN aM (gr1 results215 rfl ⟨rfl,hm.below⟩)))))))
   exact gcf rfl (gSk (gR (gM rfl (gP (by omega) (by omega) rfl (gA rfl (gE (gze hm [] rfl)))))))
  repeat clear hm
  intro ai aj w hm ak al
  exact gS (gS (gR (gM rfl (gM rfl (gY (yV st_47 rfl) (gB rfl (gE (go _ 14 rfl (decide_eq_false (by omega)) (gcf rfl (gXt (gHh (gS (gR (gA rfl (gE (gRt (gr1 results215 rfl ⟨rfl,hm.below⟩)))))))))))))))))
theorem laws_eqPhi_ok (w0 : World) (a_ : Phi_) (v1 : Value) (h1 : GT.rep (hp w0) [v1] a_.args) (b_ : Phi_) (v2 : Value) (h2 : GT.rep (hp w0) [v2] b_.args) :
    ConM Tryz.prog 243 [(.agg #[nV a_.to,v1]),(.agg #[nV b_.to,v2])] w0 (laws_eqPhi a_ b_) λr v w'=>v = (.bool (r)) ∧ Below w0.heap.size w0 w' := by
  unfold laws_eqPhi
  refine gcon func243 rfl λr=>?_
  have hm := Mem.start w0
  refine gS (gR (gBx hm rfl λaD w hm=>gBx hm rfl λaE w hm=>gA rfl (gE (gS (gS (gR (gF fo_105_0 rfl (gL hm 1 isAgg3 rfl (gF fo_105_0 rfl (gL hm 0 isAgg3 rfl (gB rfl (gE (gsd 9 rfl (λaA=>?_) λaA=>?_)))))))))))))
  ·exact gct rfl (gS (gR (gA rfl (gE (gRt (gr1 results243 rfl ⟨rfl,hm.below⟩))))))
  refine gcf rfl (gSk (gS (gS (gR (gF fo_105_1 rfl (gL hm 1 isAgg47 rfl (gF fo_105_1 rfl (gL hm 0 isAgg47 rfl (gC hm rfl call215 (laws_eqIntS_ok _ a_.args v1 (hm.now h1) b_.args v2 (hm.now h2)) λaF aG w hm=>gN rfl (gE (gsn 15 rfl (λaC=>?_) λaC=>?_)))))))))))
  ·exact gct rfl (gS (gR (gA rfl (gE (gRt (gr1 results243 rfl ⟨rfl,hm.below⟩))))))
  exact gcf rfl (gSk (gS (gR (gA rfl (gE (gRt (gr1 results243 rfl ⟨rfl,hm.below⟩)))))))
theorem laws_eqPhiS_ok (w0 : World) (a_ : List Phi_) (v1 : Value) (h1 : GT.rep (hp w0) [v1] a_) (b_ : List Phi_) (v2 : Value) (h2 : GT.rep (hp w0) [v2] b_) :
    ConM Tryz.prog 213 [v1,v2] w0 (laws_eqPhiS a_ b_) λr v w'=>v = (.bool (r)) ∧ Below w0.heap.size w0 w' := by
  unfold laws_eqPhiS
  refine gcon func213 rfl λr=>?_
  have hm := Mem.start w0
  refine gS (gR (gA rfl (gE (gS (gS (gR (gM rfl ?_)))))))
  obtain ⟨aF,aG,rfl,ab⟩ := ro_slice h1
  refine gY (yV st_45 rfl) (gM rfl ?_)
  obtain ⟨aH,aJ,rfl,ac⟩ := ro_slice h2
  refine gY (yV st_45 rfl) (gB rfl (gE (gsd 10 rfl (λaL=>?_) λaL=>?_)))
  ·exact gct rfl (gS (gR (gA rfl (gE (gRt (gr1 results213 rfl ⟨rfl,hm.below⟩))))))
  refine gcf rfl (gSk (gS (gS (gR (gA rfl (gE (gBk (gNf hm (λaA aE=>[(0,(.slice aF a_.length aG)),(1,(.slice aH b_.length aJ)),(5,(nV aA))]) (λaA aE=>[]) [] rfl ?_ ?_))))))))
  ·repeat clear hm
   intro ae aM aA aE w hm af ah ai aN
   refine gS (gS (gR (gM rfl (gM rfl (gY (yV st_45 rfl) (gB rfl (gE (go _ 14 rfl (decide_eq_true (by omega)) (gct rfl (gSk (gS (gBk (gS (gW (.p 0 (.p 1 (.p 2 (.p 4 (.p 5 (.p 6 (.q 3 (.e 7 (.e 8 (.p 9 .fin) .nil) .nil)))))))) [7] [0,1,2,4,5,6,9] hm [] [] rfl mxo (by kernel_rfl) (λ_ _ _ h=>h.2) λw hm hS=>tP rfl (λw=>yM rfl) (tP rfl (λw=>yM rfl) (gg λaO aP aC=>?_))))))))))))))))
   obtain ⟨aj,ak,al,he⟩ := idx_form' h1 aC
   obtain ⟨rfl,_,rfl⟩ := sl3 he
   obtain ⟨aQ,aR,aS⟩ := rk_Phi_ h1 aC
   refine tP rfl (λw=>yI st_45 aP (idx_lt aC) rfl) (tP rfl (λw=>yM rfl) (tP rfl (λw=>yM rfl) (gg λaT aV aD=>?_)))
   obtain ⟨am,an,ao,he⟩ := idx_form' h2 aD
   obtain ⟨rfl,_,rfl⟩ := sl3 he
   obtain ⟨aW,aX,aY⟩ := rk_Phi_ h2 aD
   refine tP rfl (λw=>yI st_45 aV (idx_lt aD) rfl) (tQ rfl hS (λw hm=>yn (aR.mono hm.lez) isAgg105 sizeOf105 rfl) (tO (tY rfl (yn (aX.mono hm.lez) isAgg105 sizeOf105 rfl) (tAs hS (tO (gb λap aZ=>tf rfl rfl (λa hf=>e_call hf rfl call243 rfl (laws_eqPhi_ok _ aO aQ (hm.now aS) aT aW (hm.now aY) _ aZ)) ?_))))))
   rintro aq w ⟨rfl,hB⟩
   replace hm := hm.below' hB; clear hB
   refine tAn rfl (tP rfl (λw=>yN rfl) (tE (gsn 26 rfl (λaa=>?_) λaa=>?_)))
   ·exact gct rfl (gS (gR (gA rfl (gE (gRt (gLr aN aM (gr1 results213 rfl ⟨rfl,hm.below⟩)))))))
   exact gcf rfl (gSk (gR (gM rfl (gP (by omega) (by omega) rfl (gA rfl (gE (gze hm [] rfl)))))))
  repeat clear hm
  intro ar au w hm av aw
  exact gS (gS (gR (gM rfl (gM rfl (gY (yV st_45 rfl) (gB rfl (gE (go _ 14 rfl (decide_eq_false (by omega)) (gcf rfl (gXt (gHh (gS (gR (gA rfl (gE (gRt (gr1 results213 rfl ⟨rfl,hm.below⟩)))))))))))))))))
theorem laws_eqIns_ok (w0 : World) (a_ : Ins_) (v1 : Value) (h1 : GT.rep (hp w0) [v1] a_.args) (b_ : Ins_) (v2 : Value) (h2 : GT.rep (hp w0) [v2] b_.args) :
    ConM Tryz.prog 244 [(.agg #[nV a_.op,nV a_.to,v1,nV a_.n_]),(.agg #[nV b_.op,nV b_.to,v2,nV b_.n_])] w0 (laws_eqIns a_ b_) λr v w'=>v = (.bool (r)) ∧ Below w0.heap.size w0 w' := by
  unfold laws_eqIns
  refine gcon func244 rfl λr=>?_
  have hm := Mem.start w0
  refine gS (gR (gBx hm rfl λaF w hm=>gBx hm rfl λaG w hm=>gA rfl (gE (gS (gS (gR (gF fo_51_0 rfl (gL hm 1 isAgg3 rfl (gF fo_51_0 rfl (gL hm 0 isAgg3 rfl (gB rfl (gE (gsd 9 rfl (λaA=>?_) λaA=>?_)))))))))))))
  ·exact gct rfl (gS (gR (gA rfl (gE (gRt (gr1 results244 rfl ⟨rfl,hm.below⟩))))))
  refine gcf rfl (gSk (gS (gS (gR (gF fo_51_1 rfl (gL hm 1 isAgg3 rfl (gF fo_51_1 rfl (gL hm 0 isAgg3 rfl (gB rfl (gE (gsd 14 rfl (λaC=>?_) λaC=>?_)))))))))))
  ·exact gct rfl (gS (gR (gA rfl (gE (gRt (gr1 results244 rfl ⟨rfl,hm.below⟩))))))
  refine gcf rfl (gSk (gS (gS (gR (gF fo_51_2 rfl (gL hm 1 isAgg47 rfl (gF fo_51_2 rfl (gL hm 0 isAgg47 rfl (gC hm rfl call215 (laws_eqIntS_ok _ a_.args v1 (hm.now h1) b_.args v2 (hm.now h2)) λaH aJ w hm=>gN rfl (gE (gsn 20 rfl (λaD=>?_) λaD=>?_)))))))))))
  ·exact gct rfl (gS (gR (gA rfl (gE (gRt (gr1 results244 rfl ⟨rfl,hm.below⟩))))))
  refine gcf rfl (gSk (gS (gS (gR (gF fo_51_3 rfl (gL hm 1 isAgg3 rfl (gF fo_51_3 rfl (gL hm 0 isAgg3 rfl (gB rfl (gE (gsd 25 rfl (λaE=>?_) λaE=>?_)))))))))))
  ·exact gct rfl (gS (gR (gA rfl (gE (gRt (gr1 results244 rfl ⟨rfl,hm.below⟩))))))
  exact gcf rfl (gSk (gS (gR (gA rfl (gE (gRt (gr1 results244 rfl ⟨rfl,hm.below⟩)))))))
theorem laws_eqInsS_ok (w0 : World) (a_ : List Ins_) (v1 : Value) (h1 : GT.rep (hp w0) [v1] a_) (b_ : List Ins_) (v2 : Value) (h2 : GT.rep (hp w0) [v2] b_) :
    ConM Tryz.prog 214 [v1,v2] w0 (laws_eqInsS a_ b_) λr v w'=>v = (.bool (r)) ∧ Below w0.heap.size w0 w' := by
  unfold laws_eqInsS
  refine gcon func214 rfl λr=>?_
  have hm := Mem.start w0
  refine gS (gR (gA rfl (gE (gS (gS (gR (gM rfl ?_)))))))
  obtain ⟨aF,aG,rfl,ab⟩ := ro_slice h1
  refine gY (yV st_46 rfl) (gM rfl ?_)
  obtain ⟨aH,aJ,rfl,ac⟩ := ro_slice h2
  refine gY (yV st_46 rfl) (gB rfl (gE (gsd 10 rfl (λaL=>?_) λaL=>?_)))
  ·exact gct rfl (gS (gR (gA rfl (gE (gRt (gr1 results214 rfl ⟨rfl,hm.below⟩))))))
  refine gcf rfl (gSk (gS (gS (gR (gA rfl (gE (gBk (gNf hm (λaA aE=>[(0,(.slice aF a_.length aG)),(1,(.slice aH b_.length aJ)),(5,(nV aA))]) (λaA aE=>[]) [] rfl ?_ ?_))))))))
  ·repeat clear hm
   intro ae aM aA aE w hm af ah ai aN
   refine gS (gS (gR (gM rfl (gM rfl (gY (yV st_46 rfl) (gB rfl (gE (go _ 14 rfl (decide_eq_true (by omega)) (gct rfl (gSk (gS (gBk (gS (gW (.p 0 (.p 1 (.p 2 (.p 4 (.p 5 (.p 6 (.q 3 (.e 7 (.e 8 (.p 9 .fin) .nil) .nil)))))))) [7] [0,1,2,4,5,6,9] hm [] [] rfl mxo (by kernel_rfl) (λ_ _ _ h=>h.2) λw hm hS=>tP rfl (λw=>yM rfl) (tP rfl (λw=>yM rfl) (gg λaO aP aC=>?_))))))))))))))))
   obtain ⟨aj,ak,al,he⟩ := idx_form' h1 aC
   obtain ⟨rfl,_,rfl⟩ := sl3 he
   obtain ⟨aQ,aR,aS⟩ := rk_Ins_ h1 aC
   refine tP rfl (λw=>yI st_46 aP (idx_lt aC) rfl) (tP rfl (λw=>yM rfl) (tP rfl (λw=>yM rfl) (gg λaT aV aD=>?_)))
   obtain ⟨am,an,ao,he⟩ := idx_form' h2 aD
   obtain ⟨rfl,_,rfl⟩ := sl3 he
   obtain ⟨aW,aX,aY⟩ := rk_Ins_ h2 aD
   refine tP rfl (λw=>yI st_46 aV (idx_lt aD) rfl) (tQ rfl hS (λw hm=>yn (aR.mono hm.lez) isAgg51 sizeOf51 rfl) (tO (tY rfl (yn (aX.mono hm.lez) isAgg51 sizeOf51 rfl) (tAs hS (tO (gb λap aZ=>tf rfl rfl (λa hf=>e_call hf rfl call244 rfl (laws_eqIns_ok _ aO aQ (hm.now aS) aT aW (hm.now aY) _ aZ)) ?_))))))
   rintro aq w ⟨rfl,hB⟩
   replace hm := hm.below' hB; clear hB
   refine tAn rfl (tP rfl (λw=>yN rfl) (tE (gsn 26 rfl (λaa=>?_) λaa=>?_)))
   ·exact gct rfl (gS (gR (gA rfl (gE (gRt (gLr aN aM (gr1 results214 rfl ⟨rfl,hm.below⟩)))))))
   exact gcf rfl (gSk (gR (gM rfl (gP (by omega) (by omega) rfl (gA rfl (gE (gze hm [] rfl)))))))
  repeat clear hm
  intro ar au w hm av aw
  exact gS (gS (gR (gM rfl (gM rfl (gY (yV st_46 rfl) (gB rfl (gE (go _ 14 rfl (decide_eq_false (by omega)) (gcf rfl (gXt (gHh (gS (gR (gA rfl (gE (gRt (gr1 results214 rfl ⟨rfl,hm.below⟩)))))))))))))))))
theorem laws_eqBlock_ok (w0 : World) (a_ : Block_) (v1 : Value) (h1 : GT.rep (hp w0) [v1] a_.phis) (v2 : Value) (h2 : GT.rep (hp w0) [v2] a_.ins) (v3 : Value) (h3 : GT.rep (hp w0) [v3] a_.next_) (b_ : Block_) (v4 : Value) (h4 : GT.rep (hp w0) [v4] b_.phis) (v5 : Value) (h5 : GT.rep (hp w0) [v5] b_.ins) (v6 : Value) (h6 : GT.rep (hp w0) [v6] b_.next_) :
    ConM Tryz.prog 155 [(.agg #[v1,v2,nV a_.jump,nV a_.on,v3]),(.agg #[v4,v5,nV b_.jump,nV b_.on,v6])] w0 (laws_eqBlock a_ b_) λr v w'=>v = (.bool (r)) ∧ Below w0.heap.size w0 w' := by
  unfold laws_eqBlock
  refine gcon func155 rfl λr=>?_
  have hm := Mem.start w0
  refine gS (gR (gBx hm rfl λaG w hm=>gBx hm rfl λaH w hm=>gA rfl (gE (gS (gS (gR (gF fo_49_0 rfl (gL hm 1 isAgg45 rfl (gF fo_49_0 rfl (gL hm 0 isAgg45 rfl (gC hm rfl call213 (laws_eqPhiS_ok _ a_.phis v1 (hm.now h1) b_.phis v4 (hm.now h4)) λaJ aL w hm=>gN rfl (gE (gsn 10 rfl (λaA=>?_) λaA=>?_)))))))))))))
  ·exact gct rfl (gS (gR (gA rfl (gE (gRt (gr1 results155 rfl ⟨rfl,hm.below⟩))))))
  refine gcf rfl (gSk (gS (gS (gR (gF fo_49_1 rfl (gL hm 1 isAgg46 rfl (gF fo_49_1 rfl (gL hm 0 isAgg46 rfl (gC hm rfl call214 (laws_eqInsS_ok _ a_.ins v2 (hm.now h2) b_.ins v5 (hm.now h5)) λaM aN w hm=>gN rfl (gE (gsn 16 rfl (λaC=>?_) λaC=>?_)))))))))))
  ·exact gct rfl (gS (gR (gA rfl (gE (gRt (gr1 results155 rfl ⟨rfl,hm.below⟩))))))
  refine gcf rfl (gSk (gS (gS (gR (gF fo_49_2 rfl (gL hm 1 isAgg3 rfl (gF fo_49_2 rfl (gL hm 0 isAgg3 rfl (gB rfl (gE (gsd 21 rfl (λaD=>?_) λaD=>?_)))))))))))
  ·exact gct rfl (gS (gR (gA rfl (gE (gRt (gr1 results155 rfl ⟨rfl,hm.below⟩))))))
  refine gcf rfl (gSk (gS (gS (gR (gF fo_49_3 rfl (gL hm 1 isAgg3 rfl (gF fo_49_3 rfl (gL hm 0 isAgg3 rfl (gB rfl (gE (gsd 26 rfl (λaE=>?_) λaE=>?_)))))))))))
  ·exact gct rfl (gS (gR (gA rfl (gE (gRt (gr1 results155 rfl ⟨rfl,hm.below⟩))))))
  refine gcf rfl (gSk (gS (gS (gR (gF fo_49_4 rfl (gL hm 1 isAgg47 rfl (gF fo_49_4 rfl (gL hm 0 isAgg47 rfl (gC hm rfl call215 (laws_eqIntS_ok _ a_.next_ v3 (hm.now h3) b_.next_ v6 (hm.now h6)) λaO aP w hm=>gN rfl (gE (gsn 32 rfl (λaF=>?_) λaF=>?_)))))))))))
  ·exact gct rfl (gS (gR (gA rfl (gE (gRt (gr1 results155 rfl ⟨rfl,hm.below⟩))))))
  exact gcf rfl (gSk (gS (gR (gA rfl (gE (gRt (gr1 results155 rfl ⟨rfl,hm.below⟩)))))))
theorem laws_eqBlockS_ok (w0 : World) (a_ : List Block_) (v1 : Value) (h1 : GT.rep (hp w0) [v1] a_) (b_ : List Block_) (v2 : Value) (h2 : GT.rep (hp w0) [v2] b_) :
    ConM Tryz.prog 97 [v1,v2] w0 (laws_eqBlockS a_ b_) λr v w'=>v = (.bool (r)) ∧ Below w0.heap.size w0 w' := by
  unfold laws_eqBlockS
  refine gcon func97 rfl λr=>?_
  have hm := Mem.start w0
  refine gS (gR (gA rfl (gE (gS (gS (gR (gM rfl ?_)))))))
  obtain ⟨aF,aG,rfl,al⟩ := ro_slice h1
  refine gY (yV st_42 rfl) (gM rfl ?_)
  obtain ⟨aH,aJ,rfl,am⟩ := ro_slice h2
  refine gY (yV st_42 rfl) (gB rfl (gE (gsd 10 rfl (λaL=>?_) λaL=>?_)))
  ·exact gct rfl (gS (gR (gA rfl (gE (gRt (gr1 results97 rfl ⟨rfl,hm.below⟩))))))
  refine gcf rfl (gSk (gS (gS (gR (gA rfl (gE (gBk (gNf hm (λaA aE=>[(0,(.slice aF a_.length aG)),(1,(.slice aH b_.length aJ)),(5,(nV aA))]) (λaA aE=>[]) [] rfl ?_ ?_))))))))
  ·repeat clear hm
   intro an aM aA aE w hm ao ap aq aN
   refine gS (gS (gR (gM rfl (gM rfl (gY (yV st_42 rfl) (gB rfl (gE (go _ 14 rfl (decide_eq_true (by omega)) (gct rfl (gSk (gS (gBk (gS (gW (.p 0 (.p 1 (.p 2 (.p 4 (.p 5 (.p 6 (.q 3 (.e 7 (.e 8 (.p 9 .fin) .nil) .nil)))))))) [7] [0,1,2,4,5,6,9] hm [] [] rfl mxo (by kernel_rfl) (λ_ _ _ h=>h.2) λw hm hS=>tP rfl (λw=>yM rfl) (tP rfl (λw=>yM rfl) (gg λaO aP aC=>?_))))))))))))))))
   obtain ⟨ar,au,av,he⟩ := idx_form' h1 aC
   obtain ⟨rfl,_,rfl⟩ := sl3 he
   obtain ⟨aQ,aR,aS,aT,aV,aW,aX⟩ := rk_Block_ h1 aC
   refine tP rfl (λw=>yI st_42 aP (idx_lt aC) rfl) (tP rfl (λw=>yM rfl) (tP rfl (λw=>yM rfl) (gg λaY aZ aD=>?_)))
   obtain ⟨aw,ax,ay,he⟩ := idx_form' h2 aD
   obtain ⟨rfl,_,rfl⟩ := sl3 he
   obtain ⟨aa,ab,ac,ae,af,ah,ai⟩ := rk_Block_ h2 aD
   refine tP rfl (λw=>yI st_42 aZ (idx_lt aD) rfl) (tQ rfl hS (λw hm=>yn (aT.mono hm.lez) isAgg49 sizeOf49 rfl) (tO (tY rfl (yn (ae.mono hm.lez) isAgg49 sizeOf49 rfl) (tAs hS (tO (gb λaz aj=>tf rfl rfl (λa hf=>e_call hf rfl call155 rfl (laws_eqBlock_ok _ aO aQ (hm.now aV) aR (hm.now aW) aS (hm.now aX) aY aa (hm.now af) ab (hm.now ah) ac (hm.now ai) _ aj)) ?_))))))
   rintro bA w ⟨rfl,hB⟩
   replace hm := hm.below' hB; clear hB
   refine tAn rfl (tP rfl (λw=>yN rfl) (tE (gsn 26 rfl (λak=>?_) λak=>?_)))
   ·exact gct rfl (gS (gR (gA rfl (gE (gRt (gLr aN aM (gr1 results97 rfl ⟨rfl,hm.below⟩)))))))
   exact gcf rfl (gSk (gR (gM rfl (gP (by omega) (by omega) rfl (gA rfl (gE (gze hm [] rfl)))))))
  repeat clear hm
  intro bB bC w hm bD bE
  exact gS (gS (gR (gM rfl (gM rfl (gY (yV st_42 rfl) (gB rfl (gE (go _ 14 rfl (decide_eq_false (by omega)) (gcf rfl (gXt (gHh (gS (gR (gA rfl (gE (gRt (gr1 results97 rfl ⟨rfl,hm.below⟩)))))))))))))))))
theorem laws_eqCode_ok (w0 : World) (a_ : Code_) (v1 : Value) (h1 : GT.rep (hp w0) [v1] a_.blocks) (b_ : Code_) (v2 : Value) (h2 : GT.rep (hp w0) [v2] b_.blocks) :
    ConM Tryz.prog 63 [(.agg #[nV a_.params,nV a_.regs,v1]),(.agg #[nV b_.params,nV b_.regs,v2])] w0 (laws_eqCode a_ b_) λr v w'=>v = (.bool (r)) ∧ Below w0.heap.size w0 w' := by
  unfold laws_eqCode
  refine gcon func63 rfl λr=>?_
  have hm := Mem.start w0
  refine gS (gR (gBx hm rfl λaE w hm=>gBx hm rfl λaF w hm=>gA rfl (gE (gS (gS (gR (gF fo_44_0 rfl (gL hm 1 isAgg3 rfl (gF fo_44_0 rfl (gL hm 0 isAgg3 rfl (gB rfl (gE (gsd 9 rfl (λaA=>?_) λaA=>?_)))))))))))))
  ·exact gct rfl (gS (gR (gA rfl (gE (gRt (gr1 results63 rfl ⟨rfl,hm.below⟩))))))
  refine gcf rfl (gSk (gS (gS (gR (gF fo_44_1 rfl (gL hm 1 isAgg3 rfl (gF fo_44_1 rfl (gL hm 0 isAgg3 rfl (gB rfl (gE (gsd 14 rfl (λaC=>?_) λaC=>?_)))))))))))
  ·exact gct rfl (gS (gR (gA rfl (gE (gRt (gr1 results63 rfl ⟨rfl,hm.below⟩))))))
  refine gcf rfl (gSk (gS (gS (gR (gF fo_44_2 rfl (gL hm 1 isAgg42 rfl (gF fo_44_2 rfl (gL hm 0 isAgg42 rfl (gC hm rfl call97 (laws_eqBlockS_ok _ a_.blocks v1 (hm.now h1) b_.blocks v2 (hm.now h2)) λaG aH w hm=>gN rfl (gE (gsn 20 rfl (λaD=>?_) λaD=>?_)))))))))))
  ·exact gct rfl (gS (gR (gA rfl (gE (gRt (gr1 results63 rfl ⟨rfl,hm.below⟩))))))
  exact gcf rfl (gSk (gS (gR (gA rfl (gE (gRt (gr1 results63 rfl ⟨rfl,hm.below⟩)))))))
theorem laws_eqCodeS_ok (w0 : World) (a_ : List Code_) (v1 : Value) (h1 : GT.rep (hp w0) [v1] a_) (b_ : List Code_) (v2 : Value) (h2 : GT.rep (hp w0) [v2] b_) :
    ConM Tryz.prog 29 [v1,v2] w0 (laws_eqCodeS a_ b_) λr v w'=>v = (.bool (r)) ∧ Below w0.heap.size w0 w' := by
  unfold laws_eqCodeS
  refine gcon func29 rfl λr=>?_
  have hm := Mem.start w0
  refine gS (gR (gA rfl (gE (gS (gS (gR (gM rfl ?_)))))))
  obtain ⟨aF,aG,rfl,ab⟩ := ro_slice h1
  refine gY (yV st_26 rfl) (gM rfl ?_)
  obtain ⟨aH,aJ,rfl,ac⟩ := ro_slice h2
  refine gY (yV st_26 rfl) (gB rfl (gE (gsd 10 rfl (λaL=>?_) λaL=>?_)))
  ·exact gct rfl (gS (gR (gA rfl (gE (gRt (gr1 results29 rfl ⟨rfl,hm.below⟩))))))
  refine gcf rfl (gSk (gS (gS (gR (gA rfl (gE (gBk (gNf hm (λaA aE=>[(0,(.slice aF a_.length aG)),(1,(.slice aH b_.length aJ)),(5,(nV aA))]) (λaA aE=>[]) [] rfl ?_ ?_))))))))
  ·repeat clear hm
   intro ae aM aA aE w hm af ah ai aN
   refine gS (gS (gR (gM rfl (gM rfl (gY (yV st_26 rfl) (gB rfl (gE (go _ 14 rfl (decide_eq_true (by omega)) (gct rfl (gSk (gS (gBk (gS (gW (.p 0 (.p 1 (.p 2 (.p 4 (.p 5 (.p 6 (.q 3 (.e 7 (.e 8 (.p 9 .fin) .nil) .nil)))))))) [7] [0,1,2,4,5,6,9] hm [] [] rfl mxo (by kernel_rfl) (λ_ _ _ h=>h.2) λw hm hS=>tP rfl (λw=>yM rfl) (tP rfl (λw=>yM rfl) (gg λaO aP aC=>?_))))))))))))))))
   obtain ⟨aj,ak,al,he⟩ := idx_form' h1 aC
   obtain ⟨rfl,_,rfl⟩ := sl3 he
   obtain ⟨aQ,aR,aS⟩ := rk_Code_ h1 aC
   refine tP rfl (λw=>yI st_26 aP (idx_lt aC) rfl) (tP rfl (λw=>yM rfl) (tP rfl (λw=>yM rfl) (gg λaT aV aD=>?_)))
   obtain ⟨am,an,ao,he⟩ := idx_form' h2 aD
   obtain ⟨rfl,_,rfl⟩ := sl3 he
   obtain ⟨aW,aX,aY⟩ := rk_Code_ h2 aD
   refine tP rfl (λw=>yI st_26 aV (idx_lt aD) rfl) (tQ rfl hS (λw hm=>yn (aR.mono hm.lez) isAgg44 sizeOf44 rfl) (tO (tY rfl (yn (aX.mono hm.lez) isAgg44 sizeOf44 rfl) (tAs hS (tO (gb λap aZ=>tf rfl rfl (λa hf=>e_call hf rfl call63 rfl (laws_eqCode_ok _ aO aQ (hm.now aS) aT aW (hm.now aY) _ aZ)) ?_))))))
   rintro aq w ⟨rfl,hB⟩
   replace hm := hm.below' hB; clear hB
   refine tAn rfl (tP rfl (λw=>yN rfl) (tE (gsn 26 rfl (λaa=>?_) λaa=>?_)))
   ·exact gct rfl (gS (gR (gA rfl (gE (gRt (gLr aN aM (gr1 results29 rfl ⟨rfl,hm.below⟩)))))))
   exact gcf rfl (gSk (gR (gM rfl (gP (by omega) (by omega) rfl (gA rfl (gE (gze hm [] rfl)))))))
  repeat clear hm
  intro ar au w hm av aw
  exact gS (gS (gR (gM rfl (gM rfl (gY (yV st_26 rfl) (gB rfl (gE (go _ 14 rfl (decide_eq_false (by omega)) (gcf rfl (gXt (gHh (gS (gR (gA rfl (gE (gRt (gr1 results29 rfl ⟨rfl,hm.below⟩)))))))))))))))))
theorem laws_eqUnit_ok (w0 : World) (a_ : Unit_) (v1 : Value) (h1 : GT.rep (hp w0) [v1] a_.codes) (b_ : Unit_) (v2 : Value) (h2 : GT.rep (hp w0) [v2] b_.codes) :
    ConM Tryz.prog 10 [(.agg #[v1]),(.agg #[v2])] w0 (laws_eqUnit a_ b_) λr v w'=>v = (.bool (r)) ∧ Below w0.heap.size w0 w' := by
  unfold laws_eqUnit
  refine gcon func10 rfl λr=>?_
  have hm := Mem.start w0
  refine gS (gR (gBx hm rfl λaC w hm=>gBx hm rfl λaD w hm=>gA rfl (gE (gS (gS (gR (gF fo_28_0 rfl (gL hm 1 isAgg26 rfl (gF fo_28_0 rfl (gL hm 0 isAgg26 rfl (gC hm rfl call29 (laws_eqCodeS_ok _ a_.codes v1 (hm.now h1) b_.codes v2 (hm.now h2)) λaE aF w hm=>gN rfl (gE (gsn 10 rfl (λaA=>?_) λaA=>?_)))))))))))))
  ·exact gct rfl (gS (gR (gA rfl (gE (gRt (gr1 results10 rfl ⟨rfl,hm.below⟩))))))
  exact gcf rfl (gSk (gS (gR (gA rfl (gE (gRt (gr1 results10 rfl ⟨rfl,hm.below⟩)))))))
theorem laws_markIntS_ok (w0 : World) (hz : Heap) (a_ : List Int) (v1 : Value) (k_ : Int) (hm0 : Mem w0 hz w0 [ow [v1] a_]) :
    ConM Tryz.prog 100 [v1,nV k_] w0 (laws_markIntS a_ k_) λr v w'=>v = (nV r.1) ∧ Mem w0 hz w' [ow [v1] r.2] := by
  unfold laws_markIntS
  refine gcon func100 rfl λr=>?_
  have hm := hm0
  refine gS (gR (gA rfl (gE (gS (gS (gR (gA rfl (gE ?_))))))))
  obtain ⟨aE,aF,rfl,aH⟩ := ro_slice (hm.ow_rep 0 rfl)
  refine gBk (gNf hm (λaD aA=>[(0,(.slice aE a_.length aF)),(1,(nV aA.2)),(5,(nV aD))]) (λaD aA=>[ow [.slice aE a_.length aF] aA.1]) [0] rfl ?_ ?_)
  ·repeat clear hm
   intro _ _ aD aA w hm aJ aL aM _
   refine gS (gS (gR (gM rfl (gM rfl ?_))))
   have aN := rep_len (hm.ow_rep 0 rfl)
   refine gY (yV st_47 rfl) (gB rfl (gE (go _ 9 rfl (decide_eq_true (by omega)) (gct rfl (gSk (gS (gBk (gS (gR (gM rfl (gM rfl (gM rfl (gg λaO aG aC=>?_)))))))))))))
   obtain ⟨aP,aQ,aR,he⟩ := idx_form (hm.ow_rep 0 rfl) aC
   obtain ⟨rfl,_,rfl⟩ := sl3 he
   have hL1_1 := rep_slice_len (hm.ow_rep 0 rfl)
   refine gI st_47 aG (idx_lt2 aC hL1_1) rfl (gf0 rfl (λa hf=>e_setElem (x1 := aA.2) (j := 0) (vs := [nV aA.2]) 0 hf hm rfl aC rfl sizeOf3 rfl rfl rfl (one_cons rfl one_nil) rfl rfl) ?_)
   rintro _ w hm
   have aS := List.getElem?_set_self (a := aA.2) (idx_lt aC)
   exact gE (gR (gM rfl (gB rfl (gA rfl (gE (gR (gM rfl (gP (by omega) (by omega) rfl (gA rfl (gE (gze hm [0] rfl)))))))))))
  repeat clear hm
  intro aT aV w hm aW aX
  refine gS (gS (gR (gM rfl (gM rfl ?_))))
  have aY := rep_len (hm.ow_rep 0 rfl)
  exact gY (yV st_47 rfl) (gB rfl (gE (go _ 9 rfl (decide_eq_false (by omega)) (gcf rfl (gXt (gHh (gS (gR (gM rfl (gA rfl (gE (gRt (gr1 results100 rfl ⟨rfl,hm.pk [0] rfl rfl⟩)))))))))))))
theorem laws_markPhiS_ok (w0 : World) (hz : Heap) (a_ : List Phi_) (v1 : Value) (k_ : Int) (hm0 : Mem w0 hz w0 [ow [v1] a_]) :
    ConM Tryz.prog 98 [v1,nV k_] w0 (laws_markPhiS a_ k_) λr v w'=>v = (nV r.1) ∧ Mem w0 hz w' [ow [v1] r.2] := by
  unfold laws_markPhiS
  refine gcon func98 rfl λr=>?_
  have hm := hm0
  refine gS (gR (gA rfl (gE (gS (gS (gR (gA rfl (gE ?_))))))))
  obtain ⟨aO,aF,rfl,aX⟩ := ro_slice (hm.ow_rep 0 rfl)
  refine gBk (gNf hm (λaE aA=>[(0,(.slice aO a_.length aF)),(1,(nV aA.2)),(5,(nV aE))]) (λaE aA=>[ow [.slice aO a_.length aF] aA.1]) [0] rfl ?_ ?_)
  ·repeat clear hm
   intro _ _ aE aA w hm aY aZ aa _
   refine gS (gS (gR (gM rfl (gM rfl ?_))))
   have ab := rep_len (hm.ow_rep 0 rfl)
   refine gY (yV st_45 rfl) (gB rfl (gE (go _ 9 rfl (decide_eq_true (by omega)) (gct rfl (gSk (gS (gBk (gS (gR (gM rfl (gM rfl (gM rfl (gg λaC aP aG=>?_)))))))))))))
   obtain ⟨aH,aJ,ac,he⟩ := idx_form' (hm.ow_rep 0 rfl) aG
   obtain ⟨rfl,_,rfl⟩ := sl3 he
   obtain ⟨aQ,aR,ae⟩ := rk_Phi_ (hm.ow_rep 0 rfl) aG
   have hL1_1 := rep_slice_len (hm.ow_rep 0 rfl)
   refine gI st_45 aP (idx_lt2 aG hL1_1) rfl (gF fo_105_0 rfl (gf0 rfl (λa hf=>e_setElemR (x1 := ((⟨aA.2,aC.args⟩ : Phi_) : Phi_)) (j := 0) (vs := [nV aA.2]) 0 hf hm rfl aG aR rfl (λF h ho=>(λ_=>own_fst_map (α := Int) (β := (List Int)) (cs := [nV aC.to]) (cs' := [nV aA.2]) (ds := [aQ]) rfl (λ_ _=>Flat.own_iff.2 rfl)) F ho) rfl sizeOf3 rfl rfl rfl (one_cons rfl one_nil) rfl) ?_))
   rintro _ w hm
   have aM := List.getElem?_set_self (a := ((⟨aA.2,aC.args⟩ : Phi_) : Phi_)) (idx_lt aG)
   refine gE (gS (gR (gM rfl (gB rfl (gA rfl (gE (gR (gM rfl (gM rfl ?_)))))))))
   obtain ⟨_,_,aL,aS⟩ := ro_get' (hm.ow_rep 0 rfl) aM
   obtain ⟨_,_,rfl,rfl,aN⟩ := aS
   obtain ⟨aD,rfl,-⟩ := id aN
   replace aN : GT.rep (hp _) [aD] aC.args := aN
   replace aL : CellsAt (hp _) aH (aJ + (aE).toNat * 2) [nV aA.2,aD] := aL
   have hL1_2 := rep_slice_len (hm.ow_rep 0 rfl)
   refine gI st_45 aP (idx_lt2 aM hL1_2) rfl (gF fo_105_1 rfl (gY (yl isAgg47 (aL.cell (j := 1) rfl) rfl) (gM rfl ?_)))
   replace hm : Mem w0 hz _ [ow [aD] aC.args,hole [sV aH aJ a_.length aF] [aD] (λ(y : List Int)=>((aA.1.set (aE).toNat (⟨aA.2,aC.args⟩ : Phi_)) : List Phi_).set (aE).toNat (⟨aA.2,y⟩ : Phi_))] := hm.open 0 rfl (foc_elem aM aL rfl (show FocH (α := Phi_) _ _ (⟨aA.2,aC.args⟩ : Phi_) [aD] aC.args (λy=>(⟨aA.2,y⟩ : Phi_)) from (foc_snd (α := Int) (β := (List Int)) (cs := [nV aA.2]) (ds := [aD]) (v := [aD]) (inner := aC.args) (x := aC.args) (z := aA.2) (put := λ(y : List Int)=>y) rfl (foc_id [aD] aC.args))))
   obtain ⟨aT,hle,hm1,hsub,aV⟩ := hm.take2 (L1 := [ow [aD] aC.args]) (L2 := [hole [sV aH aJ a_.length aF] [aD] (λ(y : List Int)=>((aA.1.set (aE).toNat (⟨aA.2,aC.args⟩ : Phi_)) : List Phi_).set (aE).toNat (⟨aA.2,y⟩ : Phi_))]) [0] [1] (by decide) rfl rfl
   refine gCg rfl call100 (laws_markIntS_ok _ aT aC.args aD (w64 (aA.2 + 1)) hm1 ) ?_
   rintro aW af ah w ⟨rfl,hB⟩
   replace hm := aV _ _ hB; clear hB
   replace hm := (hm.shut 1 0 (by decide) rfl rfl).pk (L' := [ow [sV aH aJ a_.length aF] ((aA.1.set (aE).toNat (⟨aA.2,aC.args⟩ : Phi_)).set (aE).toNat (⟨aA.2,aW.2⟩ : Phi_))]) [1] rfl rfl
   exact gA rfl (gE (gR (gM rfl (gP (by omega) (by omega) rfl (gA rfl (gE (gze hm [0] rfl)))))))
  repeat clear hm
  intro ai aj w hm ak al
  refine gS (gS (gR (gM rfl (gM rfl ?_))))
  have am := rep_len (hm.ow_rep 0 rfl)
  exact gY (yV st_45 rfl) (gB rfl (gE (go _ 9 rfl (decide_eq_false (by omega)) (gcf rfl (gXt (gHh (gS (gR (gM rfl (gA rfl (gE (gRt (gr1 results98 rfl ⟨rfl,hm.pk [0] rfl rfl⟩)))))))))))))
theorem laws_markInsS_ok (w0 : World) (hz : Heap) (a_ : List Ins_) (v1 : Value) (k_ : Int) (hm0 : Mem w0 hz w0 [ow [v1] a_]) :
    ConM Tryz.prog 99 [v1,nV k_] w0 (laws_markInsS a_ k_) λr v w'=>v = (nV r.1) ∧ Mem w0 hz w' [ow [v1] r.2] := by
  unfold laws_markInsS
  refine gcon func99 rfl λr=>?_
  have hm := hm0
  refine gS (gR (gA rfl (gE (gS (gS (gR (gA rfl (gE ?_))))))))
  obtain ⟨aY,aH,rfl,aj⟩ := ro_slice (hm.ow_rep 0 rfl)
  refine gBk (gNf hm (λaE aC=>[(0,(.slice aY a_.length aH)),(1,(nV aC.2)),(5,(nV aE))]) (λaE aC=>[ow [.slice aY a_.length aH] aC.1]) [0] rfl ?_ ?_)
  ·repeat clear hm
   intro _ _ aE aC w hm ak al am _
   refine gS (gS (gR (gM rfl (gM rfl ?_))))
   have an := rep_len (hm.ow_rep 0 rfl)
   refine gY (yV st_46 rfl) (gB rfl (gE (go _ 9 rfl (decide_eq_true (by omega)) (gct rfl (gSk (gS (gBk (gS (gR (gM rfl (gM rfl (gM rfl (gg λaA aS aJ=>?_)))))))))))))
   obtain ⟨aL,aM,ao,he⟩ := idx_form' (hm.ow_rep 0 rfl) aJ
   obtain ⟨rfl,_,rfl⟩ := sl3 he
   obtain ⟨aZ,aa,ap⟩ := rk_Ins_ (hm.ow_rep 0 rfl) aJ
   have hL1_1 := rep_slice_len (hm.ow_rep 0 rfl)
   refine gI st_46 aS (idx_lt2 aJ hL1_1) rfl (gF fo_51_0 rfl (gf0 rfl (λa hf=>e_setElemR (x1 := ((⟨aC.2,aA.to,aA.args,aA.n_⟩ : Ins_) : Ins_)) (j := 0) (vs := [nV aC.2]) 0 hf hm rfl aJ aa rfl (λF h ho=>(λ_=>own_fst_map (α := Int) (β := Int × (List Int) × Int) (cs := [nV aA.op]) (cs' := [nV aC.2]) (ds := [nV aA.to,aZ,nV aA.n_]) rfl (λ_ _=>Flat.own_iff.2 rfl)) F ho) rfl sizeOf3 rfl rfl rfl (one_cons rfl one_nil) rfl) ?_))
   rintro _ w hm
   have aP := List.getElem?_set_self (a := ((⟨aC.2,aA.to,aA.args,aA.n_⟩ : Ins_) : Ins_)) (idx_lt aJ)
   refine gE (gS (gR (gM rfl (gB rfl (gA rfl (gE (gS (gR (gM rfl (gM rfl (gM rfl ?_)))))))))))
   obtain ⟨_,_,aT,ab⟩ := ro_get' (hm.ow_rep 0 rfl) aP
   obtain ⟨_,_,rfl,rfl,_,_,rfl,rfl,_,_,rfl,aV,rfl⟩ := ab
   obtain ⟨aN,rfl,-⟩ := id aV
   replace aV : GT.rep (hp _) [aN] aA.args := aV
   replace aT : CellsAt (hp _) aL (aM + (aE).toNat * 4) [nV aC.2,nV aA.to,aN,nV aA.n_] := aT
   have hL1_2 := rep_slice_len (hm.ow_rep 0 rfl)
   refine gI st_46 aS (idx_lt2 aP hL1_2) rfl (gF fo_51_1 rfl (gf0 rfl (λa hf=>e_setElemR (x1 := ((⟨aC.2,w64 (aC.2 + 1),aA.args,aA.n_⟩ : Ins_) : Ins_)) (j := 1) (vs := [nV (w64 (aC.2 + 1))]) 0 hf hm rfl aP aT rfl (λF h ho=>(λ_=>own_snd_map (α := Int) (β := Int × (List Int) × Int) (cs := [nV aC.2]) (ds := [nV aA.to,aN,nV aA.n_]) (ds' := [nV (w64 (aC.2 + 1)),aN,nV aA.n_]) rfl (λ_=>own_fst_map (α := Int) (β := (List Int) × Int) (cs := [nV aA.to]) (cs' := [nV (w64 (aC.2 + 1))]) (ds := [aN,nV aA.n_]) rfl (λ_ _=>Flat.own_iff.2 rfl))) F ho) rfl sizeOf3 rfl rfl rfl (one_cons rfl one_nil) rfl) ?_))
   rintro _ w hm
   have aW := List.getElem?_set_self (a := ((⟨aC.2,w64 (aC.2 + 1),aA.args,aA.n_⟩ : Ins_) : Ins_)) (idx_lt aP)
   refine gE (gS (gR (gM rfl (gB rfl (gA rfl (gE (gS (gR (gM rfl (gM rfl ?_))))))))))
   obtain ⟨_,_,aQ,ac⟩ := ro_get' (hm.ow_rep 0 rfl) aW
   obtain ⟨_,_,rfl,rfl,_,_,rfl,rfl,_,_,rfl,aX,rfl⟩ := ac
   obtain ⟨aD,rfl,-⟩ := id aX
   replace aX : GT.rep (hp _) [aD] aA.args := aX
   replace aQ : CellsAt (hp _) aL (aM + (aE).toNat * 4) [nV aC.2,nV (w64 (aC.2 + 1)),aD,nV aA.n_] := aQ
   have hL1_3 := rep_slice_len (hm.ow_rep 0 rfl)
   refine gI st_46 aS (idx_lt2 aW hL1_3) rfl (gF fo_51_2 rfl (gY (yl isAgg47 (aQ.cell (j := 2) rfl) rfl) (gM rfl ?_)))
   replace hm : Mem w0 hz _ [ow [aD] aA.args,hole [sV aL aM a_.length aH] [aD] (λ(y : List Int)=>(((aC.1.set (aE).toNat (⟨aC.2,aA.to,aA.args,aA.n_⟩ : Ins_)).set (aE).toNat (⟨aC.2,w64 (aC.2 + 1),aA.args,aA.n_⟩ : Ins_)) : List Ins_).set (aE).toNat (⟨aC.2,w64 (aC.2 + 1),y,aA.n_⟩ : Ins_))] := hm.open 0 rfl (foc_elem aW aQ rfl (show FocH (α := Ins_) _ _ (⟨aC.2,w64 (aC.2 + 1),aA.args,aA.n_⟩ : Ins_) [aD] aA.args (λy=>(⟨aC.2,w64 (aC.2 + 1),y,aA.n_⟩ : Ins_)) from (foc_snd (α := Int) (β := Int × (List Int) × Int) (cs := [nV aC.2]) (ds := [nV (w64 (aC.2 + 1)),aD,nV aA.n_]) (v := [aD]) (inner := aA.args) (x := (w64 (aC.2 + 1),aA.args,aA.n_)) (z := aC.2) (put := λ(y : List Int)=>(w64 (aC.2 + 1),y,aA.n_)) rfl (foc_snd (α := Int) (β := (List Int) × Int) (cs := [nV (w64 (aC.2 + 1))]) (ds := [aD,nV aA.n_]) (v := [aD]) (inner := aA.args) (x := (aA.args,aA.n_)) (z := w64 (aC.2 + 1)) (put := λ(y : List Int)=>(y,aA.n_)) rfl (foc_fst (α := List Int) (β := Int) (cs := [aD]) (ds := [nV aA.n_]) (v := [aD]) (inner := aA.args) (x := aA.args) (z := aA.n_) (put := λ(y : List Int)=>y) rfl (foc_id [aD] aA.args))))))
   obtain ⟨ae,hle,hm1,hsub,af⟩ := hm.take2 (L1 := [ow [aD] aA.args]) (L2 := [hole [sV aL aM a_.length aH] [aD] (λ(y : List Int)=>(((aC.1.set (aE).toNat (⟨aC.2,aA.to,aA.args,aA.n_⟩ : Ins_)).set (aE).toNat (⟨aC.2,w64 (aC.2 + 1),aA.args,aA.n_⟩ : Ins_)) : List Ins_).set (aE).toNat (⟨aC.2,w64 (aC.2 + 1),y,aA.n_⟩ : Ins_))]) [0] [1] (by decide) rfl rfl
   refine gCg rfl call100 (laws_markIntS_ok _ ae aA.args aD (w64 ((w64 (aC.2 + 1)) + 1)) hm1 ) ?_
   rintro aG aq ar w ⟨rfl,hB⟩
   replace hm := af _ _ hB; clear hB
   replace hm := (hm.shut 1 0 (by decide) rfl rfl).pk (L' := [ow [sV aL aM a_.length aH] (((aC.1.set (aE).toNat (⟨aC.2,aA.to,aA.args,aA.n_⟩ : Ins_)).set (aE).toNat (⟨aC.2,w64 (aC.2 + 1),aA.args,aA.n_⟩ : Ins_)).set (aE).toNat (⟨aC.2,w64 (aC.2 + 1),aG.2,aA.n_⟩ : Ins_))]) [1] rfl rfl
   refine gA rfl (gE (gS (gR (gM rfl (gM rfl (gM rfl (gg λaF ah aR=>?_)))))))
   obtain ⟨aO,ai,au⟩ := rk_Ins_ (hm.ow_rep 0 rfl) aR
   have hL1_4 := rep_slice_len (hm.ow_rep 0 rfl)
   refine gI st_46 ah (idx_lt2 aR hL1_4) rfl (gF fo_51_3 rfl (gf0 rfl (λa hf=>e_setElemR (x1 := ((⟨aF.op,aF.to,aF.args,aG.1⟩ : Ins_) : Ins_)) (j := 3) (vs := [nV aG.1]) 0 hf hm rfl aR ai rfl (λF h ho=>(λ_=>own_snd_map (α := Int) (β := Int × (List Int) × Int) (cs := [nV aF.op]) (ds := [nV aF.to,aO,nV aF.n_]) (ds' := [nV aF.to,aO,nV aG.1]) rfl (λ_=>own_snd_map (α := Int) (β := (List Int) × Int) (cs := [nV aF.to]) (ds := [aO,nV aF.n_]) (ds' := [aO,nV aG.1]) rfl (λ_=>own_snd_map (α := List Int) (β := Int) (cs := [aO]) (ds := [nV aF.n_]) (ds' := [nV aG.1]) rfl (λ_ _=>Flat.own_iff.2 rfl)))) F ho) rfl sizeOf3 rfl rfl rfl (one_cons rfl one_nil) rfl) ?_))
   rintro _ w hm
   have av := List.getElem?_set_self (a := ((⟨aF.op,aF.to,aF.args,aG.1⟩ : Ins_) : Ins_)) (idx_lt aR)
   exact gE (gR (gM rfl (gB rfl (gA rfl (gE (gR (gM rfl (gP (by omega) (by omega) rfl (gA rfl (gE (gze hm [0] rfl)))))))))))
  repeat clear hm
  intro aw ax w hm ay az
  refine gS (gS (gR (gM rfl (gM rfl ?_))))
  have bA := rep_len (hm.ow_rep 0 rfl)
  exact gY (yV st_46 rfl) (gB rfl (gE (go _ 9 rfl (decide_eq_false (by omega)) (gcf rfl (gXt (gHh (gS (gR (gM rfl (gA rfl (gE (gRt (gr1 results99 rfl ⟨rfl,hm.pk [0] rfl rfl⟩)))))))))))))
theorem laws_markBlockS_ok (w0 : World) (hz : Heap) (a_ : List Block_) (v1 : Value) (k_ : Int) (hm0 : Mem w0 hz w0 [ow [v1] a_]) :
    ConM Tryz.prog 64 [v1,nV k_] w0 (laws_markBlockS a_ k_) λr v w'=>v = (nV r.1) ∧ Mem w0 hz w' [ow [v1] r.2] := by
  unfold laws_markBlockS
  refine gcon func64 rfl λr=>?_
  have hm := hm0
  refine gS (gR (gA rfl (gE (gS (gS (gR (gA rfl (gE ?_))))))))
  obtain ⟨ao,aJ,rfl,bL⟩ := ro_slice (hm.ow_rep 0 rfl)
  refine gBk (gNf hm (λaF aH=>[(0,(.slice ao a_.length aJ)),(1,(nV aH.2)),(5,(nV aF))]) (λaF aH=>[ow [.slice ao a_.length aJ] aH.1]) [0] rfl ?_ ?_)
  ·repeat clear hm
   intro _ _ aF aH w hm bM bN bO _
   refine gS (gS (gR (gM rfl (gM rfl ?_))))
   have bP := rep_len (hm.ow_rep 0 rfl)
   refine gY (yV st_42 rfl) (gB rfl (gE (go _ 9 rfl (decide_eq_true (by omega)) (gct rfl (gSk (gS (gBk (gS (gR (gM rfl (gM rfl (gg λaD au aT=>?_))))))))))))
   obtain ⟨aL,aM,bQ,he⟩ := idx_form' (hm.ow_rep 0 rfl) aT
   obtain ⟨rfl,_,rfl⟩ := sl3 he
   obtain ⟨aO,av,aw,ap,bR,bS,bT⟩ := rk_Block_ (hm.ow_rep 0 rfl) aT
   have hL1_1 := rep_slice_len (hm.ow_rep 0 rfl)
   refine gI st_42 au (idx_lt2 aT hL1_1) rfl (gF fo_49_0 rfl (gY (yl isAgg45 (ap.cell (j := 0) rfl) rfl) (gM rfl ?_)))
   replace hm : Mem w0 hz _ [ow [aO] aD.phis,hole [sV aL aM a_.length aJ] [aO] (λ(y : List Phi_)=>(aH.1 : List Block_).set (aF).toNat (⟨y,aD.ins,aD.jump,aD.on,aD.next_⟩ : Block_))] := hm.open 0 rfl (foc_elem aT ap rfl (show FocH (α := Block_) _ _ aD [aO] aD.phis (λy=>(⟨y,aD.ins,aD.jump,aD.on,aD.next_⟩ : Block_)) from (foc_fst (α := List Phi_) (β := (List Ins_) × Int × Int × (List Int)) (cs := [aO]) (ds := [av,nV aD.jump,nV aD.on,aw]) (v := [aO]) (inner := aD.phis) (x := aD.phis) (z := (aD.ins,aD.jump,aD.on,aD.next_)) (put := λ(y : List Phi_)=>y) rfl (foc_id [aO] aD.phis))))
   obtain ⟨ax,hle,hm1,hsub,ay⟩ := hm.take2 (L1 := [ow [aO] aD.phis]) (L2 := [hole [sV aL aM a_.length aJ] [aO] (λ(y : List Phi_)=>(aH.1 : List Block_).set (aF).toNat (⟨y,aD.ins,aD.jump,aD.on,aD.next_⟩ : Block_))]) [0] [1] (by decide) rfl rfl
   refine gCg rfl call98 (laws_markPhiS_ok _ ax aD.phis aO aH.2 hm1 ) ?_
   rintro aQ bU bV w ⟨rfl,hB⟩
   replace hm := ay _ _ hB; clear hB
   replace hm := (hm.shut 1 0 (by decide) rfl rfl).pk (L' := [ow [sV aL aM a_.length aJ] (aH.1.set (aF).toNat (⟨aQ.2,aD.ins,aD.jump,aD.on,aD.next_⟩ : Block_))]) [1] rfl rfl
   refine gA rfl (gE (gS (gR (gM rfl (gM rfl (gg λaE az aZ=>?_))))))
   obtain ⟨bA,aN,aq,ar,bW,bX,bY⟩ := rk_Block_ (hm.ow_rep 0 rfl) aZ
   have hL1_2 := rep_slice_len (hm.ow_rep 0 rfl)
   refine gI st_42 az (idx_lt2 aZ hL1_2) rfl (gF fo_49_1 rfl (gY (yl isAgg46 (ar.cell (j := 1) rfl) rfl) (gM rfl ?_)))
   replace hm : Mem w0 hz _ [ow [aN] aE.ins,hole [sV aL aM a_.length aJ] [aN] (λ(y : List Ins_)=>((aH.1.set (aF).toNat (⟨aQ.2,aD.ins,aD.jump,aD.on,aD.next_⟩ : Block_)) : List Block_).set (aF).toNat (⟨aE.phis,y,aE.jump,aE.on,aE.next_⟩ : Block_))] := hm.open 0 rfl (foc_elem aZ ar rfl (show FocH (α := Block_) _ _ aE [aN] aE.ins (λy=>(⟨aE.phis,y,aE.jump,aE.on,aE.next_⟩ : Block_)) from (foc_snd (α := List Phi_) (β := (List Ins_) × Int × Int × (List Int)) (cs := [bA]) (ds := [aN,nV aE.jump,nV aE.on,aq]) (v := [aN]) (inner := aE.ins) (x := (aE.ins,aE.jump,aE.on,aE.next_)) (z := aE.phis) (put := λ(y : List Ins_)=>(y,aE.jump,aE.on,aE.next_)) rfl (foc_fst (α := List Ins_) (β := Int × Int × (List Int)) (cs := [aN]) (ds := [nV aE.jump,nV aE.on,aq]) (v := [aN]) (inner := aE.ins) (x := aE.ins) (z := (aE.jump,aE.on,aE.next_)) (put := λ(y : List Ins_)=>y) rfl (foc_id [aN] aE.ins)))))
   obtain ⟨bB,hle,hm1,hsub,bC⟩ := hm.take2 (L1 := [ow [aN] aE.ins]) (L2 := [hole [sV aL aM a_.length aJ] [aN] (λ(y : List Ins_)=>((aH.1.set (aF).toNat (⟨aQ.2,aD.ins,aD.jump,aD.on,aD.next_⟩ : Block_)) : List Block_).set (aF).toNat (⟨aE.phis,y,aE.jump,aE.on,aE.next_⟩ : Block_))]) [0] [1] (by decide) rfl rfl
   refine gCg rfl call99 (laws_markInsS_ok _ bB aE.ins aN aQ.1 hm1 ) ?_
   rintro aC bZ b6 w ⟨rfl,hB⟩
   replace hm := bC _ _ hB; clear hB
   replace hm := (hm.shut 1 0 (by decide) rfl rfl).pk (L' := [ow [sV aL aM a_.length aJ] ((aH.1.set (aF).toNat (⟨aQ.2,aD.ins,aD.jump,aD.on,aD.next_⟩ : Block_)).set (aF).toNat (⟨aE.phis,aC.2,aE.jump,aE.on,aE.next_⟩ : Block_))]) [1] rfl rfl
   refine gA rfl (gE (gS (gR (gM rfl (gM rfl (gM rfl (gg λaA aa aV=>?_)))))))
   obtain ⟨bD,ab,aR,bE,b7,b8,b9⟩ := rk_Block_ (hm.ow_rep 0 rfl) aV
   have hL1_3 := rep_slice_len (hm.ow_rep 0 rfl)
   refine gI st_42 aa (idx_lt2 aV hL1_3) rfl (gF fo_49_2 rfl (gf0 rfl (λa hf=>e_setElemR (x1 := ((⟨aA.phis,aA.ins,aC.1,aA.on,aA.next_⟩ : Block_) : Block_)) (j := 2) (vs := [nV aC.1]) 0 hf hm rfl aV bE rfl (λF h ho=>(λ_=>own_snd_map (α := List Phi_) (β := (List Ins_) × Int × Int × (List Int)) (cs := [bD]) (ds := [ab,nV aA.jump,nV aA.on,aR]) (ds' := [ab,nV aC.1,nV aA.on,aR]) rfl (λ_=>own_snd_map (α := List Ins_) (β := Int × Int × (List Int)) (cs := [ab]) (ds := [nV aA.jump,nV aA.on,aR]) (ds' := [nV aC.1,nV aA.on,aR]) rfl (λ_=>own_fst_map (α := Int) (β := Int × (List Int)) (cs := [nV aA.jump]) (cs' := [nV aC.1]) (ds := [nV aA.on,aR]) rfl (λ_ _=>Flat.own_iff.2 rfl)))) F ho) rfl sizeOf3 rfl rfl rfl (one_cons rfl one_nil) rfl) ?_))
   rintro _ w hm
   have aW := List.getElem?_set_self (a := ((⟨aA.phis,aA.ins,aC.1,aA.on,aA.next_⟩ : Block_) : Block_)) (idx_lt aV)
   refine gE (gS (gR (gM rfl (gB rfl (gA rfl (gE (gS (gR (gM rfl (gM rfl (gM rfl ?_)))))))))))
   obtain ⟨_,_,ac,bF⟩ := ro_get' (hm.ow_rep 0 rfl) aW
   obtain ⟨_,_,rfl,ae,_,_,rfl,af,_,_,rfl,rfl,_,_,rfl,rfl,ah⟩ := bF
   obtain ⟨ai,rfl,-⟩ := id ae
   replace ae : GT.rep (hp _) [ai] aA.phis := ae
   obtain ⟨aS,rfl,-⟩ := id af
   replace af : GT.rep (hp _) [aS] aA.ins := af
   obtain ⟨aP,rfl,-⟩ := id ah
   replace ah : GT.rep (hp _) [aP] aA.next_ := ah
   replace ac : CellsAt (hp _) aL (aM + (aF).toNat * 5) [ai,aS,nV aC.1,nV aA.on,aP] := ac
   have hL1_4 := rep_slice_len (hm.ow_rep 0 rfl)
   refine gI st_42 aa (idx_lt2 aW hL1_4) rfl (gF fo_49_3 rfl (gf0 rfl (λa hf=>e_setElemR (x1 := ((⟨aA.phis,aA.ins,aC.1,w64 (aC.1 + 1),aA.next_⟩ : Block_) : Block_)) (j := 3) (vs := [nV (w64 (aC.1 + 1))]) 0 hf hm rfl aW ac rfl (λF h ho=>(λ_=>own_snd_map (α := List Phi_) (β := (List Ins_) × Int × Int × (List Int)) (cs := [ai]) (ds := [aS,nV aC.1,nV aA.on,aP]) (ds' := [aS,nV aC.1,nV (w64 (aC.1 + 1)),aP]) rfl (λ_=>own_snd_map (α := List Ins_) (β := Int × Int × (List Int)) (cs := [aS]) (ds := [nV aC.1,nV aA.on,aP]) (ds' := [nV aC.1,nV (w64 (aC.1 + 1)),aP]) rfl (λ_=>own_snd_map (α := Int) (β := Int × (List Int)) (cs := [nV aC.1]) (ds := [nV aA.on,aP]) (ds' := [nV (w64 (aC.1 + 1)),aP]) rfl (λ_=>own_fst_map (α := Int) (β := (List Int)) (cs := [nV aA.on]) (cs' := [nV (w64 (aC.1 + 1))]) (ds := [aP]) rfl (λ_ _=>Flat.own_iff.2 rfl))))) F ho) rfl sizeOf3 rfl rfl rfl (one_cons rfl one_nil) rfl) ?_))
   rintro _ w hm
   have aj := List.getElem?_set_self (a := ((⟨aA.phis,aA.ins,aC.1,w64 (aC.1 + 1),aA.next_⟩ : Block_) : Block_)) (idx_lt aW)
   refine gE (gS (gR (gM rfl (gB rfl (gA rfl (gE (gR (gM rfl (gM rfl ?_)))))))))
   obtain ⟨_,_,aX,bG⟩ := ro_get' (hm.ow_rep 0 rfl) aj
   obtain ⟨_,_,rfl,ak,_,_,rfl,al,_,_,rfl,rfl,_,_,rfl,rfl,am⟩ := bG
   obtain ⟨an,rfl,-⟩ := id ak
   replace ak : GT.rep (hp _) [an] aA.phis := ak
   obtain ⟨aY,rfl,-⟩ := id al
   replace al : GT.rep (hp _) [aY] aA.ins := al
   obtain ⟨aG,rfl,-⟩ := id am
   replace am : GT.rep (hp _) [aG] aA.next_ := am
   replace aX : CellsAt (hp _) aL (aM + (aF).toNat * 5) [an,aY,nV aC.1,nV (w64 (aC.1 + 1)),aG] := aX
   have hL1_5 := rep_slice_len (hm.ow_rep 0 rfl)
   refine gI st_42 aa (idx_lt2 aj hL1_5) rfl (gF fo_49_4 rfl (gY (yl isAgg47 (aX.cell (j := 4) rfl) rfl) (gM rfl ?_)))
   replace hm : Mem w0 hz _ [ow [aG] aA.next_,hole [sV aL aM a_.length aJ] [aG] (λ(y : List Int)=>(((((aH.1.set (aF).toNat (⟨aQ.2,aD.ins,aD.jump,aD.on,aD.next_⟩ : Block_)).set (aF).toNat (⟨aE.phis,aC.2,aE.jump,aE.on,aE.next_⟩ : Block_)).set (aF).toNat (⟨aA.phis,aA.ins,aC.1,aA.on,aA.next_⟩ : Block_)).set (aF).toNat (⟨aA.phis,aA.ins,aC.1,w64 (aC.1 + 1),aA.next_⟩ : Block_)) : List Block_).set (aF).toNat (⟨aA.phis,aA.ins,aC.1,w64 (aC.1 + 1),y⟩ : Block_))] := hm.open 0 rfl (foc_elem aj aX rfl (show FocH (α := Block_) _ _ (⟨aA.phis,aA.ins,aC.1,w64 (aC.1 + 1),aA.next_⟩ : Block_) [aG] aA.next_ (λy=>(⟨aA.phis,aA.ins,aC.1,w64 (aC.1 + 1),y⟩ : Block_)) from (foc_snd (α := List Phi_) (β := (List Ins_) × Int × Int × (List Int)) (cs := [an]) (ds := [aY,nV aC.1,nV (w64 (aC.1 + 1)),aG]) (v := [aG]) (inner := aA.next_) (x := (aA.ins,aC.1,w64 (aC.1 + 1),aA.next_)) (z := aA.phis) (put := λ(y : List Int)=>(aA.ins,aC.1,w64 (aC.1 + 1),y)) rfl (foc_snd (α := List Ins_) (β := Int × Int × (List Int)) (cs := [aY]) (ds := [nV aC.1,nV (w64 (aC.1 + 1)),aG]) (v := [aG]) (inner := aA.next_) (x := (aC.1,w64 (aC.1 + 1),aA.next_)) (z := aA.ins) (put := λ(y : List Int)=>(aC.1,w64 (aC.1 + 1),y)) rfl (foc_snd (α := Int) (β := Int × (List Int)) (cs := [nV aC.1]) (ds := [nV (w64 (aC.1 + 1)),aG]) (v := [aG]) (inner := aA.next_) (x := (w64 (aC.1 + 1),aA.next_)) (z := aC.1) (put := λ(y : List Int)=>(w64 (aC.1 + 1),y)) rfl (foc_snd (α := Int) (β := (List Int)) (cs := [nV (w64 (aC.1 + 1))]) (ds := [aG]) (v := [aG]) (inner := aA.next_) (x := aA.next_) (z := w64 (aC.1 + 1)) (put := λ(y : List Int)=>y) rfl (foc_id [aG] aA.next_)))))))
   obtain ⟨bH,hle,hm1,hsub,bJ⟩ := hm.take2 (L1 := [ow [aG] aA.next_]) (L2 := [hole [sV aL aM a_.length aJ] [aG] (λ(y : List Int)=>(((((aH.1.set (aF).toNat (⟨aQ.2,aD.ins,aD.jump,aD.on,aD.next_⟩ : Block_)).set (aF).toNat (⟨aE.phis,aC.2,aE.jump,aE.on,aE.next_⟩ : Block_)).set (aF).toNat (⟨aA.phis,aA.ins,aC.1,aA.on,aA.next_⟩ : Block_)).set (aF).toNat (⟨aA.phis,aA.ins,aC.1,w64 (aC.1 + 1),aA.next_⟩ : Block_)) : List Block_).set (aF).toNat (⟨aA.phis,aA.ins,aC.1,w64 (aC.1 + 1),y⟩ : Block_))]) [0] [1] (by decide) rfl rfl
   refine gCg rfl call100 (laws_markIntS_ok _ bH aA.next_ aG (w64 ((w64 (aC.1 + 1)) + 1)) hm1 ) ?_
   rintro bK ba bc w ⟨rfl,hB⟩
   replace hm := bJ _ _ hB; clear hB
   replace hm := (hm.shut 1 0 (by decide) rfl rfl).pk (L' := [ow [sV aL aM a_.length aJ] (((((aH.1.set (aF).toNat (⟨aQ.2,aD.ins,aD.jump,aD.on,aD.next_⟩ : Block_)).set (aF).toNat (⟨aE.phis,aC.2,aE.jump,aE.on,aE.next_⟩ : Block_)).set (aF).toNat (⟨aA.phis,aA.ins,aC.1,aA.on,aA.next_⟩ : Block_)).set (aF).toNat (⟨aA.phis,aA.ins,aC.1,w64 (aC.1 + 1),aA.next_⟩ : Block_)).set (aF).toNat (⟨aA.phis,aA.ins,aC.1,w64 (aC.1 + 1),bK.2⟩ : Block_))]) [1] rfl rfl
   exact gA rfl (gE (gR (gM rfl (gP (by omega) (by omega) rfl (gA rfl (gE (gze hm [0] rfl)))))))
  repeat clear hm
  intro bd be w hm bf bg
  refine gS (gS (gR (gM rfl (gM rfl ?_))))
  have bh := rep_len (hm.ow_rep 0 rfl)
  exact gY (yV st_42 rfl) (gB rfl (gE (go _ 9 rfl (decide_eq_false (by omega)) (gcf rfl (gXt (gHh (gS (gR (gM rfl (gA rfl (gE (gRt (gr1 results64 rfl ⟨rfl,hm.pk [0] rfl rfl⟩)))))))))))))
theorem laws_markCodeS_ok (w0 : World) (hz : Heap) (a_ : List Code_) (v1 : Value) (k_ : Int) (hm0 : Mem w0 hz w0 [ow [v1] a_]) :
    ConM Tryz.prog 30 [v1,nV k_] w0 (laws_markCodeS a_ k_) λr v w'=>v = (nV r.1) ∧ Mem w0 hz w' [ow [v1] r.2] := by
  unfold laws_markCodeS
  refine gcon func30 rfl λr=>?_
  have hm := hm0
  refine gS (gR (gA rfl (gE (gS (gS (gR (gA rfl (gE ?_))))))))
  obtain ⟨aT,aF,rfl,ac⟩ := ro_slice (hm.ow_rep 0 rfl)
  refine gBk (gNf hm (λaD aA=>[(0,(.slice aT a_.length aF)),(1,(nV aA.2)),(5,(nV aD))]) (λaD aA=>[ow [.slice aT a_.length aF] aA.1]) [0] rfl ?_ ?_)
  ·repeat clear hm
   intro _ _ aD aA w hm ae af ah _
   refine gS (gS (gR (gM rfl (gM rfl ?_))))
   have ai := rep_len (hm.ow_rep 0 rfl)
   refine gY (yV st_26 rfl) (gB rfl (gE (go _ 9 rfl (decide_eq_true (by omega)) (gct rfl (gSk (gS (gBk (gS (gR (gM rfl (gM rfl (gM rfl (gg λaC aO aG=>?_)))))))))))))
   obtain ⟨aH,aJ,aj,he⟩ := idx_form' (hm.ow_rep 0 rfl) aG
   obtain ⟨rfl,_,rfl⟩ := sl3 he
   obtain ⟨aV,aW,ak⟩ := rk_Code_ (hm.ow_rep 0 rfl) aG
   have hL1_1 := rep_slice_len (hm.ow_rep 0 rfl)
   refine gI st_26 aO (idx_lt2 aG hL1_1) rfl (gF fo_44_0 rfl (gf0 rfl (λa hf=>e_setElemR (x1 := ((⟨aA.2,aC.regs,aC.blocks⟩ : Code_) : Code_)) (j := 0) (vs := [nV aA.2]) 0 hf hm rfl aG aW rfl (λF h ho=>(λ_=>own_fst_map (α := Int) (β := Int × (List Block_)) (cs := [nV aC.params]) (cs' := [nV aA.2]) (ds := [nV aC.regs,aV]) rfl (λ_ _=>Flat.own_iff.2 rfl)) F ho) rfl sizeOf3 rfl rfl rfl (one_cons rfl one_nil) rfl) ?_))
   rintro _ w hm
   have aM := List.getElem?_set_self (a := ((⟨aA.2,aC.regs,aC.blocks⟩ : Code_) : Code_)) (idx_lt aG)
   refine gE (gS (gR (gM rfl (gB rfl (gA rfl (gE (gS (gR (gM rfl (gM rfl (gM rfl ?_)))))))))))
   obtain ⟨_,_,aP,aX⟩ := ro_get' (hm.ow_rep 0 rfl) aM
   obtain ⟨_,_,rfl,rfl,_,_,rfl,rfl,aQ⟩ := aX
   obtain ⟨aL,rfl,-⟩ := id aQ
   replace aQ : GT.rep (hp _) [aL] aC.blocks := aQ
   replace aP : CellsAt (hp _) aH (aJ + (aD).toNat * 3) [nV aA.2,nV aC.regs,aL] := aP
   have hL1_2 := rep_slice_len (hm.ow_rep 0 rfl)
   refine gI st_26 aO (idx_lt2 aM hL1_2) rfl (gF fo_44_1 rfl (gf0 rfl (λa hf=>e_setElemR (x1 := ((⟨aA.2,w64 (aA.2 + 1),aC.blocks⟩ : Code_) : Code_)) (j := 1) (vs := [nV (w64 (aA.2 + 1))]) 0 hf hm rfl aM aP rfl (λF h ho=>(λ_=>own_snd_map (α := Int) (β := Int × (List Block_)) (cs := [nV aA.2]) (ds := [nV aC.regs,aL]) (ds' := [nV (w64 (aA.2 + 1)),aL]) rfl (λ_=>own_fst_map (α := Int) (β := (List Block_)) (cs := [nV aC.regs]) (cs' := [nV (w64 (aA.2 + 1))]) (ds := [aL]) rfl (λ_ _=>Flat.own_iff.2 rfl))) F ho) rfl sizeOf3 rfl rfl rfl (one_cons rfl one_nil) rfl) ?_))
   rintro _ w hm
   have aR := List.getElem?_set_self (a := ((⟨aA.2,w64 (aA.2 + 1),aC.blocks⟩ : Code_) : Code_)) (idx_lt aM)
   refine gE (gS (gR (gM rfl (gB rfl (gA rfl (gE (gR (gM rfl (gM rfl ?_)))))))))
   obtain ⟨_,_,aN,aY⟩ := ro_get' (hm.ow_rep 0 rfl) aR
   obtain ⟨_,_,rfl,rfl,_,_,rfl,rfl,aS⟩ := aY
   obtain ⟨aE,rfl,-⟩ := id aS
   replace aS : GT.rep (hp _) [aE] aC.blocks := aS
   replace aN : CellsAt (hp _) aH (aJ + (aD).toNat * 3) [nV aA.2,nV (w64 (aA.2 + 1)),aE] := aN
   have hL1_3 := rep_slice_len (hm.ow_rep 0 rfl)
   refine gI st_26 aO (idx_lt2 aR hL1_3) rfl (gF fo_44_2 rfl (gY (yl isAgg42 (aN.cell (j := 2) rfl) rfl) (gM rfl ?_)))
   replace hm : Mem w0 hz _ [ow [aE] aC.blocks,hole [sV aH aJ a_.length aF] [aE] (λ(y : List Block_)=>(((aA.1.set (aD).toNat (⟨aA.2,aC.regs,aC.blocks⟩ : Code_)).set (aD).toNat (⟨aA.2,w64 (aA.2 + 1),aC.blocks⟩ : Code_)) : List Code_).set (aD).toNat (⟨aA.2,w64 (aA.2 + 1),y⟩ : Code_))] := hm.open 0 rfl (foc_elem aR aN rfl (show FocH (α := Code_) _ _ (⟨aA.2,w64 (aA.2 + 1),aC.blocks⟩ : Code_) [aE] aC.blocks (λy=>(⟨aA.2,w64 (aA.2 + 1),y⟩ : Code_)) from (foc_snd (α := Int) (β := Int × (List Block_)) (cs := [nV aA.2]) (ds := [nV (w64 (aA.2 + 1)),aE]) (v := [aE]) (inner := aC.blocks) (x := (w64 (aA.2 + 1),aC.blocks)) (z := aA.2) (put := λ(y : List Block_)=>(w64 (aA.2 + 1),y)) rfl (foc_snd (α := Int) (β := (List Block_)) (cs := [nV (w64 (aA.2 + 1))]) (ds := [aE]) (v := [aE]) (inner := aC.blocks) (x := aC.blocks) (z := w64 (aA.2 + 1)) (put := λ(y : List Block_)=>y) rfl (foc_id [aE] aC.blocks)))))
   obtain ⟨aZ,hle,hm1,hsub,aa⟩ := hm.take2 (L1 := [ow [aE] aC.blocks]) (L2 := [hole [sV aH aJ a_.length aF] [aE] (λ(y : List Block_)=>(((aA.1.set (aD).toNat (⟨aA.2,aC.regs,aC.blocks⟩ : Code_)).set (aD).toNat (⟨aA.2,w64 (aA.2 + 1),aC.blocks⟩ : Code_)) : List Code_).set (aD).toNat (⟨aA.2,w64 (aA.2 + 1),y⟩ : Code_))]) [0] [1] (by decide) rfl rfl
   refine gCg rfl call64 (laws_markBlockS_ok _ aZ aC.blocks aE (w64 ((w64 (aA.2 + 1)) + 1)) hm1 ) ?_
   rintro ab al am w ⟨rfl,hB⟩
   replace hm := aa _ _ hB; clear hB
   replace hm := (hm.shut 1 0 (by decide) rfl rfl).pk (L' := [ow [sV aH aJ a_.length aF] (((aA.1.set (aD).toNat (⟨aA.2,aC.regs,aC.blocks⟩ : Code_)).set (aD).toNat (⟨aA.2,w64 (aA.2 + 1),aC.blocks⟩ : Code_)).set (aD).toNat (⟨aA.2,w64 (aA.2 + 1),ab.2⟩ : Code_))]) [1] rfl rfl
   exact gA rfl (gE (gR (gM rfl (gP (by omega) (by omega) rfl (gA rfl (gE (gze hm [0] rfl)))))))
  repeat clear hm
  intro an ao w hm ap aq
  refine gS (gS (gR (gM rfl (gM rfl ?_))))
  have ar := rep_len (hm.ow_rep 0 rfl)
  exact gY (yV st_26 rfl) (gB rfl (gE (go _ 9 rfl (decide_eq_false (by omega)) (gcf rfl (gXt (gHh (gS (gR (gM rfl (gA rfl (gE (gRt (gr1 results30 rfl ⟨rfl,hm.pk [0] rfl rfl⟩)))))))))))))
theorem laws_markUnit_ok (w0 : World) (hz : Heap) (a_ : Unit_) (v1 : Value) (k_ : Int) (hm0 : Mem w0 hz w0 [ow [v1] a_.codes]) :
    ConM Tryz.prog 11 [(.agg #[v1]),nV k_] w0 (laws_markUnit a_ k_) λr v w'=>v = (nV r.1) ∧ Mem w0 hz w' [ow [v1] r.2] := by
  unfold laws_markUnit
  refine gcon func11 rfl λr=>?_
  have hm := hm0
  refine gS (gR (gBx hm rfl λaA w hm=>gA rfl (gE (gS (gR (gF fo_28_0 rfl (gL hm 0 isAgg26 rfl (gM rfl ?_))))))))
  obtain ⟨aC,hle,hm1,hsub,aD⟩ := hm.take2 (L1 := [ow [v1] a_.codes]) (L2 := [blk aA [v1] 28]) [1] [0] (by decide) rfl rfl
  refine gCg rfl call30 (laws_markCodeS_ok _ aC a_.codes v1 k_ hm1 ) ?_
  rintro aE aF aG w ⟨rfl,hB⟩
  replace hm := aD _ _ hB; clear hB
  exact gA rfl (gE (gS (gR (gM rfl (gA rfl (gE (gRt (gr1 results11 rfl ⟨rfl,hm.pk [0] rfl rfl⟩))))))))
theorem laws_heldIntS_ok (w0 : World) (a_ : List Int) (v1 : Value) (h1 : GT.rep (hp w0) [v1] a_) (k_ : Int) :
    ConM Tryz.prog 103 [v1,nV k_] w0 (laws_heldIntS a_ k_) λr v w'=>v = (nV r) ∧ Below w0.heap.size w0 w' := by
  unfold laws_heldIntS
  refine gcon func103 rfl λr=>?_
  have hm := Mem.start w0
  refine gS (gR (gA rfl (gE (gS (gS (gR (gA rfl (gE (gBk (gNf hm (λaA aC=>[(0,v1),(1,(nV aC)),(5,(nV aA))]) (λaA aC=>[]) [] rfl ?_ ?_))))))))))
  ·repeat clear hm
   intro aL aE aA aC w hm aM aN aO aF
   refine gS (gS (gR (gM rfl (gM rfl ?_))))
   obtain ⟨aP,aQ,rfl,aR⟩ := ro_slice h1
   refine gY (yV st_47 rfl) (gB rfl (gE (go _ 9 rfl (decide_eq_true (by omega)) (gct rfl (gSk (gS (gBk (gS (gS (gR (gM rfl (gM rfl (gg λaG aH aD=>?_)))))))))))))
   obtain ⟨aS,aT,aV,he⟩ := idx_form h1 aD
   obtain ⟨rfl,_,rfl⟩ := sl3 he
   refine gI st_47 aH (idx_lt aD) rfl (gY (yl isAgg3 ((flat_cells (cs := [nV aG]) (hm.now h1) aD rfl).cell (j := 0) rfl) rfl) (gM rfl (gB rfl (gE (gsd 17 rfl (λaJ=>?_) λaJ=>?_)))))
   ·exact gct rfl (gS (gR (gA rfl (gE (gRt (gLr aF aE (gr1 results103 rfl ⟨rfl,hm.below⟩)))))))
   exact gcf rfl (gSk (gR (gM rfl (gB rfl (gA rfl (gE (gR (gM rfl (gP (by omega) (by omega) rfl (gA rfl (gE (gze hm [] rfl))))))))))))
  repeat clear hm
  intro aW aX w hm aY aZ
  refine gS (gS (gR (gM rfl (gM rfl ?_))))
  obtain ⟨aa,ab,rfl,ac⟩ := ro_slice h1
  exact gY (yV st_47 rfl) (gB rfl (gE (go _ 9 rfl (decide_eq_false (by omega)) (gcf rfl (gXt (gHh (gS (gR (gM rfl (gA rfl (gE (gRt (gr1 results103 rfl ⟨rfl,hm.below⟩)))))))))))))
theorem laws_heldPhiS_ok (w0 : World) (a_ : List Phi_) (v1 : Value) (h1 : GT.rep (hp w0) [v1] a_) (k_ : Int) :
    ConM Tryz.prog 101 [v1,nV k_] w0 (laws_heldPhiS a_ k_) λr v w'=>v = (nV r) ∧ Below w0.heap.size w0 w' := by
  unfold laws_heldPhiS
  refine gcon func101 rfl λr=>?_
  have hm := Mem.start w0
  refine gS (gR (gA rfl (gE (gS (gS (gR (gA rfl (gE (gBk (gNf hm (λaD aA=>[(0,v1),(1,(nV aA)),(5,(nV aD))]) (λaD aA=>[]) [] rfl ?_ ?_))))))))))
  ·repeat clear hm
   intro aP aE aD aA w hm aQ aR aS aF
   refine gS (gS (gR (gM rfl (gM rfl ?_))))
   obtain ⟨aT,aV,rfl,aW⟩ := ro_slice h1
   refine gY (yV st_45 rfl) (gB rfl (gE (go _ 9 rfl (decide_eq_true (by omega)) (gct rfl (gSk (gS (gBk (gS (gS (gR (gM rfl (gM rfl (gg λaJ aG aC=>?_)))))))))))))
   obtain ⟨aX,aY,aZ,he⟩ := idx_form' h1 aC
   obtain ⟨rfl,_,rfl⟩ := sl3 he
   obtain ⟨aL,aH,aM⟩ := rk_Phi_ h1 aC
   refine gI st_45 aG (idx_lt aC) rfl (gF fo_105_0 rfl (gY (yl isAgg3 ((aH.mono hm.lez).cell (j := 0) rfl) rfl) (gM rfl (gB rfl (gE (gsd 18 rfl (λaN=>?_) λaN=>?_))))))
   ·exact gct rfl (gS (gR (gA rfl (gE (gRt (gLr aF aE (gr1 results101 rfl ⟨rfl,hm.below⟩)))))))
   refine gcf rfl (gSk (gS (gR (gM rfl (gB rfl (gA rfl (gE (gS (gR (gM rfl (gM rfl (gI st_45 aG (idx_lt aC) rfl (gF fo_105_1 rfl (gY (yl isAgg47 ((aH.mono hm.lez).cell (j := 1) rfl) rfl) (gM rfl (gC hm rfl call103 (laws_heldIntS_ok _ aJ.args aL (hm.now aM) (w64 (aA + 1))) λaa ab w hm=>gA rfl (gE (gS (gR (gM rfl (gB rfl (gE (gsd 29 rfl (λaO=>?_) λaO=>?_)))))))))))))))))))))))
   ·exact gct rfl (gS (gR (gA rfl (gE (gRt (gLr aF aE (gr1 results101 rfl ⟨rfl,hm.below⟩)))))))
   exact gcf rfl (gSk (gR (gM rfl (gP (by omega) (by omega) rfl (gA rfl (gE (gze hm [] rfl)))))))
  repeat clear hm
  intro ac ae w hm af ah
  refine gS (gS (gR (gM rfl (gM rfl ?_))))
  obtain ⟨ai,aj,rfl,ak⟩ := ro_slice h1
  exact gY (yV st_45 rfl) (gB rfl (gE (go _ 9 rfl (decide_eq_false (by omega)) (gcf rfl (gXt (gHh (gS (gR (gM rfl (gA rfl (gE (gRt (gr1 results101 rfl ⟨rfl,hm.below⟩)))))))))))))
theorem laws_heldInsS_ok (w0 : World) (a_ : List Ins_) (v1 : Value) (h1 : GT.rep (hp w0) [v1] a_) (k_ : Int) :
    ConM Tryz.prog 102 [v1,nV k_] w0 (laws_heldInsS a_ k_) λr v w'=>v = (nV r) ∧ Below w0.heap.size w0 w' := by
  unfold laws_heldInsS
  refine gcon func102 rfl λr=>?_
  have hm := Mem.start w0
  refine gS (gR (gA rfl (gE (gS (gS (gR (gA rfl (gE (gBk (gNf hm (λaH aC=>[(0,v1),(1,(nV aC)),(5,(nV aH))]) (λaH aC=>[]) [] rfl ?_ ?_))))))))))
  ·repeat clear hm
   intro aR aD aH aC w hm aS aT aV aE
   refine gS (gS (gR (gM rfl (gM rfl ?_))))
   obtain ⟨aW,aX,rfl,aY⟩ := ro_slice h1
   refine gY (yV st_46 rfl) (gB rfl (gE (go _ 9 rfl (decide_eq_true (by omega)) (gct rfl (gSk (gS (gBk (gS (gS (gR (gM rfl (gM rfl (gg λaJ aF aA=>?_)))))))))))))
   obtain ⟨aZ,aa,ab,he⟩ := idx_form' h1 aA
   obtain ⟨rfl,_,rfl⟩ := sl3 he
   obtain ⟨aL,aG,aM⟩ := rk_Ins_ h1 aA
   refine gI st_46 aF (idx_lt aA) rfl (gF fo_51_0 rfl (gY (yl isAgg3 ((aG.mono hm.lez).cell (j := 0) rfl) rfl) (gM rfl (gB rfl (gE (gsd 18 rfl (λaN=>?_) λaN=>?_))))))
   ·exact gct rfl (gS (gR (gA rfl (gE (gRt (gLr aE aD (gr1 results102 rfl ⟨rfl,hm.below⟩)))))))
   refine gcf rfl (gSk (gS (gR (gM rfl (gB rfl (gA rfl (gE (gS (gS (gR (gM rfl (gM rfl (gI st_46 aF (idx_lt aA) rfl (gF fo_51_1 rfl (gY (yl isAgg3 ((aG.mono hm.lez).cell (j := 1) rfl) rfl) (gM rfl (gB rfl (gE (gsd 27 rfl (λaO=>?_) λaO=>?_)))))))))))))))))))
   ·exact gct rfl (gS (gR (gA rfl (gE (gRt (gLr aE aD (gr1 results102 rfl ⟨rfl,hm.below⟩)))))))
   refine gcf rfl (gSk (gS (gR (gM rfl (gB rfl (gA rfl (gE (gS (gR (gM rfl (gM rfl (gI st_46 aF (idx_lt aA) rfl (gF fo_51_2 rfl (gY (yl isAgg47 ((aG.mono hm.lez).cell (j := 2) rfl) rfl) (gM rfl (gC hm rfl call103 (laws_heldIntS_ok _ aJ.args aL (hm.now aM) (w64 ((w64 (aC + 1)) + 1))) λac ae w hm=>gA rfl (gE (gS (gS (gR (gM rfl (gB rfl (gE (gsd 38 rfl (λaP=>?_) λaP=>?_))))))))))))))))))))))))
   ·exact gct rfl (gS (gR (gA rfl (gE (gRt (gLr aE aD (gr1 results102 rfl ⟨rfl,hm.below⟩)))))))
   refine gcf rfl (gSk (gS (gS (gR (gM rfl (gM rfl (gI st_46 aF (idx_lt aA) rfl (gF fo_51_3 rfl (gY (yl isAgg3 ((aG.mono hm.lez).cell (j := 3) rfl) rfl) (gM rfl (gB rfl (gE (gsd 45 rfl (λaQ=>?_) λaQ=>?_)))))))))))))
   ·exact gct rfl (gS (gR (gA rfl (gE (gRt (gLr aE aD (gr1 results102 rfl ⟨rfl,hm.below⟩)))))))
   exact gcf rfl (gSk (gR (gM rfl (gB rfl (gA rfl (gE (gR (gM rfl (gP (by omega) (by omega) rfl (gA rfl (gE (gze hm [] rfl))))))))))))
  repeat clear hm
  intro af ah w hm ai aj
  refine gS (gS (gR (gM rfl (gM rfl ?_))))
  obtain ⟨ak,al,rfl,am⟩ := ro_slice h1
  exact gY (yV st_46 rfl) (gB rfl (gE (go _ 9 rfl (decide_eq_false (by omega)) (gcf rfl (gXt (gHh (gS (gR (gM rfl (gA rfl (gE (gRt (gr1 results102 rfl ⟨rfl,hm.below⟩)))))))))))))
theorem laws_heldBlockS_ok (w0 : World) (a_ : List Block_) (v1 : Value) (h1 : GT.rep (hp w0) [v1] a_) (k_ : Int) :
    ConM Tryz.prog 65 [v1,nV k_] w0 (laws_heldBlockS a_ k_) λr v w'=>v = (nV r) ∧ Below w0.heap.size w0 w' := by
  unfold laws_heldBlockS
  refine gcon func65 rfl λr=>?_
  have hm := Mem.start w0
  refine gS (gR (gA rfl (gE (gS (gS (gR (gA rfl (gE (gBk (gNf hm (λaH aG=>[(0,v1),(1,(nV aG)),(5,(nV aH))]) (λaH aG=>[]) [] rfl ?_ ?_))))))))))
  ·repeat clear hm
   intro aZ aC aH aG w hm aa ab ac aD
   refine gS (gS (gR (gM rfl (gM rfl ?_))))
   obtain ⟨ae,af,rfl,ah⟩ := ro_slice h1
   refine gY (yV st_42 rfl) (gB rfl (gE (go _ 9 rfl (decide_eq_true (by omega)) (gct rfl (gSk (gS (gBk (gS (gR (gM rfl (gM rfl (gg λaJ aE aA=>?_))))))))))))
   obtain ⟨ai,aj,ak,he⟩ := idx_form' h1 aA
   obtain ⟨rfl,_,rfl⟩ := sl3 he
   obtain ⟨aL,aM,aN,aF,aO,aP,aQ⟩ := rk_Block_ h1 aA
   refine gI st_42 aE (idx_lt aA) rfl (gF fo_49_0 rfl (gY (yl isAgg45 ((aF.mono hm.lez).cell (j := 0) rfl) rfl) (gM rfl (gC hm rfl call101 (laws_heldPhiS_ok _ aJ.phis aL (hm.now aO) aG) λaR al w hm=>gA rfl (gE (gS (gS (gR (gM rfl (gB rfl (gE (gsd 20 rfl (λaS=>?_) λaS=>?_))))))))))))
   ·exact gct rfl (gS (gR (gA rfl (gE (gRt (gLr aD aC (gr1 results65 rfl ⟨rfl,hm.below⟩)))))))
   refine gcf rfl (gSk (gS (gR (gM rfl (gM rfl (gI st_42 aE (idx_lt aA) rfl (gF fo_49_1 rfl (gY (yl isAgg46 ((aF.mono hm.lez).cell (j := 1) rfl) rfl) (gM rfl (gC hm rfl call102 (laws_heldInsS_ok _ aJ.ins aM (hm.now aP) aR) λaT am w hm=>gA rfl (gE (gS (gS (gR (gM rfl (gB rfl (gE (gsd 29 rfl (λaV=>?_) λaV=>?_))))))))))))))))))
   ·exact gct rfl (gS (gR (gA rfl (gE (gRt (gLr aD aC (gr1 results65 rfl ⟨rfl,hm.below⟩)))))))
   refine gcf rfl (gSk (gS (gS (gR (gM rfl (gM rfl (gI st_42 aE (idx_lt aA) rfl (gF fo_49_2 rfl (gY (yl isAgg3 ((aF.mono hm.lez).cell (j := 2) rfl) rfl) (gM rfl (gB rfl (gE (gsd 36 rfl (λaW=>?_) λaW=>?_)))))))))))))
   ·exact gct rfl (gS (gR (gA rfl (gE (gRt (gLr aD aC (gr1 results65 rfl ⟨rfl,hm.below⟩)))))))
   refine gcf rfl (gSk (gS (gR (gM rfl (gB rfl (gA rfl (gE (gS (gS (gR (gM rfl (gM rfl (gI st_42 aE (idx_lt aA) rfl (gF fo_49_3 rfl (gY (yl isAgg3 ((aF.mono hm.lez).cell (j := 3) rfl) rfl) (gM rfl (gB rfl (gE (gsd 45 rfl (λaX=>?_) λaX=>?_)))))))))))))))))))
   ·exact gct rfl (gS (gR (gA rfl (gE (gRt (gLr aD aC (gr1 results65 rfl ⟨rfl,hm.below⟩)))))))
   refine gcf rfl (gSk (gS (gR (gM rfl (gB rfl (gA rfl (gE (gS (gR (gM rfl (gM rfl (gI st_42 aE (idx_lt aA) rfl (gF fo_49_4 rfl (gY (yl isAgg47 ((aF.mono hm.lez).cell (j := 4) rfl) rfl) (gM rfl (gC hm rfl call103 (laws_heldIntS_ok _ aJ.next_ aN (hm.now aQ) (w64 ((w64 (aT + 1)) + 1))) λan ao w hm=>gA rfl (gE (gS (gR (gM rfl (gB rfl (gE (gsd 56 rfl (λaY=>?_) λaY=>?_)))))))))))))))))))))))
   ·exact gct rfl (gS (gR (gA rfl (gE (gRt (gLr aD aC (gr1 results65 rfl ⟨rfl,hm.below⟩)))))))
   exact gcf rfl (gSk (gR (gM rfl (gP (by omega) (by omega) rfl (gA rfl (gE (gze hm [] rfl)))))))
  repeat clear hm
  intro ap aq w hm ar au
  refine gS (gS (gR (gM rfl (gM rfl ?_))))
  obtain ⟨av,aw,rfl,ax⟩ := ro_slice h1
  exact gY (yV st_42 rfl) (gB rfl (gE (go _ 9 rfl (decide_eq_false (by omega)) (gcf rfl (gXt (gHh (gS (gR (gM rfl (gA rfl (gE (gRt (gr1 results65 rfl ⟨rfl,hm.below⟩)))))))))))))
theorem laws_heldCodeS_ok (w0 : World) (a_ : List Code_) (v1 : Value) (h1 : GT.rep (hp w0) [v1] a_) (k_ : Int) :
    ConM Tryz.prog 31 [v1,nV k_] w0 (laws_heldCodeS a_ k_) λr v w'=>v = (nV r) ∧ Below w0.heap.size w0 w' := by
  unfold laws_heldCodeS
  refine gcon func31 rfl λr=>?_
  have hm := Mem.start w0
  refine gS (gR (gA rfl (gE (gS (gS (gR (gA rfl (gE (gBk (gNf hm (λaD aC=>[(0,v1),(1,(nV aC)),(5,(nV aD))]) (λaD aC=>[]) [] rfl ?_ ?_))))))))))
  ·repeat clear hm
   intro aQ aE aD aC w hm aR aS aT aF
   refine gS (gS (gR (gM rfl (gM rfl ?_))))
   obtain ⟨aV,aW,rfl,aX⟩ := ro_slice h1
   refine gY (yV st_26 rfl) (gB rfl (gE (go _ 9 rfl (decide_eq_true (by omega)) (gct rfl (gSk (gS (gBk (gS (gS (gR (gM rfl (gM rfl (gg λaJ aG aA=>?_)))))))))))))
   obtain ⟨aY,aZ,aa,he⟩ := idx_form' h1 aA
   obtain ⟨rfl,_,rfl⟩ := sl3 he
   obtain ⟨aL,aH,aM⟩ := rk_Code_ h1 aA
   refine gI st_26 aG (idx_lt aA) rfl (gF fo_44_0 rfl (gY (yl isAgg3 ((aH.mono hm.lez).cell (j := 0) rfl) rfl) (gM rfl (gB rfl (gE (gsd 18 rfl (λaN=>?_) λaN=>?_))))))
   ·exact gct rfl (gS (gR (gA rfl (gE (gRt (gLr aF aE (gr1 results31 rfl ⟨rfl,hm.below⟩)))))))
   refine gcf rfl (gSk (gS (gR (gM rfl (gB rfl (gA rfl (gE (gS (gS (gR (gM rfl (gM rfl (gI st_26 aG (idx_lt aA) rfl (gF fo_44_1 rfl (gY (yl isAgg3 ((aH.mono hm.lez).cell (j := 1) rfl) rfl) (gM rfl (gB rfl (gE (gsd 27 rfl (λaO=>?_) λaO=>?_)))))))))))))))))))
   ·exact gct rfl (gS (gR (gA rfl (gE (gRt (gLr aF aE (gr1 results31 rfl ⟨rfl,hm.below⟩)))))))
   refine gcf rfl (gSk (gS (gR (gM rfl (gB rfl (gA rfl (gE (gS (gR (gM rfl (gM rfl (gI st_26 aG (idx_lt aA) rfl (gF fo_44_2 rfl (gY (yl isAgg42 ((aH.mono hm.lez).cell (j := 2) rfl) rfl) (gM rfl (gC hm rfl call65 (laws_heldBlockS_ok _ aJ.blocks aL (hm.now aM) (w64 ((w64 (aC + 1)) + 1))) λab ac w hm=>gA rfl (gE (gS (gR (gM rfl (gB rfl (gE (gsd 38 rfl (λaP=>?_) λaP=>?_)))))))))))))))))))))))
   ·exact gct rfl (gS (gR (gA rfl (gE (gRt (gLr aF aE (gr1 results31 rfl ⟨rfl,hm.below⟩)))))))
   exact gcf rfl (gSk (gR (gM rfl (gP (by omega) (by omega) rfl (gA rfl (gE (gze hm [] rfl)))))))
  repeat clear hm
  intro ae af w hm ah ai
  refine gS (gS (gR (gM rfl (gM rfl ?_))))
  obtain ⟨aj,ak,rfl,al⟩ := ro_slice h1
  exact gY (yV st_26 rfl) (gB rfl (gE (go _ 9 rfl (decide_eq_false (by omega)) (gcf rfl (gXt (gHh (gS (gR (gM rfl (gA rfl (gE (gRt (gr1 results31 rfl ⟨rfl,hm.below⟩)))))))))))))
theorem laws_heldUnit_ok (w0 : World) (a_ : Unit_) (v1 : Value) (h1 : GT.rep (hp w0) [v1] a_.codes) (k_ : Int) :
    ConM Tryz.prog 12 [(.agg #[v1]),nV k_] w0 (laws_heldUnit a_ k_) λr v w'=>v = (nV r) ∧ Below w0.heap.size w0 w' := by
  unfold laws_heldUnit
  refine gcon func12 rfl λr=>?_
  have hm := Mem.start w0
  refine gS (gR (gBx hm rfl λaC w hm=>gA rfl (gE (gS (gR (gF fo_28_0 rfl (gL hm 0 isAgg26 rfl (gM rfl (gC hm rfl call31 (laws_heldCodeS_ok _ a_.codes v1 (hm.now h1) k_) λaD aE w hm=>gA rfl (gE (gS (gS (gR (gM rfl (gB rfl (gE (gsd 10 rfl (λaA=>?_) λaA=>?_)))))))))))))))))
  ·exact gct rfl (gS (gR (gA rfl (gE (gRt (gr1 results12 rfl ⟨rfl,hm.below⟩))))))
  exact gcf rfl (gSk (gS (gR (gM rfl (gA rfl (gE (gRt (gr1 results12 rfl ⟨rfl,hm.below⟩))))))))
theorem laws_FnExactInlineCall_ok (w0 : World) (aU : Unit_) (v1 : Value) (h1 : GT.rep (hp w0) [v1] aU.codes) (aK : Int) (aB : Int) (aI : Int) :
    ConM Tryz.prog 3 [(.agg #[v1]),nV aK,nV aB,nV aI] w0 (laws_FnExactInlineCall aU aK aB aI) λr v w'=>v = (.bool (r)) ∧ Below w0.heap.size w0 w' := by
  unfold laws_FnExactInlineCall
  refine gcon func3 rfl λr=>?_
  have hm := Mem.start w0
  refine gS (gR (gBx hm rfl λaH w hm=>gA rfl (gE (gS (gR (gA rfl (gE (gS (gR (gY (yn (hm.blk_at 0 rfl) isAgg24 sizeOf24 rfl) (gM rfl (gC hm rfl call6 (laws_szUnit_ok _ aU v1 (hm.now h1) 1048576) λax ay w hm=>gA rfl (gE (gS (gS (gR (gM rfl (gB rfl (gE (gsd 24 rfl (λaT=>?_) λaT=>?_))))))))))))))))))))
  ·exact gct rfl (gS (gR (gA rfl (gE (gRt (gr1 results3 rfl ⟨rfl,hm.below⟩))))))
  refine gcf rfl (gSk (gS (gR (gY (yn (hm.blk_at 0 rfl) isAgg24 sizeOf24 rfl) (gCg rfl call8 (laws_toUnit_ok _ aU v1 (hm.now h1)) ?_)))))
  rintro aV az bA w ⟨aW,rfl,hB⟩
  replace hm := hm.give hB; clear hB
  refine gM rfl (gM rfl (gM rfl (gCg rfl call7 (spec_InlineCall_ok _ aV aW (hm.ow_rep 0 rfl) aK aB aI) ?_)))
  rintro aD bB bC w ⟨aC,rfl,hB⟩
  replace hm := hm.give hB; clear hB
  refine gM rfl (gX rfl (gX rfl (gAl hm zeroValue28 rfl λaJ w hm=>gSN hm 0 sizeOf28 (one_cons (rep_one (hm.ow_rep 1 rfl)) one_nil) rfl λw hm=>gA rfl (gE (gS (gR (gY (yn (hm.blk_at 3 rfl) isAgg24 sizeOf24 rfl) (gCg rfl call8 (laws_toUnit_ok _ aU v1 (hm.now h1)) ?_))))))))
  rintro aL bD bE w ⟨aE,rfl,hB⟩
  replace hm := hm.give hB; clear hB
  refine gAl hm zeroValue28 rfl λaM w hm=>gSN hm 0 sizeOf28 (one_cons (rep_one (hm.ow_rep 1 rfl)) one_nil) rfl λw hm=>gE (gS (gR (gY (yn (hm.blk_at 0 rfl) isAgg28 sizeOf28 rfl) (gM rfl (gM rfl (gM rfl (gCg rfl call9 (impl_InlineCall_ok _ aL aE (hm.ow_rep 1 rfl) aK aB aI) ?_)))))))
  rintro aF bF bG w ⟨aA,rfl,hB⟩
  replace hm := hm.give hB; clear hB
  refine gM rfl (gX rfl (gX rfl (gAl hm zeroValue28 rfl λaG w hm=>gSN hm 0 sizeOf28 (one_cons (rep_one (hm.ow_rep 1 rfl)) one_nil) rfl λw hm=>gA rfl (gE (gS (gS (gJ hm (λaN=>[(1,(nV aK)),(2,(nV aB)),(3,(nV aI)),(4,(pV aH)),(10,(pV aJ)),(11,(.bool (aD.2))),(12,(pV aM)),(13,(pV aG)),(14,(.bool (aF.2))),(52,(.bool (aN)))]) (λaN=>[blk aH [v1] 24,blk aJ [aC] 28,ow [aC] aD.1.codes,blk aM [aE] 28,ow [aE] aL.codes,blk aG [aA] 28,ow [aA] aF.1.codes]) (λaN=>?_) ?_)))))))
  ·refine gR (gY (yn (hm.blk_at 0 rfl) isAgg28 sizeOf28 rfl) (gY (yn (hm.blk_at 4 rfl) isAgg28 sizeOf28 rfl) (gC hm rfl call10 (laws_eqUnit_ok _ aF.1 aA (hm.ow_rep 1 rfl) aD.1 aC (hm.ow_rep 5 rfl)) fun bH bJ w hm => gN rfl (gM rfl (gsn 48 rfl (fun aX => ?_) fun aX => ?_)))))
   ·exact gO rfl (gO rfl (gO rfl (gKt rfl (gE (gz hm [7,4,5,2,3,0,1] rfl)))))
   exact gM rfl (gM rfl (gY (yG rfl (y_neqb underlying4 rfl rfl rfl)) (gKf rfl (gE (gz hm [7,4,5,2,3,0,1] rfl)))))
  repeat clear hm
  intro aN w hm
  refine gs 52 rfl (λaY=>?_) λaY=>?_
  ·exact gct rfl (gS (gR (gA rfl (gE (gRt (gr1 results3 rfl ⟨rfl,hm.below⟩))))))
  refine gcf rfl (gSk (gS (gS (gW (.q 0 (.e 1 (.e 2 (.e 3 (.p 4 .fin) .nil) .nil) .nil)) [1,2] [4] hm [0,1,2,3,4,5,6] [blk aH [v1] 24,blk aJ [aC] 28,ow [aC] aD.1.codes,blk aM [aE] 28,ow [aE] aL.codes,blk aG [aA] 28,ow [aA] aF.1.codes] rfl mxo (by kernel_rfl) (λ_ _ _ h=>h.2) λw hm hS=>tQ rfl hS (λw hm=>yn (hm.blk_at 3 rfl) isAgg28 sizeOf28 rfl) (tO (tY rfl (yn (hm.blk_at 0 rfl) isAgg24 sizeOf24 rfl) (tAs hS (tO (gb λaR aZ=>tf rfl rfl (λa hf=>e_call hf rfl call8 rfl (laws_toUnit_ok _ aU v1 (hm.now h1) _ aZ)) ?_)))))))))
  rintro bK w ⟨aS,rfl,hB⟩
  replace hm := hm.give hB; clear hB
  refine tAk hm [1,2,3,4,5,6,7] rfl λhS=>tO (gb λbL aa=>tf rfl rfl (λa hf=>e_call hf rfl call10 rfl (laws_eqUnit_ok _ aL aE (hm.ow_rep 5 rfl) aR aS (hm.ow_rep 0 rfl) _ aa)) ?_)
  rintro bM w ⟨rfl,hB⟩
  replace hm := hm.below' hB; clear hB
  refine tAn rfl (tP rfl (λw=>yN rfl) (tE (gsn 57 rfl (λab=>?_) λab=>?_)))
  ·exact gct rfl (gS (gR (gA rfl (gE (gRt (gr1 results3 rfl ⟨rfl,hm.below⟩))))))
  refine gcf rfl (gSk (gS (gR (gA rfl (gE (gS (gR (gY (yn (hm.blk_at 4 rfl) isAgg28 sizeOf28 rfl) (gM rfl ?_)))))))))
  obtain ⟨ac,hle,hm1,hsub,ae⟩ := hm.take2 (L1 := [ow [aE] aL.codes]) (L2 := [ow [aS] aR.codes,blk aH [v1] 24,blk aJ [aC] 28,ow [aC] aD.1.codes,blk aM [aE] 28,blk aG [aA] 28,ow [aA] aF.1.codes]) [5] [0,1,2,3,4,6,7] (by decide) rfl rfl
  refine gCg rfl call11 (laws_markUnit_ok _ ac aL aE 1 hm1 ) ?_
  rintro bN bO bP w ⟨rfl,hB⟩
  replace hm := ae _ _ hB; clear hB
  refine gA rfl (gE (gS (gS (gJ hm (λaO=>[(1,(nV aK)),(2,(nV aB)),(3,(nV aI)),(4,(pV aH)),(10,(pV aJ)),(11,(.bool (aD.2))),(13,(pV aG)),(73,(.bool (aO)))]) (λaO=>[blk aH [v1] 24,blk aJ [aC] 28,ow [aC] aD.1.codes,blk aG [aA] 28,ow [aA] aF.1.codes]) (λaO=>?_) ?_))))
  ·refine gR (gM rfl (gB rfl (gM rfl (gsd 63 rfl (fun af => ?_) fun af => ?_))))
   ·exact gO rfl (gO rfl (gO rfl (gO rfl (gKt rfl (gM rfl (gO rfl (gO rfl (gO rfl (gKt rfl (gE (gz hm [2,3,4,6,7] rfl)))))))))))
   refine gY (yn (hm.blk_at 6 rfl) isAgg28 sizeOf28 rfl) (gY (yn (hm.blk_at 3 rfl) isAgg28 sizeOf28 rfl) (gC hm rfl call10 (laws_eqUnit_ok _ aF.1 aA (hm.ow_rep 7 rfl) aD.1 aC (hm.ow_rep 4 rfl)) λbQ bR w hm=>gN rfl (gKf rfl (gM rfl (gsn 69 rfl (λah=>?_) λah=>?_)))))
   ·exact gO rfl (gO rfl (gO rfl (gKt rfl (gE (gz hm [2,3,4,6,7] rfl)))))
   exact gM rfl (gM rfl (gY (yG rfl (y_neqb underlying4 rfl rfl rfl)) (gKf rfl (gE (gz hm [2,3,4,6,7] rfl)))))
  repeat clear hm
  intro aO w hm
  refine gs 73 rfl (λai=>?_) λai=>?_
  ·exact gct rfl (gS (gR (gA rfl (gE (gRt (gr1 results3 rfl ⟨rfl,hm.below⟩))))))
  refine gcf rfl (gSk (gS (gR (gA rfl (gE (gS (gR (gY (yn (hm.blk_at 3 rfl) isAgg28 sizeOf28 rfl) (gM rfl ?_)))))))))
  obtain ⟨aj,hle,hm1,hsub,ak⟩ := hm.take2 (L1 := [ow [aA] aF.1.codes]) (L2 := [blk aH [v1] 24,blk aJ [aC] 28,ow [aC] aD.1.codes,blk aG [aA] 28]) [4] [0,1,2,3] (by decide) rfl rfl
  refine gCg rfl call11 (laws_markUnit_ok _ aj aF.1 aA 1 hm1 ) ?_
  rintro aP bS bT w ⟨rfl,hB⟩
  replace hm := ak _ _ hB; clear hB
  refine gA rfl (gE (gS (gR (gA rfl (gE (gS (gR (gY (yn (hm.blk_at 4 rfl) isAgg28 sizeOf28 rfl) (gM rfl (gC hm rfl call12 (laws_heldUnit_ok _ (⟨aP.2⟩ : Unit_) aA (hm.ow_rep 0 rfl) 1) λbU bV w hm=>gA rfl (gE (gS (gS (gR (gM rfl (gB rfl (gE (gsd 81 rfl (λal=>?_) λal=>?_))))))))))))))))))
  ·exact gct rfl (gS (gR (gA rfl (gE (gRt (gr1 results3 rfl ⟨rfl,hm.below⟩))))))
  refine gcf rfl (gSk (gS (gS (gR (gM rfl (gM rfl (gB rfl (gE (gsd 84 rfl (λam=>?_) λam=>?_)))))))))
  ·exact gct rfl (gS (gR (gA rfl (gE (gRt (gr1 results3 rfl ⟨rfl,hm.below⟩))))))
  refine gcf rfl (gSk (gS (gR (gY (yn (hm.blk_at 1 rfl) isAgg24 sizeOf24 rfl) (gCg rfl call8 (laws_toUnit_ok _ aU v1 (hm.now h1)) ?_)))))
  rintro an bW bX w ⟨ao,rfl,hB⟩
  replace hm := hm.give hB; clear hB
  refine gM rfl (gM rfl (gM rfl (gCg rfl call9 (impl_InlineCall_ok _ an ao (hm.ow_rep 0 rfl) aK aB aI) ?_)))
  rintro ap bY bZ w ⟨aq,rfl,hB⟩
  replace hm := hm.give hB; clear hB
  refine gM rfl (gX rfl (gX rfl (gAl hm zeroValue28 rfl λb6 w hm=>gSN hm 0 sizeOf28 (one_cons (rep_one (hm.ow_rep 1 rfl)) one_nil) rfl λw hm=>gA rfl (gE (gS (gS (gJ hm (λaQ=>[(13,(pV aG)),(16,(nV aP.1)),(102,(.bool (aQ)))]) (λaQ=>[blk aG [aA] 28,ow [aA] aP.2]) (λaQ=>?_) ?_)))))))
  ·refine gR (gY (yn (hm.blk_at 0 rfl) isAgg28 sizeOf28 rfl) (gY (yn (hm.blk_at 5 rfl) isAgg28 sizeOf28 rfl) (gC hm rfl call10 (laws_eqUnit_ok _ ap.1 aq (hm.ow_rep 1 rfl) aD.1 aC (hm.ow_rep 6 rfl)) fun b7 b8 w hm => gN rfl (gM rfl (gsn 98 rfl (fun ar => ?_) fun ar => ?_)))))
   ·exact gO rfl (gO rfl (gO rfl (gKt rfl (gE (gz hm [7,3] rfl)))))
   exact gM rfl (gM rfl (gY (yG rfl (y_neqb underlying4 rfl rfl rfl)) (gKf rfl (gE (gz hm [7,3] rfl)))))
  repeat clear hm
  intro aQ w hm
  refine gs 102 rfl (λau=>?_) λau=>?_
  ·exact gct rfl (gS (gR (gA rfl (gE (gRt (gr1 results3 rfl ⟨rfl,hm.below⟩))))))
  refine gcf rfl (gSk (gS (gR (gA rfl (gE (gS (gR (gY (yn (hm.blk_at 0 rfl) isAgg28 sizeOf28 rfl) (gM rfl (gC hm rfl call12 (laws_heldUnit_ok _ (⟨aP.2⟩ : Unit_) aA (hm.ow_rep 1 rfl) 1) λb9 ba w hm=>gA rfl (gE (gS (gS (gR (gM rfl (gB rfl (gE (gsd 107 rfl (λav=>?_) λav=>?_))))))))))))))))))
  ·exact gct rfl (gS (gR (gA rfl (gE (gRt (gr1 results3 rfl ⟨rfl,hm.below⟩))))))
  refine gcf rfl (gSk (gS (gS (gR (gM rfl (gM rfl (gB rfl (gE (gsd 110 rfl (λaw=>?_) λaw=>?_)))))))))
  ·exact gct rfl (gS (gR (gA rfl (gE (gRt (gr1 results3 rfl ⟨rfl,hm.below⟩))))))
  exact gcf rfl (gSk (gS (gR (gA rfl (gE (gRt (gr1 results3 rfl ⟨rfl,hm.below⟩)))))))
end Go.Proofs.YthikiocjbepfnaaGreat
